/-
  Texts SortF, SrtA, SrtB, PlyH, PlyL, SymC, PlyM, R01S, PlyN, R03A, RewA, RewB, RewC, RewD, UniT, MatA, RewF, PlyO, PlyP of this proof, joined.
-/
import Derived.Shelf.SlSortCmp.WholeK
import Derived.Shelf.SlSortCmp.NoneTotal
import Derived.Ground.SlsfProg
import Derived.Test.YthhnadeoioeniaaGreatProg
import Derived.Test.YthhnadeoioeniaaGreatP13
namespace Go.Proofs.YthhnadeoioeniaaGreat
open Go.Shelf
def laysSF_ren:Go.Shelf.Ren:=⟨fun | 6=>38 | 15=>90 | 14=>89 | 28=>145 | 29=>146 | 20=>137 | 21=>138 | 22=>139 | 23=>140 | 24=>141 | 25=>142 | 26=>143 | 27=>144 | 46=>183 | 47=>184 | 48=>185 | 49=>186 | 50=>187 | 57=>200 | n=>n,fun | 22=>27 | 24=>82 | 25=>87 | 3=>3 | 39=>139 | 0=>0 | 53=>193 | 55=>31 | 4=>4 | 46=>187 | 45=>186 | 50=>155 | 5=>5 | 9=>9 | 66=>222 | 70=>226 | 76=>236 | 77=>83 | n=>n,fun | n=>n⟩
theorem laysSF:Go.Proofs.SlLaysF0.n6 Tryz.prog laysSF_ren:={
 mixed:=by kernel_rfl
 f6:=⟨Tryz.f38.name,by decide,Tryz.func38.trans (congrArg some (by kernel_rfl))⟩
 f14:=⟨Tryz.f89.name,by decide,Tryz.func89.trans (congrArg some (by kernel_rfl))⟩
 f15:=Tryz.func90.trans (congrArg some (by kernel_rfl))
 f20:=⟨Tryz.f137.name,by decide,Tryz.func137.trans (congrArg some (by kernel_rfl))⟩
 f21:=⟨Tryz.f138.name,by decide,Tryz.func138.trans (congrArg some (by kernel_rfl))⟩
 f22:=⟨Tryz.f139.name,by decide,Tryz.func139.trans (congrArg some (by kernel_rfl))⟩
 f23:=⟨Tryz.f140.name,by decide,Tryz.func140.trans (congrArg some (by kernel_rfl))⟩
 f24:=⟨Tryz.f141.name,by decide,Tryz.func141.trans (congrArg some (by kernel_rfl))⟩
 f25:=⟨Tryz.f142.name,by decide,Tryz.func142.trans (congrArg some (by kernel_rfl))⟩
 f26:=⟨Tryz.f143.name,by decide,Tryz.func143.trans (congrArg some (by kernel_rfl))⟩
 f27:=⟨Tryz.f144.name,by decide,Tryz.func144.trans (congrArg some (by kernel_rfl))⟩
 f28:=Tryz.func145.trans (congrArg some (by kernel_rfl))
 f29:=Tryz.func146.trans (congrArg some (by kernel_rfl))
 f46:=⟨Tryz.f183.name,by decide,Tryz.func183.trans (congrArg some (by kernel_rfl))⟩
 f47:=Tryz.func184.trans (congrArg some (by kernel_rfl))
 f48:=Tryz.func185.trans (congrArg some (by kernel_rfl))
 f49:=⟨Tryz.f186.name,by decide,Tryz.func186.trans (congrArg some (by kernel_rfl))⟩
 f50:=⟨Tryz.f187.name,by decide,Tryz.func187.trans (congrArg some (by kernel_rfl))⟩
 f57:=⟨Tryz.f200.name,by decide,Tryz.func200.trans (congrArg some (by kernel_rfl))⟩
 t0:=Tryz.underlying0
 a0:=Tryz.isAgg0
 z0:=Tryz.sizeOf0
 v0:=Tryz.zeroValue0
 t3:=Tryz.underlying3
 a3:=Tryz.isAgg3
 z3:=Tryz.sizeOf3
 v3:=Tryz.zeroValue3
 t4:=Tryz.underlying4
 a4:=Tryz.isAgg4
 z4:=Tryz.sizeOf4
 v4:=Tryz.zeroValue4
 t5:=Tryz.underlying5
 a5:=Tryz.isAgg5
 z5:=Tryz.sizeOf5
 v5:=Tryz.zeroValue5
 t9:=Tryz.underlying9
 a9:=Tryz.isAgg9
 z9:=Tryz.sizeOf9
 v9:=Tryz.zeroValue9
 t22:=Tryz.underlying27
 a22:=Tryz.isAgg27
 z22:=Tryz.sizeOf27
 v22:=Tryz.zeroValue27
 t25:=Tryz.underlying87
 a25:=Tryz.isAgg87
 z25:=Tryz.sizeOf87
 v25:=Tryz.zeroValue87
 t39:=Tryz.underlying139
 a39:=Tryz.isAgg139
 z39:=Tryz.sizeOf139
 v39:=Tryz.zeroValue139
 t45:=Tryz.underlying186
 a45:=Tryz.isAgg186
 z45:=Tryz.sizeOf186
 v45:=Tryz.zeroValue186
 t46:=Tryz.underlying187
 a46:=Tryz.isAgg187
 z46:=Tryz.sizeOf187
 v46:=Tryz.zeroValue187
 t50:=Tryz.underlying155
 a50:=Tryz.isAgg155
 z50:=Tryz.sizeOf155
 v50:=Tryz.zeroValue155
 t53:=Tryz.underlying193
 a53:=Tryz.isAgg193
 z53:=Tryz.sizeOf193
 v53:=Tryz.zeroValue193
 t55:=Tryz.underlying31
 a55:=Tryz.isAgg31
 z55:=Tryz.sizeOf31
 v55:=Tryz.zeroValue31
 t66:=Tryz.underlying222
 a66:=Tryz.isAgg222
 z66:=Tryz.sizeOf222
 v66:=Tryz.zeroValue222
 t70:=Tryz.underlying226
 a70:=Tryz.isAgg226
 z70:=Tryz.sizeOf226
 v70:=Tryz.zeroValue226
 t76:=Tryz.underlying236
 a76:=Tryz.isAgg236
 z76:=Tryz.sizeOf236
 v76:=Tryz.zeroValue236
 t77:=Tryz.underlying83
 a77:=Tryz.isAgg83
 z77:=Tryz.sizeOf83
 v77:=Tryz.zeroValue83 }
end Go.Proofs.YthhnadeoioeniaaGreat
set_option linter.unusedVariables false
set_option linter.unusedSimpArgs false
namespace Go.Proofs.YthhnadeoioeniaaGreat
open Go Go.Abs Go.Proofs Go.RowKit Go.Shelf Go.Sort
theorem isNaN_int_raw (x:Int) (W:World):Calls Tryz.prog 147 #[.int .i64 x] W fun e w'=>e=.returned (.bool false)∧w'=W:=by
 go_enter Tryz.func147,Tryz.ntmps147
 go_wp2
 go_ret
 exact ⟨by simp,rfl⟩
theorem cmp_int_raw (x y:Int) (W:World):Calls Tryz.prog 91 #[.int .i64 x,.int .i64 y] W fun e w'=>e=.returned (.int .i64 (if x<y then -1 else if y<x then 1 else 0))∧w'=W:=by
 have h:=isNaN_int_raw
 go_enter Tryz.func91,Tryz.ntmps91
 go_wp2_with (go_at_call 147; refine (h _ _).mono ?_; rintro e w' ⟨rfl,rfl⟩)
 all_goals go_ret
 all_goals exact ⟨rfl,rfl⟩
def IntSl (W:World) (v:Value) (l:List Int):Prop:=∃ A c,v=.slice A l.length c∧∀ j (h:j<l.length),∃ b off,A=some ⟨b,off,none⟩∧W.cell? ⟨b,off+j,none⟩=some (.int .i64 l[j])
theorem Compare_raw (l m:List Int) (hl:l.length≤1048576) (u v:Value) (W:World) (hu:IntSl W u l) (hv:IntSl W v m):Calls Tryz.prog 40 #[u,v] W fun e w'=>e=.returned (.int .i64 (cmpE l m))∧w'=W:=by
 have hc:=cmp_int_raw
 obtain ⟨A1,c1,rfl,h1⟩:=hu
 obtain ⟨A2,c2,rfl,h2⟩:=hv
 go_enter Tryz.func40,Tryz.ntmps40
 go_wp2
 go_loopw [11] (fun i w'=>∃ k:Nat,i=.int .i64 k∧k≤l.length∧k≤m.length∧w'=W∧cmpE l m=cmpE (l.drop k) (m.drop k)) (fun i w'=>l.length - (intOf i).toNat)
 case atStart=>exact ⟨0,rfl,Nat.zero_le _,Nat.zero_le _,rfl,rfl⟩
 case round =>
  obtain ⟨k,rfl,hk,hkm,rfl,he⟩:=hrel
  by_cases hlt:k<l.length
  ·obtain ⟨b,off,rfl,q1⟩:=h1 k hlt
   by_cases hlt2:k<m.length
   ·obtain ⟨b2,off2,rfl,q2⟩:=h2 k hlt2
    obtain ⟨r,hr⟩:∃ r:Int,r=if l[k]<m[k] then -1 else if m[k]<l[k] then 1 else 0:=⟨_,rfl⟩
    have hcr:=hc l[k] m[k]
    rw [← hr] at hcr
    have hs:cmpE l m=if r=0 then cmpE (l.drop (k+1)) (m.drop (k+1)) else r:=by
     rw [he,List.drop_eq_getElem_cons hlt,List.drop_eq_getElem_cons hlt2,cmpE,hr]
     by_cases g1:l[k]<m[k]
     ·rw [if_pos g1,if_pos g1,if_neg (by omega)]
     ·rw [if_neg g1,if_neg g1]
      by_cases g2:m[k]<l[k]
      ·rw [if_pos g2,if_pos g2,if_neg (by omega)]
      ·rw [if_neg g2,if_neg g2,if_pos rfl]
    obtain ⟨hwrap,hms⟩:=wrap_step k l.length hlt (by omega)
    clear hr hc h1 h2
    generalize l[k]=x at q1 hcr
    generalize m[k]=y at q2 hcr
    go_wp2_with (go_at_call 91; refine (hcr _).mono ?_; rintro e w' ⟨rfl,rfl⟩)
    ·go_ret
     rename_i hq
     refine ⟨?_,rfl⟩
     have hq:r≠0:=by simpa using hq
     rw [hs,if_neg hq]; rfl
    ·rename_i hq
     have hq:r=0:=by simpa using hq
     refine ⟨⟨k+1,rfl,hlt,hlt2,trivial,?_⟩,?_⟩
     ·rw [hs,if_pos hq]
     ·show l.length - ((k:Int)+1).toNat<l.length - ((k:Nat):Int).toNat
      omega
   ·have hkm':m.length≤k:=by omega
    clear hlt2
    have hres:cmpE l m=1:=by
     rw [he,List.drop_eq_getElem_cons hlt,List.drop_of_length_le hkm']; rfl
    go_wp2
    go_ret
    refine ⟨?_,rfl⟩
    rw [hres]; rfl
  ·have hkl:l.length≤k:=by omega
   have hres:cmpE l m=if l.length<m.length then -1 else 0:=by
    rw [he,List.drop_of_length_le hkl]
    by_cases h:l.length<m.length
    ·rw [if_pos h,List.drop_eq_getElem_cons (show k<m.length by omega)]; rfl
    ·rw [if_neg h,List.drop_of_length_le (show m.length≤k by omega)]; rfl
   go_wp2
   ·go_ret
    rename_i hq
    refine ⟨?_,rfl⟩
    rw [hres,if_pos (by omega)]; rfl
   ·go_ret
    rename_i hq
    refine ⟨?_,rfl⟩
    rw [hres,if_neg (by omega)]; rfl
theorem Of1_raw (l m:List Int) (hl:l.length≤1048576) (c d:Int) (u v:Value) (W:World) (hu:IntSl W u l) (hv:IntSl W v m) :
  Calls Tryz.prog 39 #[.agg #[.int .u64 c,u],.agg #[.int .u64 d,v]] W fun e w'=>e=.returned (.int .i64 (cmpE l m))∧∃ q os',w'=grow (W.drewN q) os':=by
 have keep:∀ {u:Value} {l:List Int} (o o':Obj),IntSl W u l→IntSl ((W.alloc o).alloc o') u l:=fun {u l} o o' h=>by
  obtain ⟨A,c,rfl,h⟩:=h
  refine ⟨A,c,rfl,fun j hj=>?_⟩
  obtain ⟨b,off,h1,h2⟩:=h j hj
  refine ⟨b,off,h1,?_⟩
  have hb:b<W.heap.size:=by
   cases hh:W.heap[b]? with
   | none=>simp [World.cell?,hh] at h2
   | some o=>exact (Array.getElem?_eq_some_iff.1 hh).1
  have e:((W.alloc o).alloc o').heap[b]?=W.heap[b]?:=by
   rw [alloc_old _ _ b (by simp; omega),alloc_old _ _ b hb]
  rw [← h2]
  exact World.cell?_of_block e
 have hcon:=fun o o'=>Compare_raw l m hl u v ((W.alloc o).alloc o') (keep o o' hu) (keep o o' hv)
 generalize cmpE l m=r at hcon ⊢
 obtain ⟨A1,c1,rfl,_⟩:=hu
 obtain ⟨A2,c2,rfl,_⟩:=hv
 clear keep
 go_enter Tryz.func39,Tryz.ntmps39
 go_wp2_with (go_at_call 40; refine (hcon _ _).mono ?_; rintro e w' ⟨rfl,rfl⟩)
 go_ret
 exact ⟨rfl,0,_,by rw [alloc_eq_grow,alloc_eq_grow,grow_grow]; rfl⟩
end Go.Proofs.YthhnadeoioeniaaGreat
namespace Go.Proofs.YthhnadeoioeniaaGreat
open Go Go.Abs Go.Proofs Go.RowKit Go.Shelf Go.Sort
theorem lf_int:lfs tab ZT=[.int .i64]:=by kernel_rfl
theorem lf_Mono:lfs tab Zk=[.int .u64,.sl ZT]:=by kernel_rfl
theorem intSl_of {w W:World} {F:Nat→Prop} {e:List Int} {v:Value} (h:RepK (lfs tab) w F (.sl ZT) (V.l (encP e)) v) (hW:∀ b,F b→W.heap[b]?=w.heap[b]?):IntSl W v e:=by
 have hl:(V.l (encP e)).list.length=e.length:=encP_length e
 generalize hx:V.l (encP e)=x at h hl
 cases h with
 | sl0 _ _ A c h0 =>
  have:e.length=0:=by rw [← hl,h0]; rfl
  exact ⟨A,c,by rw [this],fun j hj=>by omega⟩
 | sl _ _ b off c us hF hc hlen hcell hrep =>
  refine ⟨some ⟨b,off,none⟩,c,by rw [hl],fun j hj=>⟨b,off,rfl,?_⟩⟩
  rw [lf_int] at hcell hrep
  have h1:=hcell j 0 (by omega) (by simp)
  have h2:=hrep j 0 (by omega) (by simp)
  rw [← hx] at h2
  have e2:((V.l (encP e)).list.getD j []).getD 0 V.none=V.i e[j]:=by
   show ((encP e).getD j []).getD 0 V.none=_
   rw [encP_getD e j hj]; rfl
  rw [e2] at h2
  have h2:RepK (lfs tab) w F (.int .i64) (V.i e[j]) (us j 0):=h2
  rw [show off+j*([K.int .i64]:List K).length+0=off+j by simp] at h1
  have h3:W.cell? ⟨b,off+j,none⟩=w.cell? ⟨b,off+j,none⟩:=World.cell?_of_block (hW b hF)
  rw [h3,h1]
  generalize hy:V.i e[j]=y at h2
  generalize us j 0=u0 at h2
  cases h2 with
  | int=>rw [← hy]; rfl
def CellOk (S:Sig) (p:Mo×Value):Prop:=RepK (lfs tab) S.w S.F (.sl ZT) (V.l (encP p.1.exps)) p.2∧p.1.exps.length≤1048576
abbrev CellT (S:Sig):Type:={ p:Mo×Value // CellOk S p }
instance (S:Sig):Inhabited (CellT S):=⟨⟨(⟨0,[]⟩,.slice none 0 0),.sl0 _ _ _ _ rfl,by show (0:Nat)≤_; omega⟩⟩
def encC {S:Sig} (x:CellT S):List Value:=[.int .u64 (x.1.1.coef:Nat),x.1.2]
def cfC {S:Sig} (x y:CellT S):Int:=cmpE x.1.1.exps y.1.1.exps
theorem lt_C {S:Sig} (x y:CellT S):ltOf cfC x y=decide (cmpE x.1.1.exps y.1.1.exps = -1):=by
 unfold ltOf cfC
 rw [Bool.eq_iff_iff,decide_eq_true_iff,decide_eq_true_iff]
 rcases cmpE_cases x.1.1.exps y.1.1.exps with h | h | h <;> rw [h] <;> decide
theorem swo_C (S:Sig):SWO (ltOf (cfC (S:=S))) where
 irrefl x:=by rw [lt_C,cmpE_self]; rfl
 trans x y z h1 h2:=by
  rw [lt_C] at *
  exact decide_eq_true (cmpE_trans (of_decide_eq_true h1) (of_decide_eq_true h2))
 ntrans x y z h1 h2:=by
  rw [lt_C] at *
  have h1:=of_decide_eq_false h1
  have h2:=of_decide_eq_false h2
  refine decide_eq_false fun h3=>?_
  generalize x.1.1.exps=a at h1 h2 h3
  generalize y.1.1.exps=b at h1 h2 h3
  generalize z.1.1.exps=c at h1 h2 h3
  have f1:=cmpE_flip a b
  have f2:=cmpE_flip b c
  rcases cmpE_cases a b with g1 | g1 | g1
  ·exact h1 g1
  ·rw [cmpE_zero] at g1; subst g1; exact h2 h3
  ·have k1:cmpE b a = -1:=by rw [f1,g1]
   exact h2 (cmpE_trans k1 h3)
theorem putCells_flat {S:Sig} (d:Array (CellT S)) (c:Array Value) (i j:Nat) (hi:i<d.size) (hj:j<2) (hc:d.size*2≤c.size):(Sort.putCells id 0 (flatK encC 2 d) c).getD (i*2+j) undef=(encC d[i]!)[j]!:=by
 unfold Sort.putCells
 rw [Array.getD_eq_getD_getElem?,Array.getElem?_mapIdx,Array.getElem?_eq_getElem (by omega)]
 simp only [Option.map_some,Option.getD_some,size_flatK]
 rw [if_pos ⟨Nat.zero_le _,by omega⟩,Nat.sub_zero]
 show (flatK encC 2 d)[i*2+j]! = _
 rw [get_flatK _ _ _ _ (by omega),show (i*2+j) / 2=i by omega,show (i*2+j) % 2=j by omega]
theorem isAgg_Mono (w:World):(isAgg (laysSF_ren.t 24)).run Tryz.prog w=.ok true w:=Tryz.isAgg82 w
theorem sizeOf_Mono (w:World):(Go.sizeOf (laysSF_ren.t 24)).run Tryz.prog w=.ok 2 w:=Tryz.sizeOf82 w
theorem sort_frame {S:Sig} (w:World) (blk m:Nat) (dk:Array (CellT S)) (os:Array Go.Obj) (i:Nat) (hi:i<w.heap.size) (hb:i≠blk):(sortWorldK encC 2 w blk 0 m dk os).heap[i]?=w.heap[i]?:=by
 simp only [sortWorldK,putRowK,grow,putRow,mapBlock,Sort.ahead]
 rw [Array.getElem?_append_left (by simpa using hi),Array.getElem?_modify,if_neg (fun h=>hb h.symm)]
theorem SortFunc_raw (hnil:∀ (p:Option Addr) (cap:Nat) (fv:Value) (w:World),Calls Tryz.prog 38 #[.slice p 0 cap,fv] w fun e w'=>e=.returned (.tuple #[])∧w'=w)
  (l:Mos) (n:Nat) (hn:n=l.length) (hlim:n≤lim) (hx:∀ x∈l,x.exps.length≤1048576) {Q:D→Heap→Prop}
  (hQ:∀ l':Mos,l'.Perm l→(l'.Pairwise fun x y=>cmpE y.exps x.exps≠-1)→Q (.tup []) [.row Zk (encMos l')]):cl Zb3 [.osl (.own 0) n,.fn ZfL []] [.row Zk (encMos l)] Q:=by
 intro S vs hH hL hla hmks hwf hlen hrep hloc
 obtain ⟨u0,u1,rfl⟩:∃ u0 u1,vs=[u0,u1]:=by
  match vs,hlen with
  | [u0,u1],_=>exact ⟨u0,u1,rfl⟩
 have h0:RepD (lfs tab) S (.osl (.own 0) n) u0:=hrep 0
 have hf:RepD (lfs tab) S (.fn ZfL []) u1:=hrep 1
 have e1:u1=.func (.func 39) #[] #[]:=by
  cases hf with
  | fn _ _ us hl _ =>
   have:us=[]:=by cases us with
    | nil=>rfl
    | cons a b=>cases hl
   subst this; rfl
 subst e1
 have hobj:S.obj (.own 0)=.row Zk (encMos l):=by show S.H.getD 0 .dead=_; rw [hH]; rfl
 have hll:(encMos l).length=l.length:=encMos_length l
 have e0:u0=rowVal n (S.blk (.own 0)):=by
  cases h0 with
  | osl _ _ _ _ h=>exact (h Zk _ hobj).2 (by rw [hll]; omega)
 subst e0
 rcases hwf.row hobj with ⟨hb0,hxs0⟩ | ⟨b,c,arr,hb0,hheap,hsz,hnc,hcm,hxl,hrp⟩
 ·have hs0:l=[]:=List.eq_nil_of_length_eq_zero (by rw [← hll,hxs0]; rfl)
  subst hs0
  rw [hb0]
  have hn0:n=0:=by simpa using hn
  subst hn0
  refine (hnil none 0 _ S.w).mono ?_
  rintro en w' ⟨rfl,rfl⟩
  refine ⟨_,.tup [],S,rfl,rfl,hL,hla,hmks,hwf,.tup [] [] rfl (repD_of_list rfl fun j hj=>by simp at hj),rfl,Ext.refl S,?_⟩
  rw [hH]
  exact hQ [] (.refl _) .nil
 ·rw [hb0]
  rw [lf_Mono] at hsz hxl hrp
  have hnc':l.length≤c:=by rw [← hll]; exact hnc
  have hblt:b<S.w.heap.size:=hwf.lt (.own 0) (b,c) hb0
  have hcell:∀ j (hj:j<l.length),arr.getD (j*2) undef=.int .u64 ((l[j]).coef:Nat)∧RepK (lfs tab) S.w S.F (.sl ZT) (V.l (encP (l[j]).exps)) (arr.getD (j*2+1) undef):=fun j hj=>by
   have h1:=hrp j 0 (by omega) (by simp)
   have h2:=hrp j 1 (by omega) (by simp)
   have e5:(encMos l).getD j []=[.i (l[j]).coef,.l (encP (l[j]).exps)]:=encMos_getD l j hj
   rw [e5] at h1 h2
   have h1:RepK (lfs tab) S.w S.F (.int .u64) (.i (l[j]).coef) (arr.getD (j*2+0) undef):=h1
   rw [Nat.add_zero] at h1
   refine ⟨?_,h2⟩
   generalize arr.getD (j*2) undef=u at h1
   generalize hy:V.i ((l[j]).coef:Nat)=y at h1
   cases h1 with
   | int=>rw [← hy]; rfl
  obtain ⟨d,hd⟩:∃ d:Array (CellT S),d=Array.ofFn (n:=l.length) fun i=>⟨(l[i.1],arr.getD (i.1*2+1) undef),(hcell i.1 i.2).2,hx _ (List.getElem_mem i.2)⟩:=⟨_,rfl⟩
  have hds:d.size=l.length:=by rw [hd]; simp
  have hdg:∀ j (hj:j<l.length),(d[j]!).1=(l[j],arr.getD (j*2+1) undef):=fun j hj=>by
   rw [getElem!_pos d j (by omega)]
   simp [hd]
  have hdl:d.toList.map (fun x=>x.1.1)=l:=by
   apply List.ext_getElem
   ·simp [hds]
   ·intro j h1 h2
    rw [List.getElem_map,Array.getElem_toList]
    have:=hdg j h2
    rw [getElem!_pos d j (by omega)] at this
    rw [this]
  have hH1:HoldsK encC 2 S.w b 0 d:=fun j hj=>by
   rw [size_flatK,hds] at hj
   obtain ⟨q,r,rfl,hr⟩:∃ q r,j=q*2+r∧r<2:=⟨j / 2,j % 2,by omega,by omega⟩
   have hja:q*2+r<arr.size:=by
    have:([K.int .u64,.sl ZT]:List K).length=2:=rfl
    rw [hsz,this]; omega
   have hj2:q<l.length:=by omega
   refine ⟨?_,by simp [World.frozen?,hheap]⟩
   rw [Nat.zero_add,cell_of hheap hja,get_flatK _ _ _ _ (by rw [hds]; exact hj),show (q*2+r) / 2=q by omega,show (q*2+r) % 2=r by omega]
   obtain ⟨c1,c2⟩:=hcell _ hj2
   have hg:=hdg _ hj2
   show some (arr.getD (q*2+r) undef)=some ((encC d[q]!)[r]!)
   unfold encC
   rw [hg]
   match r,hr with
   | 0,_=>rw [Nat.add_zero,c1]; rfl
   | 1,_=>rfl
  have hcmp:CmpLays Tryz.prog 39 #[] encC 2 (cfC (S:=S)) b 0 d.size S.w:=fun m os dk hdk x y=>by
   have hW:∀ b',S.F b'→(sortWorldK encC 2 S.w b 0 m dk os).heap[b']?=S.w.heap[b']?:=fun b' hb' =>
    sort_frame S.w b m dk os b' (hwf.frozen b' hb').1 fun h=>(hwf.frozen b' hb').2 (.own 0) (b,c) hb0 h.symm
   exact Of1_raw _ _ x.2.2 _ _ _ _ _ (intSl_of x.2.1 hW) (intSl_of y.2.1 hW)
  have hsort:=AnyQ.slices_SortFunc laysSF 2 isAgg_Mono sizeOf_Mono (encC (S:=S)) (fun _=>rfl) (fun x v hv=>by
    rcases List.mem_cons.1 hv with rfl | hv
    ·rfl
    ·rw [List.mem_singleton.1 hv]; exact x.2.1.one) cfC (swo_C S) 39 #[] b 0 c d S.w (enters_of Tryz.func39 (by kernel_rfl) rfl) hcmp hH1 hblt (by unfold lim at hlim; omega)
  rw [hds] at hsort
  rw [hn]
  refine Calls.mono hsort ?_
  rintro en w' ⟨rfl,d',k,os,hp,hso,rfl⟩
  obtain ⟨p1,p2,p3⟩:=hp
  obtain ⟨l',hl'⟩:∃ l',l'=d'.toList.map (fun x=>x.1.1):=⟨_,rfl⟩
  have hd's:d'.size=l.length:=by rw [p1,hds]
  have hl's:l'.length=l.length:=by rw [hl']; simp [hd's]
  have hperm:l'.Perm l:=by
   have e3:d'.extract 0 l.length=d':=by rw [← hd's]; simp
   have e4:d.extract 0 l.length=d:=by rw [← hds]; simp
   rw [e3,e4] at p3
   rw [hl',← hdl]
   exact p3.map _
  have hget:∀ j (hj:j<l'.length),l'[j]=(d'[j]!).1.1:=fun j hj=>by
   have h1:j<d'.size:=by omega
   rw [getElem!_pos d' j h1]
   simp [hl']
  have hpw:l'.Pairwise fun x y=>cmpE y.exps x.exps≠-1:=by
   rw [List.pairwise_iff_getElem]
   intro i j hi hj hij
   have:=hso i j (Nat.zero_le _) hij (by omega)
   rw [lt_C] at this
   rw [hget i hi,hget j hj]
   exact of_decide_eq_false this
  have hQ':=hQ l' hperm hpw
  have hheap':∀ i,i<S.w.heap.size→(sortWorldK encC 2 S.w b 0 k d' os).heap[i]?=if i=b then some (.cells (Sort.putCells id 0 (flatK encC 2 d') arr) Zk (0,0)) else S.w.heap[i]?:=fun i hi=>by
   simp only [sortWorldK,putRowK,grow,putRow,mapBlock,Sort.ahead]
   rw [Array.getElem?_append_left (by simpa using hi),Array.getElem?_modify]
   by_cases h:b=i
   ·subst h; rw [if_pos rfl,if_pos rfl,hheap]; rfl
   ·rw [if_neg h,if_neg (fun h'=>h h'.symm)]
  have hwos:(sortWorldK encC 2 S.w b 0 k d' os).os=S.w.os∧(sortWorldK encC 2 S.w b 0 k d' os).tape=S.w.tape∧(sortWorldK encC 2 S.w b 0 k d' os).output=S.w.output:=⟨rfl,rfl,rfl⟩
  have hwsz:S.w.heap.size≤(sortWorldK encC 2 S.w b 0 k d' os).heap.size:=by simp [sortWorldK,putRowK,grow,putRow,mapBlock,Sort.ahead]
  generalize sortWorldK encC 2 S.w b 0 k d' os=w' at hheap' hwos hwsz
  have hpsz:(Sort.putCells id 0 (flatK encC 2 d') arr).size=arr.size:=by simp [Sort.putCells]
  have hblkl:∀ i,S.blk (.loc i)=none:=fun i=>by show S.la.getD i none=none; rw [hla]; rfl
  have hrel:Rel (lfs tab) ⟨[],[]⟩ S.H { tmps:=#[],defers:=[] } S:=⟨rfl,hL,rfl,by unfold marks; rw [hmks]; rfl,fun j=>by
   show RepD _ S (([]:List D).getD j .undef) _
   rw [List.getD_nil]; exact .undef _,hwf⟩
  have hinv:Inv S S:=⟨Ext.refl S,fun i bc h=>(by rw [hblkl] at h; cases h),fun d hd=>by rw [hmks] at hd; cases hd⟩
  have hhas:S.has (.own 0):=by show 0<S.H.length; rw [hH]; simp
  have hll':(encMos l').length=l'.length:=encMos_length l'
  obtain ⟨j1,j2⟩:=S.upd_at hwf hhas (.row Zk (encMos l')) (some (b,c)) w'
  obtain ⟨g1,g2,g3⟩:=Rel.upd hrel hinv (.own 0) (.row Zk (encMos l')) (some (b,c)) w' hhas hwsz (fun i hi hne=>by
    rw [hheap' i hi,if_neg (fun h=>hne _ hb0 h.symm)]) hwos.1 hwos.2.1 hwos.2.2
   (fun x hx=>by
    cases hx
    exact ⟨.inl ⟨_,hb0,rfl⟩,Nat.lt_of_lt_of_le hblt hwsz⟩)
   (by
    refine ⟨fun bc j3 _=>?_,fun e' xs' j3=>?_,fun e' xs' j3=>(by rw [j1] at j3; cases j3)⟩
    ·rw [j1] at j3; cases j3
    ·rw [j1] at j3; cases j3
     exact ⟨encMos l,hobj,by rw [hll,hll',hl's]; exact Nat.le_refl _,fun _=>by rw [j2,hb0]⟩)
   (fun _ _=>trivial)
   (fun mD mK=>.inr ⟨b,c,Sort.putCells id 0 (flatK encC 2 d') arr,rfl,by rw [Sig.upd_w,hheap' b hblt,if_pos rfl],by rw [hpsz,lf_Mono]; exact hsz,by rw [hll',hl's]; exact hnc',hcm,fun i hi=>by
     rw [hll'] at hi
     rw [lf_Mono,encMos_getD l' i hi]; rfl,
    fun i j hi hj=>by
     rw [Sig.upd_w,Sig.upd_F]
     rw [lf_Mono] at hj ⊢
     rw [hll'] at hi
     have hj2:j<2:=hj
     have e8:([K.int .u64,.sl ZT]:List K).length=2:=rfl
     rw [e8,putCells_flat d' arr i j (by omega) hj2 (by rw [hsz,e8]; omega),encMos_getD l' i hi,hget i hi]
     generalize d'[i]! = z
     match j,hj2 with
     | 0,_=>exact .int .u64 (V.i (z.1.1.coef:Nat))
     | 1,_=>exact mK z.2.1⟩)
  refine ⟨_,.tup [],S.upd (.own 0) (.row Zk (encMos l')) (some (b,c)) w',rfl,Sig.upd_w _ _ _ _ _,hL,hla,hmks,g1.wf,.tup [] [] rfl (repD_of_list rfl fun j hj=>by simp at hj),rfl,g2.ext,?_⟩
  have:(S.upd (.own 0) (.row Zk (encMos l')) (some (b,c)) w').H=[.row Zk (encMos l')]:=by show S.H.set 0 _=_; rw [hH]; rfl
  rw [this]; exact hQ'
theorem SortFunc_ok (l:Mos) (n:Nat) (hn:n=l.length) (hlim:n≤lim) (hx:∀ x∈l,x.exps.length≤1048576) {Q:D→Heap→Prop}
  (hQ:∀ l':Mos,l'.Perm l→(l'.Pairwise fun x y=>cmpE y.exps x.exps≠-1)→Q (.tup []) [.row Zk (encMos l')]):cl Zb3 [.osl (.own 0) n,.fn ZfL []] [.row Zk (encMos l)] Q :=
 SortFunc_raw (fun p cap fv w=>AnyF.slices_SortFunc_none laysSF p cap fv w) l n hn hlim hx hQ
end Go.Proofs.YthhnadeoioeniaaGreat
namespace Go.Proofs.YthhnadeoioeniaaGreat
open Go Go.Abs
theorem key_split:∀ (l:List Int) (i:Nat),(∀ x∈l,0≤x)→(keyL i l=[]∧l=zerosE l.length)∨∃ k a r,l=zerosE k++a::r∧0<a∧keyL i l=powL (i+k) a++keyL (i+k+1) r
 | [],i,_=>.inl ⟨rfl,rfl⟩
 | x::l,i,h=>by
  by_cases hx:0<x
  ·refine .inr ⟨0,x,l,rfl,hx,?_⟩
   rw [keyL,if_pos hx]; rfl
  ·have hx0:x=0:=by have:=h x (by simp); omega
   subst hx0
   rw [keyL,if_neg hx,List.nil_append]
   rcases key_split l (i+1) fun y hy=>h y (by simp [hy]) with ⟨h1,h2⟩ | ⟨k,a,r,h1,h2,h3⟩
   ·refine .inl ⟨h1,?_⟩
    rw [List.length_cons]
    show (0:Int)::l=List.replicate (l.length+1) 0
    rw [List.replicate_succ]
    exact congrArg _ h2
   ·refine .inr ⟨k+1,a,r,?_,h2,?_⟩
    ·rw [h1]
     show (0:Int)::(zerosE k++a::r)=List.replicate (k+1) 0++a::r
     rw [List.replicate_succ]; rfl
    ·rw [h3,show i+1+k=i+(k+1) by omega]
theorem zero_row (n:Nat):zeroRow [.int .i64] n=encP (zerosE n):=by
 unfold zeroRow encP zerosE
 rw [List.map_replicate]; rfl
theorem set_split (pre r:List Int) (k:Nat) (a:Int):(pre++zerosE (k+1+r.length)).set (pre.length+k) a=(pre++zerosE k++[a])++zerosE r.length:=by
 have e:zerosE (k+1+r.length)=zerosE k++0::zerosE r.length:=by
  unfold zerosE
  rw [show k+1+r.length=k+(r.length+1) by omega,← List.replicate_append_replicate,List.replicate_succ]
 rw [e,← List.append_assoc,List.set_append_right _ _ (by rw [List.length_append,zerosE_length]; omega)]
 rw [List.length_append,zerosE_length,Nat.sub_self,List.set_cons_zero]
 simp
theorem encMos_snoc (l:Mos) (x:Mo):encMos l++[[V.i (x.coef:Nat),V.l (encP x.exps)]]=encMos (l++[x]):=by
 rw [encMos_append]; rfl
theorem encP_nil_iff (s:List UInt8):(!((byL s).toList == (ByteArray.mk #[]).toList))=true↔s≠[]:=by
 rw [Bool.not_eq_true',← Bool.not_eq_true]
 exact not_congr (byL_eq_nil s)
theorem sorted_of_perm {l c:Mos} (hp:l.Perm c) (hc:SortP c) (h:l.Pairwise fun x y=>cmpE y.exps x.exps≠-1):l=c:=by
 refine sort_unique ?_ hc hp
 have hd:DistP l:=dist_perm hp.symm hc.dist
 refine (List.Pairwise.and h hd).imp fun {a b} h=>?_
 obtain ⟨h1,h2⟩:=h
 rw [cmpE_flip] at h1
 rcases cmpE_cases a.exps b.exps with g | g | g
 ·exact g
 ·exact absurd (cmpE_zero.1 g) h2
 ·rw [g] at h1; exact absurd rfl h1
theorem colsP_append (A:Mos) (s t:List Nat):colsP A (s++t)=colsP A s++colsP A t:=by unfold colsP; rw [List.map_append]
def ofQE (l:Pls) (t:Tm):Int:=if plsE l≠0 then plsE l else ofE l t
def ofQV (l:Pls) (t:Tm):List ByteArray:=if plsE l≠0 then [] else ofV l t
def ofQP (l:Pls) (t:Tm):Mos:=if plsE l≠0 then [] else ofP l t
theorem insert_len {n:Nat} (ps:List Mos):∀ (ms out y:Mos),out.length≤4096→insertP n ps ms out=some y→y.length≤4096
 | [],out,y,ho,h=>by cases h; exact ho
 | m::ms,out,y,ho,h=>by
  rw [insertP] at h
  cases hm:monoP n m ps with
  | none=>rw [hm] at h; cases h
  | some x =>
   rw [hm] at h
   have h:(if largeP (addsP out x) then none else insertP n ps ms (addsP out x))=some y:=h
   cases hl:largeP (addsP out x) with
   | true=>rw [hl,if_pos rfl] at h; cases h
   | false =>
    rw [hl,if_neg (by simp)] at h
    exact insert_len ps ms _ y (large_len hl) h
theorem polyT_len {l:Pls} {vs:List ByteArray} {t:Tm} {c:Mos} (h:polyT l vs t=some c):c.length≤4096:=by
 cases hv:t.var with
 | true =>
  rw [polyT_eq,if_pos hv] at h
  cases h; simp
 | false =>
  have hall:∀ a∈t.args,polyT l vs a≠none:=fun a ha hn=>by rw [polyT_arg hv ⟨a,ha,hn⟩] at h; cases h
  rw [polyT_args hv hall] at h
  exact insert_len _ _ _ _ (Nat.zero_le _) h
theorem of_list {N:Nat} (hN:N≤65536) (vars:List ByteArray) (hv:vars.length=N) (c C:Mos) (hp:C.Perm c) (hs:SmallP N C) (hc:SortP c) (hlen:C.length≤1048576) {Q:D→Heap→Prop} (hQ:Q (.tup [nsD vars,msD c,iD 0]) []) :
  ∃ m0,Zdr Q m0 (V.l (encN vars)) 0 (V.l (encKs C)) C.length [] []:=by
 refine Zli Q (fun a1 a2 a3 a4 a5 a6=>a1=V.l (encN vars)∧a2=a6.length∧a3=V.l (encKs C)∧a4=C.length∧a5.Nodup∧(∀ j∈a5,j<C.length)∧a6=encMos (colsP C a5.reverse)) (fun a1 a2 a3 a4 a5 a6=>C.length - a5.length)
  (fun a1 a2 a3 a4 a5 a6 hI m0 hK=>?_) _ _ _ _ _ _ ⟨rfl,rfl,rfl,rfl,.nil,fun j hj=>by simp at hj,rfl⟩
 obtain ⟨rfl,rfl,rfl,rfl,hnd,hlt,rfl⟩:=hI
 unfold Zgu
 have eC:(V.l (encKs C)).list.length=C.length:=encKs_length C
 have eV:(V.l (encN vars)).list.length=N:=by rw [← hv]; exact encN_length vars
 have hle:a5.length≤C.length:=nodup_le _ _ hnd hlt
 have ecol:(colsP C a5.reverse).length=a5.length:=by simp [colsP]
 have elen:(encMos (colsP C a5.reverse)).length=a5.length:=by rw [encMos_length,ecol]
 refine ⟨eC,fun hall=>?_,fun j hj hjs hjl=>⟨eC,fun _=>?_⟩⟩
 ·have hrn:a5.reverse.Nodup:=(List.reverse_perm a5).nodup_iff.2 hnd
  have hpC:=cols_all (A:=C) hrn (fun j hj=>hlt j (List.mem_reverse.1 hj)) fun j hj=>List.mem_reverse.2 (hall j hj)
  refine SortFunc_ok (colsP C a5.reverse) _ (by rw [elen,ecol]) (by rw [elen]; unfold lim; omega) (fun x hx=>?_) fun l' h1 h2=>?_
  ·have:=(hs x (hpC.mem_iff.1 hx)).1.1; omega
  ·have e:=sorted_of_perm ((h1.trans hpC).trans hp) hc h2
   subst e
   refine ⟨rfl,rfl,⟨trivial,?_,trivial,trivial⟩,hQ⟩
   show (encMos (colsP C a5.reverse)).length=(encMos l').length
   rw [encMos_length,encMos_length,h1.length_eq]
 ·rw [eV]
  have hin:=getD_mem hj
  obtain ⟨v1,v2,v3⟩:=hs.exps hin
  have hg:(V.l (encKs C)).list.getD j []=[V.s (keyB (C.getD j dMo).exps),V.i ((C.getD j dMo).coef:Nat)]:=encKs_getD C j hj
  simp only [hg,List.drop_succ_cons,List.drop_zero,List.headD_cons,Int.toNat_natCast]
  refine ⟨by omega,trivial,by unfold lim; omega,?_⟩
  rw [zero_row]
  have hz:colsP C (j::a5).reverse=colsP C a5.reverse++[C.getD j dMo]:=by
   rw [List.reverse_cons,colsP_append]; rfl
  generalize C.getD j dMo=z at v1 v2 v3 hz
  refine Zk7 Q m0 (fun b1 b2 b3 b4 b5 b6 b7 b8 b9 b10=>b1=V.l (encN vars)∧b2=a5.length∧b4=V.i (z.coef:Nat)∧N=b5∧b6=V.l (encKs C)∧b7=C.length∧b8=j::a5∧b10=encMos (colsP C a5.reverse) ∧
    ∃ pre rest:List Int,z.exps=pre++rest∧b3=V.s (byL (keyL pre.length rest))∧b9=encP (pre++zerosE rest.length))
   (fun b1 b2 b3 b4 b5 b6 b7 b8 b9 b10=>b3.str.size) (fun b1 b2 b3 b4 b5 b6 b7 b8 b9 b10 hI m1 hK2=>?_) _ _ _ _ _ _ _ _ _ _ ⟨rfl,elen,rfl,rfl,rfl,rfl,rfl,rfl,[],z.exps,rfl,rfl,by rw [v1]; rfl⟩
  obtain ⟨rfl,rfl,rfl,rfl,rfl,rfl,rfl,rfl,pre,rest,hpr,rfl,rfl⟩:=hI
  unfold Zgo
  have hpl:pre.length+rest.length=N:=by rw [← v1,hpr,List.length_append]
  have hy:(encP (pre++zerosE rest.length)).length=N:=by rw [encP_length,List.length_append,zerosE_length]; exact hpl
  have hrest:∀ x∈rest,0≤x∧x≤1048576:=fun x hx=>v2 x (by rw [hpr]; exact List.mem_append_right _ hx)
  rcases key_split rest pre.length (fun x hx=>(hrest x hx).1) with ⟨h1,h2⟩ | ⟨k,a,r,h1,h2,h3⟩
  ·rw [h1]
   refine iff_no (by rw [Bool.not_eq_false']; exact (byL_eq_nil []).2 rfl) ⟨hy.symm,elen,?_,?_⟩
   ·show a5.length+1≤lim; unfold lim; omega
   have e4:pre++zerosE rest.length=z.exps:=by rw [hpr,← h2]
   rw [e4,encMos_snoc,← hz]
   refine hK _ _ _ _ _ _ ⟨rfl,?_,rfl,rfl,List.nodup_cons.2 ⟨hjs,hnd⟩,fun i hi=>?_,rfl⟩ (by rw [List.length_cons]; omega)
   ·rw [encMos_length]; simp [colsP]
   ·rcases List.mem_cons.1 hi with rfl | hi
    ·exact hj
    ·exact hlt i hi
  ·rw [h3]
   have hrl:rest.length=k+1+r.length:=by rw [h1,List.length_append,List.length_cons,zerosE_length]; omega
   have ha:=hrest a (by rw [h1]; simp)
   refine iff_yes ((encP_nil_iff _).2 (by simp [powL])) ?_
   refine poly_first_ok (pre.length+k) a _ (by omega) (by omega) (by omega) _ ⟨rfl,rfl,?_⟩
   have hsz:(byL (powL (pre.length+k) a++keyL (pre.length+k+1) r)).size=6+(keyL (pre.length+k+1) r).length:=by
    rw [byL_size,List.length_append,powL_length]
   have e5:((D.tup [iD ((pre.length+k:Nat):Int),iD a]).parts.headD .undef).V.int=((pre.length+k:Nat):Int):=rfl
   have e6:((D.tup [iD ((pre.length+k:Nat):Int),iD a]).parts.tail.headD .undef).V=V.i a:=rfl
   rw [e5,e6,Int.toNat_natCast]
   refine ⟨hy,by omega,by omega,hy,by omega,by omega,?_,?_,?_⟩
   ·show (6:Int)≤((byL (powL (pre.length+k) a++keyL (pre.length+k+1) r)).size:Nat)
    rw [hsz]; omega
   ·exact Int.le_refl _
   ·rw [encP_set _ _ _ (by rw [List.length_append,zerosE_length]; omega),hrl,set_split]
    have e9:(V.s (byL (powL (pre.length+k) a++keyL (pre.length+k+1) r))).str=byL (powL (pre.length+k) a++keyL (pre.length+k+1) r):=rfl
    rw [e9,drop6]
    refine hK2 _ _ _ _ _ _ _ _ _ _ ⟨rfl,rfl,rfl,rfl,rfl,rfl,rfl,rfl,pre++zerosE k++[a],r,?_,?_,rfl⟩ ?_
    ·rw [hpr,h1]; simp
    ·rw [show (pre++zerosE k++[a]).length=pre.length+k+1 by rw [List.length_append,List.length_append,zerosE_length]; rfl]
    ·rw [h3]
     show (byL (keyL (pre.length+k+1) r)).size<(byL (powL (pre.length+k) a++keyL (pre.length+k+1) r)).size
     rw [hsz,byL_size]; omega
theorem poly_Of_ok (l:Pls) (t:Tm) (hs:t.size≤1048576):Fn Zkq [plsD l,tD t] (.tup [nsD (ofQV l t),msD (ofQP l t),iD (ofQE l t)]):=Fn.as fun Q hQ=>by
 refine ZmS _ _ _ _ _ ?_
 unfold ZlB
 rw [show [[V.s t.name,V.b t.var,V.l (Tm.encL t.args)]]=Tm.encL [t] by simp [Tm.encL,Tm.enc_eq]]
 have bad:∀ e:Int,e≠0→ofQE l t=e→(True∧True∧True∧True)∧Q (.tup [.nil,.nil,iD e]) []:=fun e he h=>by
  have h1:ofQV l t=[]:=by
   unfold ofQV ofV
   unfold ofQE at h
   split
   ·rfl
   ·rename_i h2; rw [if_neg h2] at h; rw [if_neg (by rw [h]; exact he)]
  have h2:ofQP l t=[]:=by
   unfold ofQP ofP
   unfold ofQE at h
   split
   ·rfl
   ·rename_i h2; rw [if_neg h2] at h; rw [if_neg (by rw [h]; exact he)]
  rw [h,h1,h2] at hQ
  exact ⟨⟨trivial,trivial,trivial,trivial⟩,hQ _ (as_triple (.nil _ _ rfl) (.nil _ _ rfl))⟩
 refine poly_Check_ok l _ ⟨rfl,rfl,iff_bne (fun h=>bad _ h ?_) (fun h=>?_)⟩
 ·have h:plsE l≠0:=h
  unfold ofQE; rw [if_pos h]
 have h:plsE l=0:=h
 have hl:=plsE_zero h
 have q1:ofQE l t=ofE l t:=by unfold ofQE; rw [if_neg (by simp [h])]
 have q2:ofQV l t=ofV l t:=by unfold ofQV; rw [if_neg (by simp [h])]
 have q3:ofQP l t=ofP l t:=by unfold ofQP; rw [if_neg (by simp [h])]
 refine term_Check_ok t (by unfold small; omega) _ ⟨rfl,rfl,iff_bne (fun h=>bad _ h ?_) (fun h=>?_)⟩
 ·have h:t.check≠0:=h
  rw [q1]; unfold ofE; rw [if_pos h]
 have h:t.check=0:=h
 obtain ⟨hfm,hsz,_⟩:=Tm.check_zero.1 h
 have hvl:(Tm.vars [t]).length≤65536:=Nat.le_trans (vars_len4 hsz) (by omega)
 refine VarsOf_vars [t] (by simp [Tm.sizeL]; omega) _ ⟨rfl,rfl,?_⟩
 refine poly_polynomial_ok hl (vars_sort _) hvl t (by omega) hfm (pre_vars t) (fun c C h2 h3 h4 h5=>⟨rfl,rfl,iff_bne (fun h=>absurd rfl h) (fun _=>?_)⟩) (fun h2=>⟨rfl,rfl,iff_bne (fun _=>bad _ h2 ?_) (fun h=>absurd h h2)⟩)
 ·have e0:ofE l t=0:=by rw [ofE_pol h]; exact h2
  have ev:ofV l t=Tm.vars [t]:=by unfold ofV; rw [if_pos e0]
  have ep:ofP l t=c:=by unfold ofP; rw [if_pos e0,h3]; rfl
  rw [q1,q2,q3,e0,ev,ep] at hQ
  have eC:(V.l (encKs C)).list.length=C.length:=encKs_length C
  show ∃ m0,Zdr Q m0 (V.l (encN (Tm.vars [t]))) 0 (V.l (encKs C)) ((V.l (encKs C)).list.length) [] []
  rw [eC]
  exact of_list hvl _ rfl c C h4 h5 (polyT_sort hl h3) (by rw [h4.length_eq]; have:=polyT_len h3; omega) (hQ _ (.refl _))
 ·rw [q1,ofE_pol h]
end Go.Proofs.YthhnadeoioeniaaGreat
namespace Go.Proofs.YthhnadeoioeniaaGreat
open Go Go.Abs
def exAdd:ByteArray:=.mk #[97,100,100]
def exs:ByteArray:=.mk #[115]
def exx:ByteArray:=.mk #[120]
def exy:ByteArray:=.mk #[121]
def exP:Pls:=[⟨exAdd,[⟨1,[0,0]⟩,⟨1,[0,1]⟩,⟨2,[1,0]⟩]⟩,⟨exs,[⟨1,[0]⟩,⟨1,[1]⟩]⟩]
def exX:Tm:=.mk exx true []
def exY:Tm:=.mk exy true []
def exS:Tm:=.mk exAdd false [.mk exs false [exX],exY]
def exT:Tm:=.mk exs false [.mk exAdd false [exX,exY]]
theorem ex1:plsE exP=0:=by kernel_rfl
theorem ex2:ofE exP exS=0:=by kernel_rfl
theorem ex4:ofV exP exS=[exx,exy]:=by kernel_rfl
theorem ex5:ofP exP exS=[⟨3,[0,0]⟩,⟨1,[0,1]⟩,⟨2,[1,0]⟩]:=by kernel_rfl
theorem ex6:cmpT exP exS exT=(2,0):=by kernel_rfl
theorem l08_variable_ok (x:ByteArray):Fn Zef [sD x] (tD (.mk x true [])):=Fn.as fun Q hQ=>by
 refine Zk4 _ _ ?_
 unfold Zgn
 exact ⟨⟨trivial,trivial,trivial,trivial⟩,hQ _ (.last3 _ _ _)⟩
theorem l08_symbol_ok (x:ByteArray) (l:List Tm):Fn Zdp [sD x,tsD l] (tD (.mk x false l)):=fun Q hQ=>by
 refine Zmd _ _ _ ?_
 unfold Ziv
 exact ⟨⟨trivial,trivial,trivial,trivial⟩,hQ⟩
theorem l08_example_ok:Fn ZeA [] (plsD exP):=fun Q hQ=>by
 refine ZlZ _ ?_
 exact ⟨trivial,hQ⟩
theorem SameNames_self (l:List ByteArray):Fn ZeO [nsD l,nsD l] (bD true):=fun Q hQ=>by
 refine Zkw _ _ _ fun hb _=>iff_bne (fun h=>absurd rfl h) (fun _ _=>?_)
 rw [encN_length] at hb ⊢
 refine ZgI Q _ _ _ hb (fun _=>True) (fun k hk _ K hK=>?_) (fun _=>⟨trivial,hQ⟩) 0 (Nat.zero_le _) trivial
 simp only [encN_getD l k hk,List.drop_zero,List.headD_cons,encN_length]
 exact ⟨by omega,by omega,by omega,by omega,iff_not (iff_yes (by simp) (hK trivial))⟩
theorem l08_alive_ok:Fn ZaJ [] (bD true):=fun Q hQ=>by
 refine ZmL _ ?_
 unfold ZjR
 have hc:=poly_Compare_ok exP exS exT (by rw [show exS.size=4 from by kernel_rfl]; omega) (by rw [show exT.size=4 from by kernel_rfl]; omega)
 have e1:cmpQ exP exS exT=(2,0):=by unfold cmpQ; rw [if_neg (by simp [ex1]),ex6]
 rw [e1] at hc
 have ho:=poly_Of_ok exP exS (by rw [show exS.size=4 from by kernel_rfl]; omega)
 have q1:ofQE exP exS=0:=by unfold ofQE; rw [if_neg (by simp [ex1]),ex2]
 have q2:ofQV exP exS=[exx,exy]:=by unfold ofQV; rw [if_neg (by simp [ex1]),ex4]
 have q3:ofQP exP exS=[⟨3,[0,0]⟩,⟨1,[0,1]⟩,⟨2,[1,0]⟩]:=by unfold ofQP; rw [if_neg (by simp [ex1]),ex5]
 rw [q1,q2,q3] at ho
 refine l08_variable_ok _ _ ⟨rfl,rfl,l08_variable_ok _ _ ⟨rfl,rfl,tD (.mk exs false [exX]),(l08_symbol_ok _ [exX]).here rfl,tD exS,(l08_symbol_ok _ [.mk exs false [exX],exY]).here rfl,
  tD (.mk exAdd false [exX,exY]),(l08_symbol_ok _ [exX,exY]).here rfl,tD exT,(l08_symbol_ok _ [.mk exAdd false [exX,exY]]).here rfl,plsD exP,l08_example_ok.here rfl,.tup [iD 2,iD 0],hc.here rfl,plsD exP,l08_example_ok.here rfl,.tup [nsD [exx,exy],msD [⟨3,[0,0]⟩,⟨1,[0,1]⟩,⟨2,[1,0]⟩],iD 0],ho.here rfl,?_⟩⟩
 refine iff_beq (fun _=>iff_beq (fun _=>iff_beq (fun _=>?_) (fun h=>absurd rfl h)) (fun h=>absurd rfl h)) (fun h=>absurd rfl h)
 refine SameNames_self [exx,exy] _ ⟨rfl,rfl,iff_yes rfl ?_⟩
 have hm:=r08_SameMonos_ok [⟨3,[0,0]⟩,⟨1,[0,1]⟩,⟨2,[1,0]⟩] [⟨3,[0,0]⟩,⟨1,[0,1]⟩,⟨2,[1,0]⟩]
 rw [sameMo_self] at hm
 exact hm _ ⟨rfl,rfl,trivial,hQ⟩
end Go.Proofs.YthhnadeoioeniaaGreat
namespace Go.Proofs.YthhnadeoioeniaaGreat
open Go Go.Abs
end Go.Proofs.YthhnadeoioeniaaGreat
namespace Go.Proofs.YthhnadeoioeniaaGreat
open Go Go.Abs
theorem sysE_zero {r:Ru} (h:sysE r=0):r.length≤64∧(∀ x∈r,x.1.check=0∧x.2.check=0)∧r.any extraB=false:=by
 unfold sysE at h
 by_cases h1:rules r≠0
 ·rw [if_pos h1] at h; exact absurd h h1
 ·rw [if_neg h1] at h
  have h1':rules r=0:=Decidable.byContradiction h1
  obtain ⟨g1,g2⟩:=rules_zero h1'
  refine ⟨g1,g2,?_⟩
  split at h
  ·cases hb:r.any extraB with
   | false=>rfl
   | true=>rw [hb,if_pos rfl] at h; cases h
  ·cases h
def crs (l:Pls) (r:Ru):List (Int×Int):=r.map fun x=>cmpT l x.1 x.2
def fstE:List (Int×Int)→Int
 | []=>0
 | x::r=>if x.2≠0 then x.2 else fstE r
theorem fstE_snoc (x:Int×Int):∀ l:List (Int×Int),fstE (l++[x])=if fstE l≠0 then fstE l else x.2
 | []=>by
  show (if x.2≠0 then x.2 else 0)=if (0:Int)≠0 then 0 else x.2
  rw [if_neg (by simp:¬ (0:Int)≠0)]
  split
  ·rfl
  ·omega
 | y::l=>by
  show (if y.2≠0 then y.2 else fstE (l++[x]))=if (if y.2≠0 then y.2 else fstE l)≠0 then (if y.2≠0 then y.2 else fstE l) else x.2
  rw [fstE_snoc x l]
  by_cases h:y.2≠0
  ·rw [if_pos h,if_pos h,if_pos h]
  ·rw [if_neg h,if_neg h]
theorem fstE_take {l:List (Int×Int)} {k:Nat} (hk:k<l.length) (h0:fstE (l.take k)=0) (h:l[k].2≠0):fstE l=l[k].2:=by
 induction l generalizing k with
 | nil=>simp at hk
 | cons y l ih =>
  match k with
  | 0 =>
   show (if y.2≠0 then y.2 else fstE l)=y.2
   have h:y.2≠0:=h
   rw [if_pos h]
  | k+1 =>
   rw [List.take_succ_cons] at h0
   have h0:(if y.2≠0 then y.2 else fstE (l.take k))=0:=h0
   by_cases hy:y.2≠0
   ·rw [if_pos hy] at h0; exact absurd h0 hy
   ·rw [if_neg hy] at h0
    show (if y.2≠0 then y.2 else fstE l)=_
    rw [if_neg hy]
    exact ih (by simpa using hk) h0 h
noncomputable def orE2 (l:Pls) (r:Ru):Int:=if sysE r≠0 then sysE r else fstE (crs l r)
noncomputable def orQE (l:Pls) (r:Ru):Int:=if plsE l≠0 then plsE l else orE2 l r
noncomputable def orQL (l:Pls) (r:Ru):List Int:=if orQE l r=0 then (crs l r).map (·.1) else []
theorem crs_length (l:Pls) (r:Ru):(crs l r).length=r.length:=by simp [crs]
theorem crs_get (l:Pls) (r:Ru) (k:Nat) (h:k<r.length):(crs l r)[k]'(by rw [crs_length]; exact h)=cmpT l (r[k]).1 (r[k]).2:=by simp [crs]
theorem encP_snoc (l:List Int) (x:Int):encP l++[[V.i x]]=encP (l++[x]):=by unfold encP; rw [List.map_append]; rfl
theorem poly_Orients_ok (l:Pls) (r:Ru) (hB:∀ x∈r,x.1.size≤small∧x.2.size≤small):Fn Zfi [plsD l,ruD r] (.tup [psD (orQL l r),iD (orQE l r)]):=Fn.as fun Q hQ=>by
 refine Zly _ _ _ ?_
 unfold Zgy
 have bad:∀ e:Int,e≠0→orQE l r=e→(True∧True∧True)∧Q (.tup [.nil,iD e]) []:=fun e he h=>by
  refine ⟨⟨trivial,trivial,trivial⟩,hQ _ (As.pair (.nil _ _ ?_) ?_)⟩
  ·show encP (orQL l r)=[]
   unfold orQL; rw [if_neg (by rw [h]; exact he)]; rfl
  ·rw [h]; exact .refl _
 refine poly_Check_ok l _ ⟨rfl,rfl,iff_bne (fun h=>bad _ h ?_) (fun h=>?_)⟩
 ·have h:plsE l≠0:=h
  unfold orQE; rw [if_pos h]
 have h:plsE l=0:=h
 have hl:=plsE_zero h
 have q1:orQE l r=orE2 l r:=by unfold orQE; rw [if_neg (by simp [h])]
 refine term_CheckSystem_ok r hB _ ⟨rfl,rfl,iff_bne (fun h2=>bad _ h2 ?_) (fun h2 hb=>?_)⟩
 ·have h2:sysE r≠0:=h2
  rw [q1]; unfold orE2; rw [if_pos h2]
 have h2:sysE r=0:=h2
 have q2:orE2 l r=fstE (crs l r):=by unfold orE2; rw [if_neg (by simp [h2])]
 rw [q2] at q1
 obtain ⟨k1,k2,k3⟩:=sysE_zero h2
 have hll:=encRs_length r
 rw [hll] at hb ⊢
 have hcl:=crs_length l r
 refine Zhm Q _ _ _ hb (fun k n y=>n=k∧y=encP (((crs l r).take k).map (·.1))∧fstE ((crs l r).take k)=0) (fun k n y hk hJ K hK=>?_) (fun n y hJ=>?_) 0 _ _ (Nat.zero_le _) ⟨rfl,rfl,rfl⟩
 ·obtain ⟨rfl,rfl,h0⟩:=hJ
  have hin:=List.getElem_mem hk
  obtain ⟨c1,c2⟩:=k2 _ hin
  simp only [encRs_getD _ _ hk,List.drop_zero,List.headD_cons,List.tail_cons]
  have hg:=crs_get l r n hk
  have hsn:(crs l r).take (n+1)=(crs l r).take n++[cmpT l (r[n]).1 (r[n]).2]:=by rw [List.take_succ_eq_append_getElem (by omega),hg]
  refine ⟨by omega,by rw [hll]; omega,poly_Against_ok hl (r[n]).1 (r[n]).2 c1 c2 _ ⟨rfl,rfl,iff_bne (fun h5=>bad _ h5 ?_) (fun h5=>⟨?_,?_,hK _ _ ⟨rfl,?_,?_⟩⟩)⟩⟩
  ·have h5:(cmpT l (r[n]).1 (r[n]).2).2≠0:=h5
   rw [q1,fstE_take (k:=n) (by omega) h0 (by rw [hg]; exact h5),hg]
  ·rw [encP_length,List.length_map,List.length_take]; omega
  ·show n+1≤lim; unfold lim; omega
  ·rw [hsn,List.map_append]
   exact encP_snoc _ _
  ·have h5:(cmpT l (r[n]).1 (r[n]).2).2=0:=h5
   rw [hsn,fstE_snoc,if_neg (by simp [h0]),h5]
 ·obtain ⟨rfl,rfl,h0⟩:=hJ
  rw [List.take_of_length_le (by omega)] at h0 ⊢
  have e1:orQE l r=0:=by rw [q1]; exact h0
  have e2:orQL l r=(crs l r).map (·.1):=by unfold orQL; rw [if_pos e1]
  rw [e1,e2] at hQ
  refine ⟨⟨?_,trivial,trivial⟩,hQ _ (.refl _)⟩
  rw [encP_length,List.length_map]; omega
end Go.Proofs.YthhnadeoioeniaaGreat
namespace Go.Proofs.YthhnadeoioeniaaGreat
open Go.Abs
namespace Tm
theorem image_mem (l:Su) (x:ByteArray):image l x=mk x true []∨∃ y∈l,image l x=y.2:=by
 induction l with
 | nil=>exact .inl rfl
 | cons y r ih =>
  simp only [image]
  by_cases h:y.1=x
  ·rw [if_pos h]; exact .inr ⟨y,by simp,rfl⟩
  ·rw [if_neg h]
   rcases ih with h2 | ⟨z,h3,h4⟩
   ·exact .inl h2
   ·exact .inr ⟨z,by simp [h3],h4⟩
theorem sizeL_map_le {f:Tm→Tm} {M:Nat}:∀ {l:List Tm},(∀ a∈l,(f a).size≤a.size*M)→sizeL (l.map f)≤sizeL l*M
 | [],_=>by simp [sizeL]
 | t::r,h=>by
  have h1:=h t (by simp)
  have h2:=sizeL_map_le (l:=r) fun a ha=>h a (by simp [ha])
  simp only [List.map_cons,sizeL,Nat.add_mul]; omega
theorem app_size {l:Su} {M:Nat} (hM:1≤M) (h:∀ x∈l,x.2.size≤M):∀ t:Tm,(app l t).size≤t.size*M:=ind fun t ih=>by
 rw [app_eq]
 have hp:M≤t.size*M:=Nat.le_mul_of_pos_left M (size_pos t)
 split
 ·rcases image_mem l t.name with h2 | ⟨y,hy,h2⟩
  ·rw [h2]; simp [size,sizeL]; omega
  ·rw [h2]; exact Nat.le_trans (h y hy) hp
 ·have:=sizeL_map_le ih
  rw [size_eq t,Nat.add_mul]
  show 1+sizeL (t.args.map (app l))≤_
  omega
theorem app_formed {l:Su} (h:∀ x∈l,x.2.formed=true):∀ t:Tm,t.formed=true→(app l t).formed=true:=ind fun t ih ht=>by
 rw [app_eq]
 have ht':=ht
 rw [formed_eq] at ht'
 split
 ·rename_i hv
  rw [hv,if_pos rfl,Bool.and_eq_true] at ht'
  rcases image_mem l t.name with h2 | ⟨y,hy,h2⟩
  ·rw [h2,formed_eq]
   show (if true then nameOk t.name false&&List.isEmpty ([]:List Tm) else _)=true
   rw [if_pos rfl,ht'.1]; rfl
  ·rw [h2]; exact h y hy
 ·rename_i hv
  rw [if_neg hv] at ht'
  simp only [Bool.and_eq_true] at ht'
  rw [formed_eq]
  simp only [name,var,args,Bool.false_eq_true,if_false,Bool.and_eq_true,List.length_map]
  refine ⟨⟨ht'.1.1,ht'.1.2⟩,?_⟩
  rw [List.all_eq_true]
  intro x hx
  obtain ⟨a,ha,rfl⟩:=List.mem_map.1 hx
  exact ih a ha (List.all_eq_true.1 ht'.2 a ha)
end Tm
end Go.Proofs.YthhnadeoioeniaaGreat
namespace Go.Proofs.YthhnadeoioeniaaGreat
open Go Go.Abs
theorem valE_F {l:Pls} {t:Tm} (hp:plsE l=0) (h:(valE l t).2=0):(valE l t).1=valF l (fun _=>0) t:=by
 unfold valE at h ⊢
 rw [if_neg (by simp [hp])] at h ⊢
 by_cases h2:ofE l t=0
 ·rw [if_neg (by simp [h2])]
  obtain ⟨k1,k2,k3,c,k4⟩:=ofE_some h2
  have q3:ofP l t=c:=by unfold ofP; rw [if_pos h2,k4]; rfl
  have hsm:=polyT_small (plsE_zero hp).mono (vars_sort [t]).nodup (pre_vars t) k4
  have hlen:LenP (Tm.vars [t]).length c:=fun x hx=>(hsm x hx).1.1
  rw [q3]
  show constP c=_
  rw [constP_eq hlen]
  exact value_const l (plsE_zero hp).mono (vars_sort [t]).nodup (pre_vars t) k4
 ·rw [if_pos h2] at h
  exact absurd h h2
theorem cmpT_inst {l:Pls} {s t:Tm} (hp:plsE l=0) (h:(cmpT l s t).2=0) (su:Su) (ρ:ByteArray→Nat) :
  ((cmpT l s t).1=2→valF l ρ (Tm.app su t)<valF l ρ (Tm.app su s))∧((cmpT l s t).1=1→valF l ρ (Tm.app su t)≤valF l ρ (Tm.app su s))∧((cmpT l s t).1=0∨(cmpT l s t).1=1∨(cmpT l s t).1=2):=by
 unfold cmpT at h ⊢
 by_cases h1:ofE l s=0
 ·rw [if_neg (by simp [h1])] at h ⊢
  by_cases h2:ofE l t=0
  ·rw [if_neg (by simp [h2])] at h ⊢
   obtain ⟨_,_,_,p,hp1⟩:=ofE_some h1
   obtain ⟨_,_,_,q,hq1⟩:=ofE_some h2
   have i1:s∈[s,t]:=by simp
   have i2:t∈[s,t]:=by simp
   obtain ⟨m1,_⟩:=poly_more (l:=l) i1
   obtain ⟨m2,_⟩:=poly_more (l:=l) i2
   rw [hp1] at m1
   rw [hq1] at m2
   have m1:polyT l (Tm.vars [s,t]) s=some (p.map (mapMo (emb (Tm.vars [s,t]) (Tm.vars [s])))):=m1
   have m2:polyT l (Tm.vars [s,t]) t=some (q.map (mapMo (emb (Tm.vars [s,t]) (Tm.vars [t])))):=m2
   rw [m1,m2]
   have nd:=(vars_sort [s,t]).nodup
   have x1:=pre_vars2 i1
   have x2:=pre_vars2 i2
   have hm:=(plsE_zero hp).mono
   refine ⟨fun h5=>inst_down l hm nd x1 x2 m1 m2 h5 su ρ,fun h5=>inst_down_le l hm nd x1 x2 m1 m2 h5 su ρ,?_⟩
   show cmpP _ _ _=0∨cmpP _ _ _=1∨cmpP _ _ _=2
   unfold cmpP
   split
   ·split
    ·exact .inr (.inr rfl)
    ·exact .inr (.inl rfl)
   ·exact .inl rfl
  ·rw [if_pos h2] at h
   exact absurd h h2
 ·rw [if_pos h1] at h
  exact absurd h h1
end Go.Proofs.YthhnadeoioeniaaGreat
namespace Go.Proofs.YthhnadeoioeniaaGreat
open Go.Abs
def boundS (l:Su) (x:ByteArray):Bool:=hasN (suNames l) x
theorem boundS_iff {l:Su} {x:ByteArray}:boundS l x=true↔∃ y∈l,y.1=x:=by
 unfold boundS; rw [hasN_iff]; simp [suNames]
theorem boundS_false {l:Su} {x:ByteArray}:boundS l x=false↔∀ y∈l,y.1≠x:=by
 rw [← Bool.not_eq_true,boundS_iff]
 exact ⟨fun h y hy e=>h ⟨y,hy,e⟩,fun h ⟨y,hy,e⟩=>h y hy e⟩
def withS (l:Su) (v:ByteArray) (t:Tm):Su:=match l with
 | []=>[(v,t)]
 | x::r=>if cmpN x.1 v = -1 then x::withS r v t else (v,t)::x::r
theorem withS_at (v:ByteArray) (t:Tm):∀ (k:Nat) (l:Su),k≤l.length→(∀ i (h:i<l.length),i<k→cmpN (l[i]).1 v = -1)→(∀ h:k<l.length,cmpN (l[k]).1 v≠-1)→withS l v t=l.take k++(v,t)::l.drop k
 | 0,[],_,_,_=>rfl
 | 0,x::r,_,_,h=>by
  have:=h (by simp)
  simp only [List.getElem_cons_zero] at this
  rw [withS,if_neg this]; rfl
 | k+1,[],h,_,_=>by simp at h
 | k+1,x::r,h,hc,hn=>by
  have h0:=hc 0 (by simp) (by omega)
  simp only [List.getElem_cons_zero] at h0
  rw [withS,if_pos h0,List.take_succ_cons,List.drop_succ_cons,List.cons_append,withS_at v t k r (by simpa using h) (fun i hi hk=>by
   have:=hc (i+1) (by simpa using hi) (by omega); simpa using this) (fun h1=>by have:=hn (by simpa using h1); simpa using this)]
theorem withS_length (l:Su) (v:ByteArray) (t:Tm):(withS l v t).length=l.length+1:=by
 induction l with
 | nil=>rfl
 | cons x r ih=>unfold withS; split <;> simp_all
theorem withS_mem {l:Su} {v:ByteArray} {t:Tm} {y:ByteArray×Tm}:y∈withS l v t↔y=(v,t)∨y∈l:=by
 induction l with
 | nil=>simp [withS]
 | cons x r ih =>
  unfold withS
  split
  ·rw [List.mem_cons,ih,List.mem_cons]
   constructor
   ·rintro (h | h | h)
    ·exact .inr (.inl h)
    ·exact .inl h
    ·exact .inr (.inr h)
   ·rintro (h | h | h)
    ·exact .inr (.inl h)
    ·exact .inl h
    ·exact .inr (.inr h)
  ·simp
def SortS:Su→Prop
 | []=>True
 | x::r=>(∀ y∈r,cmpN x.1 y.1 = -1)∧SortS r
theorem SortS.lt:∀ {l:Su},SortS l→∀ i j (hi:i<l.length) (hj:j<l.length),i<j→cmpN (l[i]).1 (l[j]).1 = -1
 | [],_,i,_,hi,_,_=>by simp at hi
 | x::r,h,i,j,hi,hj,hij=>by
  cases j with
  | zero=>omega
  | succ j =>
   simp only [List.getElem_cons_succ]
   cases i with
   | zero=>exact h.1 _ (List.getElem_mem _)
   | succ i=>simp only [List.getElem_cons_succ]; exact SortS.lt h.2 i j (by simpa using hi) (by simpa using hj) (by omega)
theorem withS_sort {v:ByteArray} {t:Tm}:∀ {l:Su},SortS l→(∀ y∈l,y.1≠v)→SortS (withS l v t)
 | [],_,_=>⟨fun y hy=>by simp at hy,trivial⟩
 | x::r,h,hn=>by
  unfold withS
  split
  ·rename_i hx
   refine ⟨fun y hy=>?_,withS_sort h.2 fun y hy=>hn y (List.mem_cons_of_mem _ hy)⟩
   rcases withS_mem.1 hy with rfl | hy
   ·exact hx
   ·exact h.1 y hy
  ·rename_i hx
   have hvx:cmpN v x.1 = -1:=by
    rcases cmpN_cases x.1 v with g | g | g
    ·exact absurd g.1 hx
    ·exact absurd g.2 (hn x (by simp))
    ·exact g.2
   refine ⟨fun y hy=>?_,h⟩
   rcases List.mem_cons.1 hy with rfl | hy
   ·exact hvx
   ·exact cmpN_trans hvx (h.1 y hy)
theorem image_sort {l:Su} (h:SortS l) {y:ByteArray×Tm} (hy:y∈l):Tm.image l y.1=y.2:=by
 induction l with
 | nil=>simp at hy
 | cons x r ih =>
  rcases List.mem_cons.1 hy with rfl | hy
  ·rw [Tm.image,if_pos rfl]
  ·have hne:x.1≠y.1:=fun e=>by
    have:=h.1 y hy
    rw [e,cmpN_self] at this; omega
   rw [Tm.image,if_neg hne]; exact ih h.2 hy
theorem encS_take (l:Su) (k:Nat):encS (l.take k)=(encS l).take k:=by simp [encS,List.map_take]
theorem encS_drop (l:Su) (k:Nat):encS (l.drop k)=(encS l).drop k:=by simp [encS,List.map_drop]
theorem encS_withS (v:ByteArray) (t:Tm) (k:Nat) (l:Su) (h1:k≤l.length) (h2:∀ i (h:i<l.length),i<k→cmpN (l[i]).1 v = -1) (h3:∀ h:k<l.length,cmpN (l[k]).1 v≠-1) :
  encS (withS l v t)=(encS l).take k++(V.s v::t.enc)::(encS l).drop k:=by
 rw [withS_at v t k l h1 h2 h3]; simp [encS,encB,List.map_take,List.map_drop]
theorem r03_Bound_ok (l:Su) (x:ByteArray):Fn Zh3 [suD l,sD x] (bD (boundS l x)):=fun Q hQ=>by
 refine ZmC _ _ _ fun hb=>?_
 have hl:=encS_length l
 rw [hl] at hb ⊢
 refine Zjq Q _ _ _ hb (fun k=>∀ i (h:i<l.length),i<k→(l[i]).1≠x) (fun k hk hJ K hK=>?_) (fun hJ=>?_) 0 (Nat.zero_le _) (fun i _ h=>by omega)
 ·simp only [encS_getD _ k hk,List.drop_zero,List.headD_cons,V.str]
  refine ⟨by omega,by omega,?_⟩
  rw [ba_beq]
  refine iff_dec (fun h=>⟨trivial,?_⟩) (fun h=>hK fun i hi hik=>?_)
  ·rw [boundS_iff.2 ⟨_,List.getElem_mem hk,h⟩] at hQ; exact hQ
  ·rcases Nat.lt_succ_iff_lt_or_eq.1 hik with h8 | h8
   ·exact hJ i hi h8
   ·subst h8; exact h
 ·rw [boundS_false.2 fun y hy=>by
   obtain ⟨k,hk,rfl⟩:=List.mem_iff_getElem.1 hy
   exact hJ k hk hk] at hQ
  exact ⟨trivial,hQ⟩
theorem r03_with_ok (l:Su) (v:ByteArray) (t:Tm) (hB:l.length+1≤lim):Fn Zi6 [suD l,sD v,tD t] (suD (withS l v t)):=fun Q hQ=>by
 refine ZmP _ _ _ _ _ _ ?_
 unfold ZkM
 have hl:=encS_length l
 have hlim:lim=549755813888:=rfl
 refine ZkH Q (fun x0 x1 x7 y0 y1 y2=>x0=encS l∧x1=v∧(y0=t.name∧y1=t.var∧y2=Tm.encL t.args)∧∃ k:Nat,x7=k∧k≤l.length∧∀ i (h:i<l.length),i<k→cmpN (l[i]).1 v = -1) (fun x0 x1 x7 _ _ _=>l.length - x7.toNat) ?_ _ _ _ _ _ _ ⟨rfl,rfl,⟨rfl,rfl,rfl⟩,0,rfl,Nat.zero_le _,fun i _ h=>by omega⟩
 intro x0 x1 x7 y0 y1 y2 hI m0 ih
 obtain ⟨e0,e1,⟨e2,e3,e4⟩,k,e5,hk,hJ⟩:=hI
 rw [e5] at ih
 rw [e0,e1,e2,e3,e4,e5]
 unfold ZfS
 intro hb
 have t1:((encS l).take ((k:Nat):Int).toNat).drop (0:Int).toNat=encS (l.take k):=by simp [encS_take]
 have t2:((encS l).take (((encS l).length:Int)).toNat).drop ((k:Nat):Int).toNat=encS (l.drop k):=by simp [encS_drop]
 have l1:(encS (l.take k)).length=k:=by rw [encS_length,List.length_take]; omega
 have l2:(encS (l.drop k)).length=l.length - k:=by rw [encS_length,List.length_drop]
 rw [t1,t2,l1,l2,hl]
 simp only [List.nil_append,List.length_nil,List.length_append,List.length_cons,l1,l2]
 have fin:∀ _:Unit,(∀ h:k<l.length,cmpN (l[k]).1 v≠-1)→Q (.v (.sl Z2) (V.l (encS (l.take k)++[[V.s v,V.s t.name,V.b t.var,V.l (Tm.encL t.args)]]++encS (l.drop k)))) []:=fun _ h=>by
  have e:=encS_withS v t k l hk hJ h
  have e2:encS (l.take k)++[[V.s v,V.s t.name,V.b t.var,V.l (Tm.encL t.args)]]++encS (l.drop k)=encS (withS l v t):=by
   rw [e,encS_take,encS_drop,Tm.enc_eq]; simp
  rw [e2]; exact hQ
 refine iff_dec (fun h=>?_) (fun h=>?_)
 ·have hk':k<l.length:=by omega
  have hx:=encS_getD l k hk'
  simp only [Int.toNat_natCast,hx,List.drop_zero,List.headD_cons]
  refine ⟨by omega,by omega,r01_CompareNames_ok _ _ _ ⟨rfl,rfl,iff_dec (fun h2=>?_) (fun h2=>?_)⟩⟩
  ·have h2:cmpN (l[k]).1 v<0:=h2
   have hm:cmpN (l[k]).1 v = -1:=by rcases cmpN_cases (l[k]).1 v with h | h | h <;> omega
   rw [wrap_in _ (by omega) (by omega)]
   refine ih _ _ _ _ _ _ ⟨rfl,rfl,⟨rfl,rfl,rfl⟩,k+1,by omega,by omega,fun i hi hik=>?_⟩ (by omega)
   rcases Nat.lt_succ_iff_lt_or_eq.1 hik with h | h
   ·exact hJ i hi h
   ·subst h; exact hm
  ·have h2:¬ cmpN (l[k]).1 v<0:=h2
   have h2':cmpN (l[k]).1 v≠-1:=by omega
   exact ⟨by omega,by omega,by omega,trivial,by omega,by omega,by omega,by omega,by omega,by omega,by omega,by omega,by omega,fin () fun _=>h2'⟩
 ·exact ⟨by omega,by omega,by omega,trivial,by omega,by omega,by omega,by omega,by omega,by omega,by omega,by omega,by omega,fin () fun h4=>absurd h4 (by omega)⟩
namespace Tm
mutual
def mat:Tm→Su→Tm→Su×Bool
 | mk n v xs,s,t=>if v then (if boundS s n then (s,eqB (image s n) t) else (withS s n t,true)) else
   if t.var||!(decide (t.name=n))||!(decide (t.args.length=xs.length)) then ([],false) else matL xs s t.args
def matL:List Tm→Su→List Tm→Su×Bool
 | [],s,_=>(s,true)
 | p::r,s,ts=>match ts with
  | []=>(s,true)
  | t::ts=>if (mat p s t).2 then matL r (mat p s t).1 ts else ([],false)
end
theorem mat_eq:∀ (p:Tm) (s:Su) (t:Tm),mat p s t=if p.var then (if boundS s p.name then (s,eqB (image s p.name) t) else (withS s p.name t,true)) else
   if t.var||!(decide (t.name=p.name))||!(decide (t.args.length=p.args.length)) then ([],false) else matL p.args s t.args
 | mk _ _ _,_,_=>rfl
theorem matL_length:∀ (ps:List Tm),(∀ p∈ps,∀ (s:Su) (t:Tm),(mat p s t).1.length≤s.length+p.size)→∀ (s:Su) (ts:List Tm),(matL ps s ts).1.length≤s.length+sizeL ps
 | [],_,s,ts=>by simp [matL,sizeL]
 | p::r,h,s,[]=>by simp [matL]
 | p::r,h,s,t::ts=>by
  have h1:=h p (by simp) s t
  have h2:=matL_length r (fun q hq=>h q (List.mem_cons_of_mem _ hq)) (mat p s t).1 ts
  simp only [matL,sizeL]
  split
  ·omega
  ·simp
theorem mat_length:∀ (p:Tm) (s:Su) (t:Tm),(mat p s t).1.length≤s.length+p.size:=ind fun p ih s t=>by
 rw [mat_eq]
 have h:=matL_length p.args ih s t.args
 have hz:=size_eq p
 split
 ·split
  ·show s.length≤_; omega
  ·show (withS s p.name t).length≤_
   rw [withS_length]; have:=size_pos p; omega
 ·split
  ·simp
  ·omega
def matK (ps:List Tm) (s:Su) (ts:List Tm) (k:Nat):Su×Bool:=matL (ps.take k) s ts
theorem matL_step:∀ (k:Nat) (ps:List Tm) (s:Su) (ts:List Tm) (h1:k<ps.length) (h2:k<ts.length),(matK ps s ts k).2=true→matK ps s ts (k+1)=if (mat ps[k] (matK ps s ts k).1 ts[k]).2 then mat ps[k] (matK ps s ts k).1 ts[k] else ([],false)
 | 0,p::r,s,t::ts,_,_,_=>by
  simp only [matK,List.take_succ_cons,List.take_zero,matL,List.getElem_cons_zero]
  split
  ·rename_i h; rw [← h]
  ·rfl
 | k+1,p::r,s,t::ts,h1,h2,h=>by
  simp only [matK,List.take_succ_cons,matL,List.getElem_cons_succ] at h ⊢
  split
  ·rename_i hm
   rw [if_pos hm] at h
   have:=matL_step k r (mat p s t).1 ts (by simpa using h1) (by simpa using h2) h
   exact this
  ·rename_i hm
   rw [if_neg hm] at h; cases h
theorem matK_false:∀ (k:Nat) (ps:List Tm) (s:Su) (ts:List Tm),k≤ps.length→(matK ps s ts k).2=false→matL ps s ts=([],false)
 | 0,ps,s,ts,_,h=>by simp [matK,matL] at h
 | k+1,p::r,s,[],hk,h=>by simp [matK,matL] at h
 | k+1,p::r,s,t::ts,hk,h=>by
  simp only [matK,List.take_succ_cons,matL] at h ⊢
  split
  ·rename_i hm
   rw [if_pos hm] at h
   exact matK_false k r _ ts (by simpa using hk) h
  ·rfl
theorem matK_length (ps:List Tm) (s:Su) (ts:List Tm) (k:Nat):(matK ps s ts k).1.length≤s.length+sizeL (ps.take k):=matL_length _ (fun p _=>mat_length p) s ts
end Tm
theorem r03_match_ok:∀ (p:Tm) (s:Su) (t:Tm),s.length+p.size≤lim→Fn ZeP [suD s,tD p,tD t] (.tup [suD (Tm.mat p s t).1,bD (Tm.mat p s t).2]):=Tm.ind fun p ih s t hB=>Fn.as fun Q hQ=>by
 refine ZmJ _ _ _ _ _ _ _ _ ?_
 unfold ZjQ
 have hlim:lim=549755813888:=rfl
 have hsz:=Tm.size_eq p
 have hp:=Tm.size_pos p
 rw [Tm.mat_eq] at hQ
 have bad:(if p.var then (if boundS s p.name then (s,Tm.eqB (Tm.image s p.name) t) else (withS s p.name t,true)) else
   if t.var||!(decide (t.name=p.name))||!(decide (t.args.length=p.args.length)) then ([],false) else Tm.matL p.args s t.args)=(([],false):Su×Bool)→Q (.tup [.nil,.v .bool (V.b false)]) []:=fun h=>by
  rw [h] at hQ
  refine hQ _ (.tup _ _ rfl fun j=>?_)
  match j with
  | 0=>exact .nil _ _ rfl
  | 1=>exact .refl _
  | j+2=>exact .refl _
 refine iff_intro (fun h=>?_) (fun h=>?_)
 ·rw [if_pos h] at hQ
  refine r03_Bound_ok s p.name _ ⟨rfl,rfl,iff_intro (fun h1=>?_) (fun h1=>?_)⟩
  ·have h1:boundS s p.name=true:=h1
   rw [if_pos h1] at hQ
   exact ⟨tD (Tm.image s p.name),(r01_Image_ok s p.name).here rfl,r01_Equal_ok _ _ _ ⟨rfl,rfl,⟨trivial,trivial,trivial⟩,hQ _ (.refl _)⟩⟩
  ·have h1:boundS s p.name=false:=h1
   rw [if_neg (by rw [h1]; simp)] at hQ
   exact r03_with_ok s p.name t (by omega) _ ⟨rfl,rfl,⟨trivial,trivial,trivial⟩,hQ _ (.refl _)⟩
 ·rw [if_neg (by rw [h]; simp)] at hQ bad
  refine iff_intro (fun h1=>⟨⟨trivial,trivial,trivial⟩,bad (by rw [h1]; rfl)⟩) (fun h1=>?_)
  rw [ba_beq]
  refine iff_not (iff_dec (fun h2 hb hb2=>?_) (fun h2=>⟨⟨trivial,trivial,trivial⟩,bad (by rw [h1,decide_eq_false h2]; rfl)⟩))
  have l1:=Tm.encL_length t.args
  have l2:=Tm.encL_length p.args
  rw [l1,l2]
  rw [l1] at hb
  refine iff_bne (fun h3=>⟨⟨trivial,trivial,trivial⟩,bad (by rw [h1,decide_eq_true h2,decide_eq_false (show ¬ t.args.length=p.args.length by omega)]; rfl)⟩) (fun h3=>?_)
  have h3:t.args.length=p.args.length:=by omega
  rw [h1,decide_eq_true h2,decide_eq_true h3] at hQ bad
  simp only [Bool.not_true,Bool.or_false,Bool.false_eq_true,if_false] at hQ bad
  rw [ZjV]
  intro _
  rw [l1]
  refine ZjD Q _ _ _ _ _ _ _ hb (fun k y=>y=.l (encS (Tm.matK p.args s t.args k).1)∧(Tm.matK p.args s t.args k).2=true) (fun k y hk hJ K hK=>?_) (fun y hJ=>?_) 0 _ (Nat.zero_le _) ⟨rfl,rfl⟩
  ·have hk2:k<p.args.length:=by omega
   obtain ⟨rfl,hJ⟩:=hJ
   simp only [Tm.encL_getD _ k hk,Tm.encL_getD _ k hk2,Tm.enc_eq,List.drop_zero,List.headD_cons,List.tail_cons]
   have hst:=Tm.matL_step k p.args s t.args hk2 hk hJ
   have hlen:=Tm.matK_length p.args s t.args k
   have g1:=Tm.sizeL_take _ k hk2
   have g2:=Tm.sizeL_take_le p.args (k+1)
   refine ⟨by omega,by omega,by omega,by omega,.tup [suD _,bD _],(ih _ (List.getElem_mem hk2) (Tm.matK p.args s t.args k).1 (t.args[k]) (by omega)).here rfl,?_⟩
   refine iff_not (iff_intro (fun h4=>hK _ ⟨?_,?_⟩) (fun h4=>⟨⟨trivial,trivial,trivial⟩,bad ?_⟩))
   ·have h4:(Tm.mat (p.args[k]) (Tm.matK p.args s t.args k).1 (t.args[k])).2=true:=h4
    rw [hst,if_pos h4]; rfl
   ·have h4:(Tm.mat (p.args[k]) (Tm.matK p.args s t.args k).1 (t.args[k])).2=true:=h4
    rw [hst,if_pos h4]; exact h4
   ·have h4:(Tm.mat (p.args[k]) (Tm.matK p.args s t.args k).1 (t.args[k])).2=false:=h4
    exact Tm.matK_false (k+1) _ _ _ hk2 (by rw [hst,if_neg (by rw [h4]; simp)])
  ·obtain ⟨rfl,hJ⟩:=hJ
   have e:Tm.matK p.args s t.args t.args.length=Tm.matL p.args s t.args:=by rw [Tm.matK,h3,List.take_length]
   rw [e] at hJ ⊢
   rw [hJ] at hQ
   exact ⟨⟨trivial,trivial,trivial⟩,hQ _ (.refl _)⟩
theorem r03_Match_ok (p t:Tm) (hB:p.size≤lim):Fn ZhN [tD p,tD t] (.tup [suD (Tm.mat p [] t).1,bD (Tm.mat p [] t).2]):=fun Q hQ=>by
 refine ZmK _ _ _ _ _ _ _ ?_
 unfold ZjN
 exact r03_match_ok p [] t (by simpa using hB) _ ⟨rfl,rfl,⟨trivial,trivial,trivial⟩,hQ⟩
end Go.Proofs.YthhnadeoioeniaaGreat
namespace Go.Proofs.YthhnadeoioeniaaGreat
open Go Go.Abs
theorem sizeL_set:∀ (l:List Tm) (i:Nat) (x:Tm) (hi:i<l.length),Tm.sizeL (l.set i x)+(l[i]).size=Tm.sizeL l+x.size
 | a::r,0,x,_=>by simp [Tm.sizeL]; omega
 | a::r,i+1,x,h=>by
  have:=sizeL_set r i x (by simpa using h)
  simp [Tm.sizeL]; omega
theorem put_size:∀ (p:List Int) (t x:Tm),Tm.at_ t p≠none→(Tm.put t p x).size≤t.size+x.size
 | [],t,x,_=>by show x.size≤_; omega
 | i::p,t,x,ha=>by
  simp only [Tm.at_] at ha
  have h1:¬ i<0:=fun h=>by rw [if_pos h] at ha; exact ha rfl
  rw [if_neg h1] at ha
  have h2:¬ i≥(t.args.length:Int):=fun h=>by rw [if_pos h] at ha; exact ha rfl
  rw [if_neg h2] at ha
  have hi:i.toNat<t.args.length:=by omega
  have eg:t.args.getD i.toNat Tm.dflt=t.args[i.toNat]:=by rw [List.getD_eq_getElem?_getD,List.getElem?_eq_getElem hi]; rfl
  have ih:=put_size p _ x ha
  have hs:=sizeL_set t.args i.toNat (Tm.put (t.args.getD i.toNat Tm.dflt) p x) hi
  have e:(Tm.put t (i::p) x).size=1+Tm.sizeL (t.args.set i.toNat (Tm.put (t.args.getD i.toNat Tm.dflt) p x)):=rfl
  rw [eg] at ih hs e
  have:=Tm.size_eq t
  omega
theorem r04_replaced_ok:∀ (p:List Int) (t x:Tm),Tm.at_ t p≠none→t.size+x.size≤1099511627776→Fn Zc0 [tD t,psD p,iD x.size,iD x.depth] (.tup [iD (Tm.put t p x).size,iD (Tm.put t p x).depth])
 | [],t,x,_,_=>fun Q hQ=>by
  refine ZhA _ _ _ _ _ _ _ ?_
  unfold ZeV
  exact fun _=>iff_beq (fun _=>⟨⟨trivial,trivial,trivial⟩,hQ⟩) (fun h=>absurd rfl h)
 | i::p,t,x,ha,hB=>fun Q hQ=>by
  refine ZhA _ _ _ _ _ _ _ ?_
  unfold ZeV
  intro hb0
  have hps:=put_size (i::p) t x ha
  have hl':(encP (i::p)).length=p.length+1:=encP_length (i::p)
  simp only [Tm.at_] at ha
  have h1:¬ i<0:=fun h=>by rw [if_pos h] at ha; exact ha rfl
  rw [if_neg h1] at ha
  have h2:¬ i≥(t.args.length:Int):=fun h=>by rw [if_pos h] at ha; exact ha rfl
  rw [if_neg h2] at ha
  have hi:i.toNat<t.args.length:=by omega
  have eg:t.args.getD i.toNat Tm.dflt=t.args[i.toNat]:=by rw [List.getD_eq_getElem?_getD,List.getElem?_eq_getElem hi]; rfl
  rw [eg] at ha
  have e0:(encP (i::p)).getD ((0:Int)).toNat []=[.i i]:=rfl
  have e1:((encP (i::p)).take (((encP (i::p)).length:Int)).toNat).drop (1:Int).toNat=encP p:=by
   rw [Int.toNat_natCast,List.take_length]; rfl
  refine iff_beq (fun h=>by omega) (fun _ hb=>?_)
  have hl:=Tm.encL_length t.args
  rw [hl] at hb ⊢
  have ep:Tm.put t (i::p) x=.mk t.name false (t.args.set i.toNat (Tm.put t.args[i.toNat] p x)):=by rw [Tm.put,eg]
  rw [ep] at hQ hps
  generalize hA:t.args.set i.toNat (Tm.put t.args[i.toNat] p x)=A at hQ hps
  have hAl:A.length=t.args.length:=by rw [← hA]; simp
  have esz:(Tm.mk t.name false A).size=1+Tm.sizeL A:=rfl
  have edp:(Tm.mk t.name false A).depth=Tm.depthL A+1:=rfl
  have hds:=Tm.depth_le_size (Tm.mk t.name false A)
  rw [esz] at hps hds
  rw [edp] at hds
  refine Zhv Q _ _ _ _ _ hb (fun k n d=>n=((1+Tm.sizeL (A.take k):Nat):Int)∧d=((Tm.depthL (A.take k):Nat):Int)) (fun k n d hk hJ M hM=>?_) (fun n d hJ=>?_) 0 _ _ (Nat.zero_le _) ⟨by simp [Tm.sizeL],by simp [Tm.depthL]⟩
  ·obtain ⟨rfl,rfl⟩:=hJ
   have hkA:k<A.length:=by omega
   have hin:=List.getElem_mem hk
   have hsk:=Tm.size_mem hin
   have hst:=Tm.sizeL_take A k hkA
   have hdt:=Tm.depthL_take A k hkA
   have hsl:=Tm.sizeL_take_le A (k+1)
   have fin:∀ v w:V,v.int=((A[k]).size:Int)→w.int=((A[k]).depth:Int)→ZaZ Q M (encP (i::p)) x.size x.depth ((1+Tm.sizeL (A.take k):Nat):Int) ((Tm.depthL (A.take k):Nat):Int) v w (Tm.encL t.args) (t.args.length:Int) (k:Int):=fun v w hv hw=>by
    rw [ZhH]
    unfold ZfB
    rw [hv,hw,wrap_in _ (by omega) (by omega)]
    refine hM _ _ ⟨by rw [hst]; omega,?_⟩
    rw [hdt]
    split <;> omega
   rw [hl,e0,e1,hl',Tm.encL_getD _ k hk,Tm.enc_eq]
   refine ⟨by omega,by omega,iD (t.args[k]).size,(r01_Size_ok _ (by unfold small; omega)).here rfl,r01_Depth_ok _ (by unfold small; omega) _ ⟨rfl,rfl,by omega,by omega,?_⟩⟩
   refine iff_beq (fun he=>?_) (fun he=>?_)
   ·have he':((k:Nat):Int)=i:=he
    have hki:i.toNat=k:=by omega
    have hAk:A[k]=Tm.put t.args[k] p x:=by
     subst hA; simp [hki]
    have ha2:Tm.at_ t.args[k] p≠none:=by
     have:t.args[i.toNat]=t.args[k]:=by simp [hki]
     rw [← this]; exact ha
    refine ⟨by omega,by omega,by omega,.tup [iD (Tm.put t.args[k] p x).size,iD (Tm.put t.args[k] p x).depth],(r04_replaced_ok p t.args[k] x ha2 (by omega)).here rfl,fin _ _ ?_ ?_⟩
    ·rw [hAk]; rfl
    ·rw [hAk]; rfl
   ·have he':((k:Nat):Int)≠i:=he
    have hki:i.toNat≠k:=by omega
    have hAk:A[k]=t.args[k]:=by
     subst hA; simp [List.getElem_set,hki]
    exact fin _ _ (by rw [hAk]; rfl) (by rw [hAk]; rfl)
  ·obtain ⟨rfl,rfl⟩:=hJ
   rw [← hAl,List.take_length]
   refine ⟨⟨trivial,trivial,trivial⟩,?_⟩
   rw [wrap_in _ (by omega) (by omega)]
   rw [esz,edp] at hQ
   exact hQ
end Go.Proofs.YthhnadeoioeniaaGreat
namespace Go.Proofs.YthhnadeoioeniaaGreat
open Go Go.Abs
def rlOf (r:Ru) (i:Int):Tm×Tm:=r.getD i.toNat (Tm.dflt,Tm.dflt)
def sbOf (t:Tm) (p:List Int):Tm:=(Tm.at_ t p).getD Tm.dflt
def subErr (r:Ru) (t:Tm) (i:Int) (p:List Int):Int :=
 if i<0 then 8 else if i≥(r.length:Int) then 8 else if (Tm.at_ t p).isNone then 8 else if (Tm.mat (rlOf r i).1 [] (sbOf t p)).2 then 0 else 9
def suOf (r:Ru) (t:Tm) (i:Int) (p:List Int):Su:=if subErr r t i p=0 then (Tm.mat (rlOf r i).1 [] (sbOf t p)).1 else []
theorem r04_Subst_ok (r:Ru) (t:Tm) (i:Int) (p:List Int) (hB:∀ x∈r,x.1.size≤lim):Fn ZhO [ruD r,tD t,.agg [.v (.int .i64) (.i i),.v (.sl ZT) (.l (encP p))]] (.tup [suD (suOf r t i p),iD (subErr r t i p)]):=Fn.as fun Q hQ=>by
 refine Zmx _ _ _ _ _ _ _ ?_
 unfold ZjL
 have bad:∀ e:Int,e≠0→subErr r t i p=e→((True∧True∧True)∧Q (.tup [.nil,.v (.int .i64) (V.i e)]) []):=fun e he h=>⟨⟨trivial,trivial,trivial⟩,hQ _ (by
  have:suOf r t i p=[]:=by unfold suOf; rw [if_neg (by rw [h]; exact he)]
  rw [this,h]
  exact As.pair (.nil _ _ rfl) (.refl _))⟩
 have hl:=encRs_length r
 have b1:i<0→subErr r t i p=8:=fun h=>by unfold subErr; rw [if_pos h]
 have b2:¬ i<0→i≥(r.length:Int)→subErr r t i p=8:=fun h h2=>by unfold subErr; rw [if_neg h,if_pos h2]
 cases hat:Tm.at_ t p with
 | none =>
  refine r01_At_ok t p _ ?_
  rw [hat]
  refine ⟨rfl,rfl,iff_dec (fun h=>bad 8 (by omega) (b1 h)) (fun h hb=>iff_dec (fun h2=>bad 8 (by omega) (b2 h (by rw [hl] at h2; exact h2))) (fun h2=>?_))⟩
  rw [hl] at h2
  exact bad 8 (by omega) (by unfold subErr; rw [if_neg h,if_neg h2,hat]; rfl)
 | some s =>
  refine r01_At_ok t p _ ?_
  rw [hat]
  refine ⟨rfl,rfl,iff_dec (fun h=>bad 8 (by omega) (b1 h)) (fun h hb=>iff_dec (fun h2=>bad 8 (by omega) (b2 h (by rw [hl] at h2; exact h2))) (fun h2=>?_))⟩
  show Zfj _ (encRs r) i (encP p) (V.s s.name) (V.b s.var) (V.l (Tm.encL s.args))
  rw [Zka]
  unfold ZhD
  rw [hl] at h2 ⊢
  have hk:i.toNat<r.length:=by omega
  have hrl:rlOf r i=r[i.toNat]:=by unfold rlOf; rw [List.getD_eq_getElem?_getD,List.getElem?_eq_getElem hk]; rfl
  have hsb:sbOf t p=s:=by unfold sbOf; rw [hat]; rfl
  have hse:subErr r t i p=if (Tm.mat (r[i.toNat]).1 [] s).2 then 0 else 9:=by
   unfold subErr; rw [if_neg h,if_neg h2,hat,hrl,hsb]; rfl
  rw [encRs_getD r _ hk]
  refine ⟨by omega,by omega,.tup [suD (Tm.mat (r[i.toNat]).1 [] s).1,bD (Tm.mat (r[i.toNat]).1 [] s).2],(r03_Match_ok (r[i.toNat]).1 s (hB _ (List.getElem_mem hk))).here rfl,?_⟩
  refine iff_not (iff_intro (fun hm=>⟨⟨trivial,trivial,trivial⟩,hQ _ ?_⟩) (fun hm=>bad 9 (by omega) ?_))
  ·have hm':(Tm.mat (r[i.toNat]).1 [] s).2=true:=hm
   rw [hm',if_pos rfl] at hse
   have:suOf r t i p=(Tm.mat (r[i.toNat]).1 [] s).1:=by unfold suOf; rw [if_pos hse,hrl,hsb]
   rw [this,hse]
   exact .refl _
  ·have hm':(Tm.mat (r[i.toNat]).1 [] s).2=false:=hm
   rw [hse,hm']; rfl
end Go.Proofs.YthhnadeoioeniaaGreat
namespace Go.Proofs.YthhnadeoioeniaaGreat
open Go Go.Abs
theorem withS_in {l:Su} {v:ByteArray} {t:Tm} {x:ByteArray×Tm} (h:x∈withS l v t):x∈l∨x=(v,t):=by
 induction l with
 | nil=>unfold withS at h; right; simpa using h
 | cons y r ih =>
  unfold withS at h
  split at h
  ·rcases List.mem_cons.1 h with rfl | h
   ·exact .inl (by simp)
   ·exact (ih h).imp (fun h=>List.mem_cons_of_mem _ h) id
  ·rcases List.mem_cons.1 h with rfl | h
   ·exact .inr rfl
   ·exact .inl h
namespace Tm
theorem mat_size {M:Nat}:∀ (p:Tm) (s:Su) (t:Tm),(∀ x∈s,x.2.size≤M)→t.size≤M→∀ x∈(mat p s t).1,x.2.size≤M:=by
 refine ind fun p ih s t hs ht=>?_
 have hL:∀ (ps:List Tm),(∀ p∈ps,∀ (s:Su) (t:Tm),(∀ x∈s,x.2.size≤M)→t.size≤M→∀ x∈(mat p s t).1,x.2.size≤M)→∀ (s:Su) (ts:List Tm),(∀ x∈s,x.2.size≤M)→(∀ t∈ts,t.size≤M)→∀ x∈(matL ps s ts).1,x.2.size≤M:=by
  intro ps
  induction ps with
  | nil=>intro _ s ts hs _; simpa [matL] using hs
  | cons p r ihr =>
   intro h s ts hs hts
   cases ts with
   | nil=>simpa [matL] using hs
   | cons t ts =>
    simp only [matL]
    split
    ·exact ihr (fun q hq=>h q (List.mem_cons_of_mem _ hq)) _ ts (h p (by simp) s t hs (hts t (by simp))) fun a ha=>hts a (List.mem_cons_of_mem _ ha)
    ·intro x hx; cases hx
 rw [mat_eq]
 split
 ·split
  ·exact hs
  ·intro x hx
   rcases withS_in hx with h | rfl
   ·exact hs x h
   ·exact ht
 ·split
  ·intro x hx; cases hx
  ·exact hL p.args ih s t.args hs fun a ha=>Nat.le_trans (Nat.le_of_lt (size_mem ha)) ht
theorem at_size:∀ (p:List Int) (t s:Tm),at_ t p=some s→s.size≤t.size
 | [],t,s,h=>by simp only [at_] at h; cases h; exact Nat.le_refl _
 | i::p,t,s,h=>by
  simp only [at_] at h
  split at h
  ·cases h
  ·split at h
   ·cases h
   ·have hi:i.toNat<t.args.length:=by omega
    have eg:t.args.getD i.toNat dflt=t.args[i.toNat]:=by rw [List.getD_eq_getElem?_getD,List.getElem?_eq_getElem hi]; rfl
    rw [eg] at h
    exact Nat.le_trans (at_size p _ s h) (Nat.le_of_lt (size_mem (List.getElem_mem hi)))
end Tm
theorem subErr_zero {r:Ru} {t:Tm} {i:Int} {p:List Int} (h:subErr r t i p=0):¬ i<0∧¬ i≥(r.length:Int)∧∃ s,Tm.at_ t p=some s∧(Tm.mat (rlOf r i).1 [] s).2=true:=by
 unfold subErr at h
 split at h
 ·cases h
 ·split at h
  ·cases h
  ·split at h
   ·cases h
   ·rename_i h1 h2 h3
    refine ⟨h1,h2,?_⟩
    cases hat:Tm.at_ t p with
    | none=>rw [hat] at h3; exact absurd rfl h3
    | some s =>
     refine ⟨s,rfl,?_⟩
     have:sbOf t p=s:=by unfold sbOf; rw [hat]; rfl
     rw [this] at h
     split at h
     ·assumption
     ·cases h
def stepU (r:Ru) (t:Tm) (i:Int) (p:List Int):Tm:=Tm.put t p (Tm.app (suOf r t i p) (rlOf r i).2)
def stepErr (r:Ru) (t:Tm) (i:Int) (p:List Int):Int:=if subErr r t i p≠0 then subErr r t i p else if 4000<(stepU r t i p).size then 3 else if 200<(stepU r t i p).depth then 3 else 0
def stepT (r:Ru) (t:Tm) (i:Int) (p:List Int):Tm:=if stepErr r t i p=0 then stepU r t i p else Tm.dflt
theorem r04_Step_ok (r:Ru) (t:Tm) (i:Int) (p:List Int) (hB:∀ x∈r,x.1.size≤2097152∧x.2.size≤2097152) (ht:t.size≤4000) :
  Fn ZgV [ruD r,tD t,.agg [.v (.int .i64) (.i i),.v (.sl ZT) (.l (encP p))]] (.tup [tD (stepT r t i p),iD (stepErr r t i p)]):=Fn.as fun Q hQ=>by
 refine ZmR _ _ _ _ _ _ _ ?_
 unfold ZkJ
 have hl:=encRs_length r
 have bad:∀ e:Int,e≠0→stepErr r t i p=e→(((True∧True∧True∧True)∧True∧True)∧Q (.tup [.agg [.v .str (V.s (ByteArray.mk #[])),.v .bool (V.b false),.nil],.v (.int .i64) (V.i e)]) []):=fun e he h=>⟨⟨⟨trivial,trivial,trivial,trivial⟩,trivial,trivial⟩,hQ _ (by
  have:stepT r t i p=Tm.dflt:=by unfold stepT; rw [if_neg (by rw [h]; exact he)]
  rw [this,h]
  exact As.pair (As.last3 _ _ _) (.refl _))⟩
 refine r04_Subst_ok r t i p (fun x hx=>by have:=(hB x hx).1; unfold lim; omega) _ ⟨rfl,rfl,iff_bne (fun h=>?_) (fun h=>?_)⟩
 ·have h:subErr r t i p≠0:=h
  exact bad _ h (by unfold stepErr; rw [if_pos h])
 have h0:subErr r t i p=0:=h
 obtain ⟨h1,h2,s,hat,hm⟩:=subErr_zero h0
 have hk:i.toNat<r.length:=by omega
 have hrl:rlOf r i=r[i.toNat]:=by unfold rlOf; rw [List.getD_eq_getElem?_getD,List.getElem?_eq_getElem hk]; rfl
 have hb:=hB _ (List.getElem_mem hk)
 have hss:=Tm.at_size p t s hat
 have hsb:sbOf t p=s:=by unfold sbOf; rw [hat]; rfl
 have hsu:suOf r t i p=(Tm.mat (rlOf r i).1 [] s).1:=by unfold suOf; rw [if_pos h0,hsb]
 have hasz:(Tm.app (suOf r t i p) (rlOf r i).2).size≤2097152*4000:=by
  rw [hsu]
  refine Nat.le_trans (Tm.app_size (M:=4000) (by omega) (Tm.mat_size _ [] s (fun x hx=>by cases hx) (by omega)) _) ?_
  rw [hrl]
  exact Nat.mul_le_mul_right _ hb.2
 have hat':Tm.at_ t p≠none:=by rw [hat]; intro h; cases h
 have hts:=Tm.size_eq t
 have htl:=Tm.length_sizeL t.args
 have hE:stepErr r t i p=if 4000<(stepU r t i p).size then 3 else if 200<(stepU r t i p).depth then 3 else 0:=by unfold stepErr; rw [if_neg (by simp [h0])]
 have hU:stepU r t i p=Tm.put t p (Tm.app (suOf r t i p) (r[i.toNat]).2):=by unfold stepU; rw [hrl]
 rw [hrl] at hasz
 rw [hl,encRs_getD r _ hk]
 refine ⟨by omega,by omega,r01_Grown_ok (suOf r t i p) (r[i.toNat]).2 (by unfold small; omega) _ ⟨rfl,rfl,r04_replaced_ok p t (Tm.app (suOf r t i p) (r[i.toNat]).2) hat' (by omega) _ ⟨rfl,rfl,?_⟩⟩⟩
 rw [← hU]
 refine iff_dec (fun h=>bad 3 (by omega) ?_) (fun h=>iff_dec (fun h2=>bad 3 (by omega) ?_) (fun h2=>?_))
 ·have h:(((stepU r t i p).size:Nat):Int) > 4000:=h
  rw [hE,if_pos (by omega)]
 ·have h:¬ (((stepU r t i p).size:Nat):Int) > 4000:=h
  have h2:(((stepU r t i p).depth:Nat):Int) > 200:=h2
  rw [hE,if_neg (by omega),if_pos (by omega)]
 have h:¬ (((stepU r t i p).size:Nat):Int) > 4000:=h
 have h2:¬ (((stepU r t i p).depth:Nat):Int) > 200:=h2
 rw [if_neg (by omega),if_neg (by omega)] at hE
 have hT:stepT r t i p=stepU r t i p:=by unfold stepT; rw [if_pos hE]
 rw [hE,hT] at hQ
 rw [Zkn]
 unfold ZiN
 rw [hl,encRs_getD r _ hk]
 refine ⟨by omega,by omega,tD (Tm.app (suOf r t i p) (r[i.toNat]).2),(r01_Apply_ok (suOf r t i p) (r[i.toNat]).2 (by unfold lim; omega)).here rfl,?_⟩
 refine r01_Put_ok p t (Tm.app (suOf r t i p) (r[i.toNat]).2) hat' (by unfold lim; omega) (by unfold lim; omega) _ ⟨rfl,rfl,⟨⟨trivial,trivial,trivial,trivial⟩,trivial,trivial⟩,?_⟩
 rw [← hU]
 exact hQ _ (.refl _)
end Go.Proofs.YthhnadeoioeniaaGreat
namespace Go.Proofs.YthhnadeoioeniaaGreat
open Go Go.Abs
abbrev Stp:=Int×List Int
def encSt (l:List Stp):LL:=l.map fun x=>[V.i x.1,V.l (encP x.2)]
theorem encSt_length (l:List Stp):(encSt l).length=l.length:=by simp [encSt]
theorem encSt_getD (l:List Stp) (k:Nat) (h:k<l.length):(encSt l).getD k []=[V.i (l[k]).1,V.l (encP (l[k]).2)]:=by
 unfold encSt
 rw [List.getD_eq_getElem?_getD,List.getElem?_map,List.getElem?_eq_getElem h]; rfl
def after_ (r:Ru) (t:Tm):List Stp→Tm
 | []=>t
 | s::l=>after_ r (stepT r t s.1 s.2) l
theorem after_append (r:Ru):∀ (l m:List Stp) (t:Tm),after_ r t (l++m)=after_ r (after_ r t l) m
 | [],_,_=>rfl
 | s::l,m,t=>after_append r l m _
def trail (r:Ru) (t:Tm) (l:List Stp):List Tm:=(List.range (l.length+1)).map fun k=>after_ r t (l.take k)
def chErr (r:Ru):Tm→List Stp→Int
 | _,[]=>0
 | t,s::l=>if stepErr r t s.1 s.2≠0 then stepErr r t s.1 s.2 else chErr r (stepT r t s.1 s.2) l
theorem chErr_append (r:Ru):∀ (l m:List Stp) (t:Tm),chErr r t l=0→chErr r t (l++m)=chErr r (after_ r t l) m
 | [],_,_,_=>rfl
 | s::l,m,t,h=>by
  unfold chErr at h
  split at h
  ·contradiction
  ·rename_i h1
   show (if _ then _ else _)=_
   rw [if_neg h1]
   exact chErr_append r l m _ h
theorem chErr_snoc {r:Ru} {l:List Stp} {t:Tm} {s:Stp} (h:chErr r t l=0) (h2:stepErr r (after_ r t l) s.1 s.2=0):chErr r t (l++[s])=0:=by
 rw [chErr_append r l [s] t h]
 unfold chErr
 rw [if_neg (by simp [h2])]; rfl
theorem chErr_bad {r:Ru} {l m:List Stp} {t:Tm} {s:Stp} (h:chErr r t l=0) (h2:stepErr r (after_ r t l) s.1 s.2≠0):chErr r t (l++s::m)=stepErr r (after_ r t l) s.1 s.2:=by
 rw [chErr_append r l (s::m) t h]
 unfold chErr
 rw [if_pos h2]
def tmE (r:Ru) (t:Tm) (l:List Stp):Int:=if l.length > 4096 then 3 else if t.check≠0 then t.check else chErr r t l
def tmR (r:Ru) (t:Tm) (l:List Stp):List Tm:=if tmE r t l=0 then trail r t l else []
def trailK (r:Ru) (t:Tm) (l:List Stp) (k:Nat):List Tm:=(List.range (k+1)).map fun j=>after_ r t (l.take j)
theorem trailK_succ (r:Ru) (t:Tm) (l:List Stp) (k:Nat):trailK r t l (k+1)=trailK r t l k++[after_ r t (l.take (k+1))]:=by
 unfold trailK; rw [List.range_succ,List.map_append]; rfl
theorem stepT_size {r:Ru} {t:Tm} {i:Int} {p:List Int} (h:stepErr r t i p=0):(stepT r t i p).size≤4000∧(stepT r t i p).depth≤200:=by
 unfold stepT
 rw [if_pos h]
 unfold stepErr at h
 split at h
 ·contradiction
 ·split at h
  ·cases h
  ·split at h
   ·cases h
   ·omega
theorem r05_Terms_ok (r:Ru) (t:Tm) (l:List Stp) (hB:∀ x∈r,x.1.size≤2097152∧x.2.size≤2097152) (ht:t.size≤small) :
  Fn ZhJ [ruD r,.agg [.v .str (.s t.name),.v .bool (.b t.var),.v (.sl Za) (.l (Tm.encL t.args)),.v (.sl Zfc) (.l (encSt l))]] (.tup [tsD (tmR r t l),iD (tmE r t l)]):=Fn.as fun Q hQ=>by
 refine Zmz _ _ _ _ _ _ fun hb=>?_
 have hl:=encSt_length l
 rw [hl] at hb ⊢
 have bad:∀ e:Int,e≠0→tmE r t l=e→((True∧True∧True)∧Q (.tup [.nil,.v (.int .i64) (V.i e)]) []):=fun e he h=>⟨⟨trivial,trivial,trivial⟩,hQ _ (by
  have:tmR r t l=[]:=by unfold tmR; rw [if_neg (by rw [h]; exact he)]
  rw [this,h]
  exact As.pair (.nil _ _ rfl) (.refl _))⟩
 refine iff_dec (fun h=>bad 3 (by omega) (by unfold tmE; rw [if_pos (by omega)])) (fun h=>r01_Check_ok t ht _ ⟨rfl,rfl,iff_bne (fun h2=>?_) (fun h2 hb=>?_)⟩)
 ·have h2:t.check≠0:=h2
  exact bad _ h2 (by unfold tmE; rw [if_neg (by omega),if_pos h2])
 have h2:t.check=0:=h2
 have hE:tmE r t l=chErr r t l:=by unfold tmE; rw [if_neg (by omega),if_neg (by simp [h2])]
 have hck:=Tm.check_zero.1 h2
 refine Zjh Q _ _ _ hb (fun k n y=>n=k+1∧y=Tm.encL (trailK r t l k)∧chErr r t (l.take k)=0∧(after_ r t (l.take k)).size≤4000) (fun k n y hk hJ K hK=>?_) (fun n y hJ=>?_) 0 _ _ (Nat.zero_le _)
  ⟨rfl,by simp [trailK,Tm.encL,Tm.enc_eq,after_],by simp [chErr],by simpa [after_] using hck.2.1⟩
 ·obtain ⟨rfl,rfl,h4,h5⟩:=hJ
  have htk:(trailK r t l k).length=k+1:=by simp [trailK]
  have hw:IntKind.i64.wrap (((k+1:Nat):Int) - (1:Int))=(k:Int):=by rw [wrap_in _ (by omega) (by omega)]; omega
  have hg:(Tm.encL (trailK r t l k)).getD k []=(after_ r t (l.take k)).enc:=by
   rw [Tm.encL_getD _ k (by omega)]; simp [trailK]
  have htc:l.take (k+1)=l.take k++[l[k]]:=List.take_succ_eq_append_getElem hk
  have haf:after_ r t (l.take (k+1))=stepT r (after_ r t (l.take k)) (l[k]).1 (l[k]).2:=by rw [htc,after_append]; rfl
  rw [hw,Int.toNat_natCast,hg,Tm.enc_eq,encSt_getD l k hk,hl,Tm.encL_length,htk]
  refine ⟨by omega,by omega,rfl,rfl,by omega,by omega,rfl,by omega,.tup [tD (stepT r (after_ r t (l.take k)) (l[k]).1 (l[k]).2),iD (stepErr r (after_ r t (l.take k)) (l[k]).1 (l[k]).2)],(r04_Step_ok r _ _ _ hB h5).here rfl,iff_bne (fun h6=>?_) (fun h6=>?_)⟩
  ·have h6:stepErr r (after_ r t (l.take k)) (l[k]).1 (l[k]).2≠0:=h6
   refine bad _ h6 ?_
   rw [hE]
   have hsp:l=l.take k++l[k]::l.drop (k+1):=by rw [← List.drop_eq_getElem_cons hk,List.take_append_drop]
   conv=>lhs; rw [hsp]
   exact chErr_bad h4 h6
  ·have h6:stepErr r (after_ r t (l.take k)) (l[k]).1 (l[k]).2=0:=h6
   refine ⟨rfl,?_,hK _ _ ⟨rfl,?_,?_,?_⟩⟩
   ·show k+1+1≤lim
    unfold lim; omega
   ·rw [trailK_succ,haf,Tm.encL_eq (_++_),List.map_append,← Tm.encL_eq]
    generalize stepT r (after_ r t (l.take k)) (l[k]).1 (l[k]).2=X
    show _++[[V.s X.name,V.b X.var,V.l (Tm.encL X.args)]]=_++[X.enc]
    rw [Tm.enc_eq]
   ·rw [htc]; exact chErr_snoc h4 h6
   ·rw [haf]; exact (stepT_size h6).1
 ·obtain ⟨rfl,rfl,h4,h5⟩:=hJ
  rw [List.take_length] at h4
  have hR:tmR r t l=trailK r t l l.length:=by unfold tmR; rw [if_pos (by rw [hE]; exact h4)]; rfl
  refine ⟨⟨by rw [Tm.encL_length]; simp [trailK],trivial,trivial⟩,hQ _ ?_⟩
  rw [hR,hE,h4]
  exact .refl _
end Go.Proofs.YthhnadeoioeniaaGreat
namespace Go.Proofs.YthhnadeoioeniaaGreat
open Go.Abs
namespace Tm
mutual
def sub (f:ByteArray→Tm):Tm→Tm | mk n v xs=>if v then f n else mk n false (subL f xs)
def subL (f:ByteArray→Tm):List Tm→List Tm | []=>[] | t::r=>sub f t::subL f r
end
theorem subL_map (f:ByteArray→Tm):∀ l:List Tm,subL f l=l.map (sub f)
 | []=>rfl
 | t::r=>by rw [subL,subL_map f r]; rfl
theorem sub_eq (f:ByteArray→Tm):∀ t:Tm,sub f t=if t.var then f t.name else mk t.name false (t.args.map (sub f))
 | mk n v xs=>by rw [sub,subL_map]; rfl
theorem sub_var (f:ByteArray→Tm) {t:Tm} (h:t.var=true):sub f t=f t.name:=by rw [sub_eq,if_pos h]
theorem sub_fn (f:ByteArray→Tm) {t:Tm} (h:t.var=false):sub f t=mk t.name false (t.args.map (sub f)):=by rw [sub_eq,if_neg (by rw [h]; simp)]
theorem app_sub (l:Su):∀ t:Tm,app l t=sub (image l) t:=ind fun t ih=>by
 rw [app_eq,sub_eq]
 split
 ·rfl
 ·congr 1
  exact List.map_congr_left fun a ha=>ih a ha
mutual
def vs:Tm→List ByteArray | mk n v xs=>if v then [n] else vsL xs
def vsL:List Tm→List ByteArray | []=>[] | t::r=>vs t++vsL r
end
theorem vsL_mem {x:ByteArray}:∀ {l:List Tm},x∈vsL l↔∃ a∈l,x∈vs a
 | []=>by simp [vsL]
 | t::r=>by rw [vsL,List.mem_append,vsL_mem]; simp
theorem vs_eq:∀ t:Tm,vs t=if t.var then [t.name] else vsL t.args | mk _ _ _=>rfl
theorem vs_var {t:Tm} (h:t.var=true) {x:ByteArray}:x∈vs t↔x=t.name:=by rw [vs_eq,if_pos h]; simp
theorem vs_fn {t:Tm} (h:t.var=false) {x:ByteArray}:x∈vs t↔∃ a∈t.args,x∈vs a:=by rw [vs_eq,if_neg (by rw [h]; simp),vsL_mem]
theorem sub_congr {f g:ByteArray→Tm}:∀ t:Tm,(∀ x∈vs t,f x=g x)→sub f t=sub g t:=ind fun t ih h=>by
 cases hv:t.var with
 | true=>rw [sub_var _ hv,sub_var _ hv]; exact h _ ((vs_var hv).2 rfl)
 | false =>
  rw [sub_fn _ hv,sub_fn _ hv]
  congr 1
  exact List.map_congr_left fun a ha=>ih a ha fun x hx=>h x ((vs_fn hv).2 ⟨a,ha,hx⟩)
theorem sub_sub (f g:ByteArray→Tm):∀ t:Tm,sub g (sub f t)=sub (fun x=>sub g (f x)) t:=ind fun t ih=>by
 cases hv:t.var with
 | true=>rw [sub_var _ hv,sub_var _ hv]
 | false =>
  rw [sub_fn _ hv,sub_fn _ hv,sub_fn _ rfl]
  show mk t.name false _=_
  congr 1
  rw [show (mk t.name false (t.args.map (sub f))).args=t.args.map (sub f) from rfl,List.map_map]
  exact List.map_congr_left fun a ha=>ih a ha
theorem vs_sub {f:ByteArray→Tm} {x:ByteArray}:∀ t:Tm,x∈vs (sub f t)↔∃ y∈vs t,x∈vs (f y):=ind fun t ih=>by
 cases hv:t.var with
 | true =>
  rw [sub_var _ hv]
  constructor
  ·exact fun h=>⟨_,(vs_var hv).2 rfl,h⟩
  ·rintro ⟨y,hy,h⟩; rw [(vs_var hv).1 hy] at h; exact h
 | false =>
  rw [sub_fn _ hv,vs_fn rfl]
  constructor
  ·rintro ⟨a,ha,h⟩
   obtain ⟨b,hb,rfl⟩:=List.mem_map.1 ha
   obtain ⟨y,hy,h2⟩:=(ih b hb).1 h
   exact ⟨y,(vs_fn hv).2 ⟨b,hb,hy⟩,h2⟩
  ·rintro ⟨y,hy,h⟩
   obtain ⟨b,hb,hy2⟩:=(vs_fn hv).1 hy
   exact ⟨sub f b,List.mem_map.2 ⟨b,hb,rfl⟩,(ih b hb).2 ⟨y,hy2,h⟩⟩
abbrev vr (x:ByteArray):Tm:=mk x true []
end Tm
open Tm
abbrev Bd:=ByteArray→Option Tm
def updB (σ:Bd) (x:ByteArray) (t:Tm):Bd:=fun y=>if y=x then some t else σ y
theorem updB_self (σ:Bd) (x:ByteArray) (t:Tm):updB σ x t x=some t:=by simp [updB]
theorem updB_ne (σ:Bd) {x y:ByteArray} (t:Tm) (h:y≠x):updB σ x t y=σ y:=by simp [updB,h]
structure Tri (σ:Bd) (θ:ByteArray→Tm) (r:ByteArray→Nat):Prop where
 bnd:∀ x t,σ x=some t→θ x=sub θ t
 fre:∀ x,σ x=none→θ x=vr x
 rk:∀ x t,σ x=some t→∀ y∈vs t,r y<r x
theorem Tri.free {σ:Bd} {θ:ByteArray→Tm} {r:ByteArray→Nat} (h:Tri σ θ r):∀ (n:Nat) (x:ByteArray),r x≤n→∀ y∈vs (θ x),σ y=none:=by
 intro n
 induction n with
 | zero =>
  intro x hx y hy
  cases hs:σ x with
  | none=>rw [h.fre x hs,vs_var rfl] at hy; rw [hy]; exact hs
  | some t =>
   rw [h.bnd x t hs] at hy
   obtain ⟨z,hz,_⟩:=(vs_sub t).1 hy
   have:=h.rk x t hs z hz; omega
 | succ n ih =>
  intro x hx y hy
  cases hs:σ x with
  | none=>rw [h.fre x hs,vs_var rfl] at hy; rw [hy]; exact hs
  | some t =>
   rw [h.bnd x t hs] at hy
   obtain ⟨z,hz,hzy⟩:=(vs_sub t).1 hy
   have:=h.rk x t hs z hz
   exact ih z (by omega) y hzy
theorem Tri.fr {σ:Bd} {θ:ByteArray→Tm} {r:ByteArray→Nat} (h:Tri σ θ r) {x y:ByteArray} (hy:y∈vs (θ x)):σ y=none:=h.free _ x (Nat.le_refl _) y hy
theorem Tri.idem {σ:Bd} {θ:ByteArray→Tm} {r:ByteArray→Nat} (h:Tri σ θ r) (t:Tm):sub θ (sub θ t)=sub θ t:=by
 rw [sub_sub]
 refine sub_congr t fun x _=>?_
 have key:∀ u:Tm,(∀ y∈vs u,σ y=none)→(∀ y∈vs u,vr y=θ y):=fun u hu y hy=>(h.fre y (hu y hy)).symm
 have e:sub θ (θ x)=sub vr (θ x):=sub_congr _ fun y hy=>h.fre y (h.fr hy)
 rw [e]
 -- what vr does to what θ yields
 have id1:∀ n (x:ByteArray),r x≤n→sub vr (θ x)=θ x:=by
  intro n
  induction n with
  | zero =>
   intro x hx
   cases hs:σ x with
   | none=>rw [h.fre x hs,sub_var _ rfl]; rfl
   | some t =>
    rw [h.bnd x t hs,sub_sub]
    exact sub_congr t fun z hz=>by have:=h.rk x t hs z hz; omega
  | succ n ih =>
   intro x hx
   cases hs:σ x with
   | none=>rw [h.fre x hs,sub_var _ rfl]; rfl
   | some t =>
    rw [h.bnd x t hs,sub_sub]
    exact sub_congr t fun z hz=>ih z (by have:=h.rk x t hs z hz; omega)
 exact id1 _ x (Nat.le_refl _)
def maxR (r:ByteArray→Nat):List ByteArray→Nat | []=>0 | x::l=>max (r x) (maxR r l)
theorem maxR_mem {r:ByteArray→Nat}:∀ {l:List ByteArray} {x:ByteArray},x∈l→r x≤maxR r l
 | y::l,x,h=>by
  rw [maxR]
  rcases List.mem_cons.1 h with rfl | h
  ·omega
  ·have:=maxR_mem (r:=r) h; omega
open Classical in
theorem Tri.upd {σ:Bd} {θ:ByteArray→Tm} {r:ByteArray→Nat} (h:Tri σ θ r) {x:ByteArray} {t:Tm} (hx:σ x=none) (ho:x ∉ vs (sub θ t)) :
  Tri (updB σ x t) (fun y=>sub (fun z=>if z=x then sub θ t else vr z) (θ y)) (fun y=>if x∈vs (θ y) then r y+(maxR r (vs t)+1) else r y):=by
 have hθx:θ x=vr x:=h.fre x hx
 have keep:∀ u:Tm,x ∉ vs u→sub (fun z=>if z=x then sub θ t else vr z) u=sub vr u:=fun u hu=>sub_congr u fun z hz=>by
  exact if_neg fun e:z=x=>hu (e▸hz)
 have vrθ:∀ u:Tm,sub vr (sub θ u)=sub θ u:=fun u=>by
  rw [sub_sub]
  refine sub_congr u fun y _=>?_
  have:=h.idem (vr y)
  rw [sub_var θ (t:=vr y) rfl] at this
  have e:sub θ (θ y)=sub vr (θ y):=sub_congr _ fun z hz=>h.fre z (h.fr hz)
  rw [← e]; exact this
 refine ⟨fun y u hy=>?_,fun y hy=>?_,fun y u hy z hz=>?_⟩
 ·by_cases hyx:y=x
  ·subst hyx
   rw [updB_self] at hy
   cases hy
   show sub _ (θ y)=_
   rw [hθx,sub_var _ rfl]
   show (if y=y then sub θ t else vr y)=_
   rw [if_pos rfl,← sub_sub,keep _ ho,vrθ]
  ·rw [updB_ne _ _ hyx] at hy
   show sub _ (θ y)=_
   rw [h.bnd y u hy,sub_sub]
 ·by_cases hyx:y=x
  ·subst hyx; rw [updB_self] at hy; cases hy
  ·rw [updB_ne _ _ hyx] at hy
   show sub _ (θ y)=_
   rw [h.fre y hy,sub_var _ rfl]
   show (if y=x then sub θ t else vr y)=_
   rw [if_neg hyx]
 ·show (if x∈vs (θ z) then r z+(maxR r (vs t)+1) else r z)<(if x∈vs (θ y) then r y+(maxR r (vs t)+1) else r y)
  by_cases hyx:y=x
  ·subst hyx
   rw [updB_self] at hy
   cases hy
   have hm:=maxR_mem (r:=r) hz
   rw [if_neg fun hin=>ho ((vs_sub t).2 ⟨z,hz,hin⟩),if_pos (by rw [hθx]; simp [vs])]
   omega
  ·rw [updB_ne _ _ hyx] at hy
   have hr:=h.rk y u hy z hz
   by_cases h1:x∈vs (θ z)
   ·rw [if_pos h1,if_pos (by rw [h.bnd y u hy]; exact (vs_sub u).2 ⟨z,hz,h1⟩)]; omega
   ·rw [if_neg h1]; split <;> omega
theorem Tri.empty:Tri (fun _=>none) vr (fun _=>0):=⟨fun x t h=>(by cases h),fun _ _=>rfl,fun x t h=>(by cases h)⟩
def Resp (τ:ByteArray→Tm) (σ:Bd):Prop:=∀ x t,σ x=some t→τ x=sub τ t
theorem Resp.upd {τ:ByteArray→Tm} {σ:Bd} {x:ByteArray} {t:Tm} (hx:σ x=none) (h:Resp τ (updB σ x t)):Resp τ σ∧τ x=sub τ t:=by
 refine ⟨fun y u hy=>h y u ?_,h x t (updB_self _ _ _)⟩
 rw [updB_ne _ _ (fun e=>by rw [e,hx] at hy; cases hy)]; exact hy
theorem Resp.mk {τ:ByteArray→Tm} {σ:Bd} {x:ByteArray} {t:Tm} (h:Resp τ σ) (ht:τ x=sub τ t):Resp τ (updB σ x t):=fun y u hy=>by
 by_cases hyx:y=x
 ·subst hyx; rw [updB_self] at hy; cases hy; exact ht
 ·rw [updB_ne _ _ hyx] at hy; exact h y u hy
inductive Head (σ:Bd):Tm→Tm→Prop
 | fn (t:Tm):t.var=false→Head σ t t
 | free (t:Tm):t.var=true→σ t.name=none→Head σ t t
 | step (t u h:Tm):t.var=true→σ t.name=some u→Head σ u h→Head σ t h
theorem Head.sub {σ:Bd} {t h:Tm} (a:Head σ t h) {τ:ByteArray→Tm} (hτ:Resp τ σ):Tm.sub τ t=Tm.sub τ h:=by
 induction a with
 | fn t hv=>rfl
 | free t hv hs=>rfl
 | step t u h hv hs _ ih=>rw [sub_var _ hv,hτ _ _ hs]; exact ih
theorem Head.total {σ:Bd} {θ:ByteArray→Tm} {r:ByteArray→Nat} (h:Tri σ θ r):∀ (n:Nat) (t:Tm),(t.var=true→r t.name≤n)→∃ u,Head σ t u:=by
 intro n
 induction n with
 | zero =>
  intro t ht
  cases hv:t.var with
  | false=>exact ⟨t,.fn t hv⟩
  | true =>
   cases hs:σ t.name with
   | none=>exact ⟨t,.free t hv hs⟩
   | some u =>
    cases hu:u.var with
    | false=>exact ⟨u,.step t u u hv hs (.fn u hu)⟩
    | true=>have:=h.rk _ u hs u.name ((vs_var hu).2 rfl); have:=ht hv; omega
 | succ n ih =>
  intro t ht
  cases hv:t.var with
  | false=>exact ⟨t,.fn t hv⟩
  | true =>
   cases hs:σ t.name with
   | none=>exact ⟨t,.free t hv hs⟩
   | some u =>
    obtain ⟨w,hw⟩:=ih u fun hu=>by have:=h.rk _ u hs u.name ((vs_var hu).2 rfl); have:=ht hv; omega
    exact ⟨w,.step t u w hv hs hw⟩
theorem Head.ex {σ:Bd} {θ:ByteArray→Tm} {r:ByteArray→Nat} (h:Tri σ θ r) (t:Tm):∃ u,Head σ t u:=Head.total h (r t.name) t fun _=>Nat.le_refl _
inductive Occ (σ:Bd) (v:ByteArray):Tm→Prop
 | here (t:Tm):v∈vs t→Occ σ v t
 | step (t u:Tm) (x:ByteArray):x∈vs t→σ x=some u→Occ σ v u→Occ σ v t
theorem Occ.iff {σ:Bd} {θ:ByteArray→Tm} {r:ByteArray→Nat} (h:Tri σ θ r) {v:ByteArray} (hv:σ v=none) (t:Tm):Occ σ v t↔v∈vs (sub θ t):=by
 constructor
 ·intro ho
  induction ho with
  | here t ht=>exact (vs_sub t).2 ⟨v,ht,by rw [h.fre v hv]; simp [vs]⟩
  | step t u x hx hs _ ih=>exact (vs_sub t).2 ⟨x,hx,by rw [h.bnd x u hs]; exact ih⟩
 ·have key:∀ n (x:ByteArray),r x≤n→v∈vs (θ x)→v=x∨∃ u,σ x=some u∧Occ σ v u:=by
   intro n
   induction n with
   | zero =>
    intro x hx hm
    cases hs:σ x with
    | none=>rw [h.fre x hs,vs_var rfl] at hm; exact .inl hm
    | some u =>
     rw [h.bnd x u hs] at hm
     obtain ⟨z,hz,_⟩:=(vs_sub u).1 hm
     have:=h.rk x u hs z hz; omega
   | succ n ih =>
    intro x hx hm
    cases hs:σ x with
    | none=>rw [h.fre x hs,vs_var rfl] at hm; exact .inl hm
    | some u =>
     rw [h.bnd x u hs] at hm
     obtain ⟨z,hz,hzm⟩:=(vs_sub u).1 hm
     have:=h.rk x u hs z hz
     rcases ih z (by omega) hzm with rfl | ⟨w,hw,ho⟩
     ·exact .inr ⟨u,rfl,.here u hz⟩
     ·exact .inr ⟨u,rfl,.step u w z hz hw ho⟩
  intro hm
  obtain ⟨x,hx,hxm⟩:=(vs_sub t).1 hm
  rcases key _ x (Nat.le_refl _) hxm with rfl | ⟨u,hu,ho⟩
  ·exact .here t hx
  ·exact .step t u x hx hu ho
end Go.Proofs.YthhnadeoioeniaaGreat
namespace Go.Proofs.YthhnadeoioeniaaGreat
open Go.Abs
namespace Tm
theorem mat_sort:∀ (p:Tm) (s:Su) (t:Tm),SortS s→SortS (mat p s t).1:=ind fun p ih s t hs=>by
 rw [mat_eq]
 have hL:∀ (ps:List Tm),(∀ q∈ps,∀ (s:Su) (t:Tm),SortS s→SortS (mat q s t).1)→∀ (s:Su) (ts:List Tm),SortS s→SortS (matL ps s ts).1:=fun ps=>by
  induction ps with
  | nil=>intro _ s ts hs; exact hs
  | cons q r ihr =>
   intro h s ts hs
   cases ts with
   | nil=>exact hs
   | cons t ts =>
    simp only [matL]
    split
    ·exact ihr (fun q hq=>h q (List.mem_cons_of_mem _ hq)) _ ts (h q (by simp) s t hs)
    ·trivial
 split
 ·split
  ·exact hs
  ·rename_i h; exact withS_sort hs (boundS_false.1 (by simpa using h))
 ·split
  ·trivial
  ·exact hL _ ih s t.args hs
end Tm
open Tm
def SubS (s u:Su):Prop:=∀ x,boundS s x=true→boundS u x=true∧image u x=image s x
theorem SubS.refl (s:Su):SubS s s:=fun x h=>⟨h,rfl⟩
theorem SubS.trans {s u w:Su} (h1:SubS s u) (h2:SubS u w):SubS s w:=fun x h=>⟨(h2 x (h1 x h).1).1,(h2 x (h1 x h).1).2.trans (h1 x h).2⟩
theorem bound_withS {s:Su} {v:ByteArray} {t:Tm} {x:ByteArray}:boundS (withS s v t) x=true↔x=v∨boundS s x=true:=by
 rw [boundS_iff,boundS_iff]
 constructor
 ·rintro ⟨y,hy,rfl⟩
  rcases withS_mem.1 hy with rfl | h
  ·exact .inl rfl
  ·exact .inr ⟨y,h,rfl⟩
 ·rintro (rfl | ⟨y,hy,rfl⟩)
  ·exact ⟨_,withS_mem.2 (.inl rfl),rfl⟩
  ·exact ⟨y,withS_mem.2 (.inr hy),rfl⟩
theorem withS_so {s:Su} {v:ByteArray} {t:Tm} (hs:SortS s) (hv:boundS s v=false):SortS (withS s v t):=withS_sort hs (boundS_false.1 hv)
theorem image_withS {s:Su} {v:ByteArray} {t:Tm} (hs:SortS s) (hv:boundS s v=false):image (withS s v t) v=t :=
 image_sort (withS_so hs hv) (withS_mem.2 (.inl rfl))
theorem sub_withS {s:Su} {v:ByteArray} {t:Tm} (hs:SortS s) (hv:boundS s v=false):SubS s (withS s v t):=fun x hx=>by
 refine ⟨bound_withS.2 (.inr hx),?_⟩
 obtain ⟨y,hy,rfl⟩:=boundS_iff.1 hx
 rw [image_sort (withS_so hs hv) (withS_mem.2 (.inr hy)),image_sort hs hy]
theorem app_SubS {s u:Su} (h:SubS s u) (q:Tm) (hq:∀ x∈vs q,boundS s x=true):app u q=app s q:=by
 rw [app_sub,app_sub]; exact sub_congr q fun x hx=>(h x (hq x hx)).2
theorem mat_app:∀ (p:Tm) (s:Su) (t:Tm),SortS s→(mat p s t).2=true→SubS s (mat p s t).1∧(∀ x∈vs p,boundS (mat p s t).1 x=true)∧app (mat p s t).1 p=t:=ind fun p ih s t hs h=>by
 have hL:∀ (ps:List Tm),(∀ q∈ps,∀ (s:Su) (t:Tm),SortS s→(mat q s t).2=true→SubS s (mat q s t).1∧(∀ x∈vs q,boundS (mat q s t).1 x=true)∧app (mat q s t).1 q=t)→∀ (s:Su) (ts:List Tm),SortS s→ts.length=ps.length→(matL ps s ts).2=true→SubS s (matL ps s ts).1∧(∀ q∈ps,∀ x∈vs q,boundS (matL ps s ts).1 x=true)∧ps.map (app (matL ps s ts).1)=ts:=fun ps=>by
  induction ps with
  | nil =>
   intro _ s ts hs hl _
   exact ⟨SubS.refl _,fun q hq=>(by cases hq),(List.eq_nil_of_length_eq_zero hl).symm⟩
  | cons q r ihr =>
   intro hq s ts hs hl h
   cases ts with
   | nil=>simp at hl
   | cons t ts =>
    simp only [matL] at h ⊢
    split at h
    ·rename_i h1
     rw [if_pos h1]
     obtain ⟨a1,a2,a3⟩:=hq q (by simp) s t hs h1
     obtain ⟨b1,b2,b3⟩:=ihr (fun q' h'=>hq q' (List.mem_cons_of_mem _ h')) _ ts (mat_sort q s t hs) (by simpa using hl) h
     refine ⟨a1.trans b1,fun q' h' x hx=>?_,?_⟩
     ·rcases List.mem_cons.1 h' with rfl | h'
      ·exact (b1 x (a2 x hx)).1
      ·exact b2 q' h' x hx
     ·rw [List.map_cons,b3,app_SubS b1 q a2,a3]
    ·cases h
 rw [mat_eq] at h ⊢
 by_cases hv:p.var=true
 ·rw [if_pos hv] at h ⊢
  by_cases hb:boundS s p.name=true
  ·rw [if_pos hb] at h ⊢
   refine ⟨SubS.refl _,fun x hx=>?_,?_⟩
   ·rw [(vs_var hv).1 hx]; exact hb
   ·rw [app_eq,if_pos hv]; exact eqB_iff.1 h
  ·have hb:boundS s p.name=false:=by simpa using hb
   rw [if_neg (by rw [hb]; simp)] at h ⊢
   refine ⟨sub_withS hs hb,fun x hx=>?_,?_⟩
   ·rw [(vs_var hv).1 hx]; exact bound_withS.2 (.inl rfl)
   ·rw [app_eq,if_pos hv]; exact image_withS hs hb
 ·have hv:p.var=false:=by simpa using hv
  rw [if_neg (by rw [hv]; simp)] at h ⊢
  split at h
  ·cases h
  ·rename_i hc
   rw [if_neg hc]
   simp only [Bool.or_eq_true,Bool.not_eq_true',decide_eq_false_iff_not,not_or,Classical.not_not,Bool.not_eq_true] at hc
   obtain ⟨⟨c1,c2⟩,c3⟩:=hc
   obtain ⟨a1,a2,a3⟩:=hL p.args ih s t.args hs c3 h
   refine ⟨a1,fun x hx=>?_,?_⟩
   ·obtain ⟨q,hq,hx⟩:=(vs_fn hv).1 hx
    exact a2 q hq x hx
   ·rw [app_eq,if_neg (by rw [hv]; simp),a3,← c2]
    exact Tm.ext rfl c1.symm rfl
end Go.Proofs.YthhnadeoioeniaaGreat
namespace Go.Proofs.YthhnadeoioeniaaGreat
open Go Go.Abs
theorem Gt.getD_get {l:List Tm} {i:Nat} (h:i<l.length):l.getD i Tm.dflt=l[i]:=by rw [List.getD_eq_getElem?_getD,List.getElem?_eq_getElem h]; rfl
theorem Gt.at_cons {c:Tm} {i:Int} {p:List Int} {x:Tm} (h:Tm.at_ c (i::p)=some x):∃ h:i.toNat<c.args.length,Tm.at_ c.args[i.toNat] p=some x:=by
 simp only [Tm.at_] at h
 by_cases h1:i<0
 ·rw [if_pos h1] at h; cases h
 ·rw [if_neg h1] at h
  by_cases h2:i≥(c.args.length:Int)
  ·rw [if_pos h2] at h; cases h
  ·rw [if_neg h2] at h
   have h3:i.toNat<c.args.length:=by omega
   rw [Gt.getD_get h3] at h
   exact ⟨h3,h⟩
theorem set_self (l:List Tm) (i:Nat) (h:i<l.length):l.set i l[i]=l:=by
 apply List.ext_getElem? ; intro k
 rw [List.getElem?_set]
 split
 ·rename_i e; subst e; simp [h]
 ·rfl
theorem put_at:∀ (p:List Int) (t s:Tm),t.formed=true→Tm.at_ t p=some s→Tm.put t p s=t
 | [],t,s,_,h=>by simp only [Tm.at_] at h; cases h; rfl
 | i::p,t,s,hf,h=>by
  obtain ⟨hi,hx⟩:=Gt.at_cons h
  rw [Tm.formed_eq] at hf
  have hv:t.var=false:=by
   cases hv:t.var with
   | false=>rfl
   | true =>
    rw [hv] at hf
    have h0:t.args=[]:=by
     have:=(Bool.and_eq_true _ _).mp hf
     simpa using this.2
    rw [h0] at hi; simp at hi
  rw [hv] at hf
  have hfa:t.args.all Tm.formed=true:=((Bool.and_eq_true _ _).mp hf).2
  have ih:=put_at p _ s (List.all_eq_true.1 hfa _ (List.getElem_mem hi)) hx
  simp only [Tm.put,Gt.getD_get hi]
  rw [ih,set_self _ _ hi]
  exact Tm.ext rfl (by show false=t.var; rw [hv]) rfl
theorem args_formed {t:Tm} (hf:t.formed=true):∀ a∈t.args,a.formed=true:=fun a ha=>by
 rw [Tm.formed_eq] at hf
 cases hv:t.var with
 | true =>
  rw [hv] at hf
  have h0:t.args=[]:=by
   have:=(Bool.and_eq_true _ _).mp hf
   simpa using this.2
  rw [h0] at ha; cases ha
 | false =>
  rw [hv] at hf
  exact List.all_eq_true.1 ((Bool.and_eq_true _ _).mp hf).2 a ha
theorem at_formed:∀ (p:List Int) (t s:Tm),t.formed=true→Tm.at_ t p=some s→s.formed=true
 | [],t,s,hf,h=>by simp only [Tm.at_] at h; cases h; exact hf
 | i::p,t,s,hf,h=>by
  obtain ⟨hi,hx⟩:=Gt.at_cons h
  exact at_formed p _ s (args_formed hf _ (List.getElem_mem hi)) hx
theorem put_formed:∀ (p:List Int) (t s x:Tm),t.formed=true→Tm.at_ t p=some s→x.formed=true→(Tm.put t p x).formed=true
 | [],t,s,x,_,_,hx=>hx
 | i::p,t,s,x,hf,h,hx=>by
  obtain ⟨hi,hat⟩:=Gt.at_cons h
  have ih:=put_formed p _ s x (args_formed hf _ (List.getElem_mem hi)) hat hx
  have hf0:=hf
  rw [Tm.formed_eq] at hf
  have hv:t.var=false:=by
   cases hv:t.var with
   | false=>rfl
   | true =>
    rw [hv] at hf
    have h0:t.args=[]:=by
     have:=(Bool.and_eq_true _ _).mp hf
     simpa using this.2
    rw [h0] at hi; simp at hi
  rw [hv] at hf
  obtain ⟨h1,h2⟩:=(Bool.and_eq_true _ _).mp hf
  simp only [Tm.put,Gt.getD_get hi]
  rw [Tm.formed_eq]
  show (nameOk t.name true&&decide ((t.args.set i.toNat (Tm.put t.args[i.toNat] p x)).length≤8)&&(t.args.set i.toNat (Tm.put t.args[i.toNat] p x)).all Tm.formed)=true
  rw [List.length_set,Bool.and_eq_true]
  refine ⟨h1,List.all_eq_true.2 fun a ha=>?_⟩
  rcases List.mem_or_eq_of_mem_set ha with ha | rfl
  ·exact args_formed hf0 a ha
  ·exact ih
namespace Tm
theorem mat_formed:∀ (p:Tm) (s:Su) (t:Tm),(∀ x∈s,x.2.formed=true)→t.formed=true→∀ x∈(mat p s t).1,x.2.formed=true:=by
 refine ind fun p ih s t hs ht=>?_
 have hL:∀ (ps:List Tm),(∀ p∈ps,∀ (s:Su) (t:Tm),(∀ x∈s,x.2.formed=true)→t.formed=true→∀ x∈(mat p s t).1,x.2.formed=true)→∀ (s:Su) (ts:List Tm),(∀ x∈s,x.2.formed=true)→(∀ t∈ts,t.formed=true)→∀ x∈(matL ps s ts).1,x.2.formed=true:=by
  intro ps
  induction ps with
  | nil=>intro _ s ts hs _; simpa [matL] using hs
  | cons p r ihr =>
   intro h s ts hs hts
   cases ts with
   | nil=>simpa [matL] using hs
   | cons t ts =>
    simp only [matL]
    split
    ·exact ihr (fun q hq=>h q (List.mem_cons_of_mem _ hq)) _ ts (h p (by simp) s t hs (hts t (by simp))) fun a ha=>hts a (List.mem_cons_of_mem _ ha)
    ·intro x hx; cases hx
 rw [mat_eq]
 split
 ·split
  ·exact hs
  ·intro x hx
   rcases withS_in hx with h | rfl
   ·exact hs x h
   ·exact ht
 ·split
  ·intro x hx; cases hx
  ·exact hL p.args ih s t.args hs (args_formed ht)
end Tm
end Go.Proofs.YthhnadeoioeniaaGreat
namespace Go.Proofs.YthhnadeoioeniaaGreat
open Go Go.Abs
theorem step_less {l:Pls} {ρ:ByteArray→Nat} {r:Ru} {t:Tm} {i:Int} {p:List Int} (hck:t.check=0) (hr:∀ x∈r,x.1.check=0∧x.2.check=0∧∀ su,valF l ρ (Tm.app su x.2)<valF l ρ (Tm.app su x.1)) (h:stepErr r t i p=0) :
  (stepT r t i p).check=0∧((∀ s∈t.pre,MonoS l s.name s.args.length)→valF l ρ (stepT r t i p)<valF l ρ t):=by
 have h0:subErr r t i p=0:=by
  unfold stepErr at h
  split at h
  ·contradiction
  ·rename_i h1; exact Decidable.byContradiction h1
 obtain ⟨h1,h2,s,hat,hm⟩:=subErr_zero h0
 have hk:i.toNat<r.length:=by omega
 have hrl:rlOf r i=r[i.toNat]:=by unfold rlOf; rw [List.getD_eq_getElem?_getD,List.getElem?_eq_getElem hk]; rfl
 have hsb:sbOf t p=s:=by unfold sbOf; rw [hat]; rfl
 have hsu:suOf r t i p=(Tm.mat (rlOf r i).1 [] s).1:=by unfold suOf; rw [if_pos h0,hsb]
 obtain ⟨c1,c2,hg⟩:=hr _ (List.getElem_mem hk)
 rw [← hrl] at c1 c2 hg
 have ht:=Tm.check_zero.1 hck
 have happ:Tm.app (suOf r t i p) (rlOf r i).1=s:=by rw [hsu]; exact (mat_app _ [] s (by simp [SortS]) hm).2.2
 have hT:stepT r t i p=stepU r t i p:=by unfold stepT; rw [if_pos h]
 have hU:stepU r t i p=Tm.put t p (Tm.app (suOf r t i p) (rlOf r i).2):=rfl
 have hfs:=at_formed p t s ht.1 hat
 have hfu:∀ x∈suOf r t i p,x.2.formed=true:=by rw [hsu]; exact Tm.mat_formed _ [] s (fun x hx=>by cases hx) hfs
 have hz:=stepT_size h
 refine ⟨Tm.check_zero.2 ⟨?_,hz.1,hz.2⟩,fun hmo=>?_⟩
 ·rw [hT,hU]
  exact put_formed p t s _ ht.1 hat (Tm.app_formed hfu _ (Tm.check_zero.1 c2).1)
 ·have hd:=hg (suOf r t i p)
  rw [happ] at hd
  have:=valF_put l ρ s _ hd p t (by rw [hat]; simp) hmo
  rw [put_at p t s ht.1 hat] at this
  rw [hT,hU]; exact this
theorem after_less {l:Pls} {ρ:ByteArray→Nat} {r:Ru} (hr:∀ x∈r,x.1.check=0∧x.2.check=0∧∀ su,valF l ρ (Tm.app su x.2)<valF l ρ (Tm.app su x.1)):∀ (st:List Stp) (t:Tm),t.check=0→chErr r t st=0→∀ k,k≤st.length →
  (after_ r t (st.take k)).check=0∧(k<st.length→(∀ s∈(after_ r t (st.take k)).pre,MonoS l s.name s.args.length)→valF l ρ (after_ r t (st.take (k+1)))<valF l ρ (after_ r t (st.take k)))
 | [],t,ht,_,k,hk=>by
  have:k=0:=by simpa using hk
  subst this
  exact ⟨ht,fun h=>by simp at h⟩
 | s::st,t,ht,h,k,hk=>by
  unfold chErr at h
  split at h
  ·contradiction
  ·rename_i h1
   have h1':stepErr r t s.1 s.2=0:=Decidable.byContradiction h1
   obtain ⟨g1,g2⟩:=step_less ht hr h1'
   cases k with
   | zero=>exact ⟨ht,fun _ hm=>g2 hm⟩
   | succ k =>
    have:=after_less hr st _ g1 h k (by simpa using hk)
    exact ⟨this.1,fun hlt=>this.2 (by simpa using hlt)⟩
mutual
def symT:Tm→Ys | .mk x v xs=>symL xs++if v then [] else [(x,(xs.length:Int))]
def symL:List Tm→Ys | []=>[] | t::r=>symT t++symL r
end
theorem symT_eq (t:Tm):symT t=symL t.args++if t.var then [] else [(t.name,(t.args.length:Int))]:=by cases t; rfl
theorem symL_append (a b:List Tm):symL (a++b)=symL a++symL b:=by
 induction a with
 | nil=>rfl
 | cons x a ih=>rw [List.cons_append,symL,symL,ih,List.append_assoc]
theorem mem_symL {t:Tm} {x:ByteArray×Int}:∀ {l:List Tm},t∈l→x∈symT t→x∈symL l
 | y::l,h,hx=>by
  rw [symL]
  rcases List.mem_cons.1 h with rfl | h
  ·exact List.mem_append_left _ hx
  ·exact List.mem_append_right _ (mem_symL h hx)
theorem sym_len:∀ t:Tm,(symT t).length≤t.size:=Tm.ind fun t ih=>by
 have kl:∀ xs:List Tm,(∀ a∈xs,(symT a).length≤a.size)→(symL xs).length≤Tm.sizeL xs:=by
  intro xs
  induction xs with
  | nil=>intro _; exact Nat.le_refl _
  | cons a r ih =>
   intro h
   rw [symL,List.length_append]
   have h1:=h a (by simp)
   have h2:=ih fun b hb=>h b (by simp [hb])
   simp only [Tm.sizeL]; omega
 rw [symT_eq,List.length_append,Tm.size_eq]
 have:=kl t.args ih
 split <;> simp <;> omega
theorem symL_len:∀ xs:List Tm,(symL xs).length≤Tm.sizeL xs
 | []=>Nat.le_refl _
 | a::r=>by
  rw [symL,List.length_append]
  have h1:=sym_len a
  have h2:=symL_len r
  simp only [Tm.sizeL]; omega
theorem sym_pre:∀ (t s:Tm),s∈t.pre→s.var=false→(s.name,(s.args.length:Int))∈symT t:=Tm.ind fun t ih s hs hv=>by
 rw [symT_eq]
 rw [Tm.pre_eq] at hs
 rcases List.mem_cons.1 hs with rfl | hs
 ·rw [hv]; simp
 ·rw [Tm.preL_eq] at hs
  obtain ⟨a,ha,hs⟩:=List.mem_flatMap.1 hs
  exact List.mem_append_left _ (mem_symL ha (ih a ha s hs hv))
theorem encYs_append (a b:Ys):encYs (a++b)=encYs a++encYs b:=by unfold encYs; rw [List.map_append]
theorem r07_list (xs:List Tm) (hs:Tm.sizeL xs≤274877906944) (h:∀ t∈xs,frA Zdk [tsD t.args] (encYs (symL t.args))):frA Zdk [tsD xs] (encYs (symL xs)):=by
 refine F_r07_Of_fr _ _ fun hb=>?_
 rw [Tm.encL_length] at hb ⊢
 refine Zjw _ _ _ hb (fun k n y=>y=encYs (symL (xs.take k))∧n=y.length) (fun k n y hk hJ K hK=>?_) (fun n y hJ=>?_) 0 _ _ (Nat.zero_le _) ⟨rfl,rfl⟩
 ·obtain ⟨rfl,rfl⟩:=hJ
  simp only [Tm.encL_getD _ k hk,Tm.enc_eq,List.drop_zero,List.headD_cons,List.tail_cons,Tm.encL_length]
  have hin:=List.getElem_mem hk
  have hsz:Tm.sizeL (xs.take (k+1))≤Tm.sizeL xs:=by
   have e:∀ (a b:List Tm),Tm.sizeL (a++b)=Tm.sizeL a+Tm.sizeL b:=fun a b=>by
    induction a with
    | nil=>simp [Tm.sizeL]
    | cons x a ih=>rw [List.cons_append,Tm.sizeL,Tm.sizeL,ih]; omega
   have:=e (xs.take (k+1)) (xs.drop (k+1))
   rw [List.take_append_drop] at this
   omega
  have hl:=symL_len (xs.take (k+1))
  have ht:xs.take (k+1)=xs.take k++[xs[k]]:=List.take_succ_eq_append_getElem hk
  have hsy:symL (xs.take (k+1))=symL (xs.take k)++symT xs[k]:=by
   rw [ht,symL_append]
   show _++(symT xs[k]++symL [])=_
   rw [symL,List.append_nil]
  have hst:=symT_eq xs[k]
  have hl2:(symL (xs.take k)).length+(symT xs[k]).length≤274877906944:=by rw [hsy,List.length_append] at hl; omega
  have hl3:(symL (xs[k]).args).length≤(symT xs[k]).length:=by rw [hst,List.length_append]; omega
  refine ⟨by omega,by omega,encYs (symL (xs[k]).args),h _ hin,trivial,trivial,?_,iff_not (iff_intro (fun hv=>?_) (fun hv=>fun hb2=>?_))⟩
  ·rw [encYs_length,encYs_length]; unfold lim; omega
  ·have hv:(xs[k]).var=true:=hv
   rw [hv,if_pos rfl,List.append_nil] at hst
   refine hK _ _ ⟨?_,?_⟩
   ·rw [hsy,hst,encYs_append]
   ·rw [List.length_append]
  ·have hv:(xs[k]).var=false:=hv
   have e3:(V.l (Tm.encL (xs[k]).args)).list.length=(xs[k]).args.length:=Tm.encL_length _
   rw [hv,if_neg (by simp)] at hst
   have hl4:(symT xs[k]).length=(symL (xs[k]).args).length+1:=by rw [hst,List.length_append]; rfl
   refine ⟨?_,?_,hK _ _ ⟨?_,?_⟩⟩
   ·rw [List.length_append]
   ·show (encYs (symL (xs.take k))).length+(encYs (symL (xs[k]).args)).length+1≤lim
    rw [encYs_length,encYs_length]; unfold lim; omega
   ·rw [hsy,hst,encYs_append,encYs_append,List.append_assoc,e3]; rfl
   ·rw [List.length_append,List.length_append]
 ·obtain ⟨rfl,rfl⟩:=hJ
  rw [List.take_length]
  exact ⟨rfl,rfl⟩
theorem r07_args:∀ t:Tm,t.size≤274877906944→frA Zdk [tsD t.args] (encYs (symL t.args)):=Tm.ind fun t ih hs=>by
 rw [Tm.size_eq] at hs
 exact r07_list t.args (by omega) fun a ha=>ih a ha (by have:=Tm.size_mem ha; rw [Tm.size_eq t] at this; omega)
theorem r07_Of_fr (xs:List Tm) (hs:Tm.sizeL xs≤274877906944):frA Zdk [tsD xs] (encYs (symL xs)) :=
 r07_list xs hs fun t ht=>r07_args t (by
  have:∀ l:List Tm,t∈l→t.size≤Tm.sizeL l:=fun l=>by
   induction l with
   | nil=>intro h; simp at h
   | cons a r ih =>
    intro h
    simp only [Tm.sizeL]
    rcases List.mem_cons.1 h with rfl | h
    ·omega
    ·have:=ih h; omega
  have:=this xs ht
  omega)
theorem mono_sym {l:Pls} (hp:plsE l=0) {s:Ys} (h1:(monoE l s).1=true) (h2:(monoE l s).2=0) {x:ByteArray} {n:Nat} (hx:(x,(n:Int))∈s):MonoS l x n:=by
 unfold monoE at h1 h2
 by_cases hy:ysE s≠0
 ·rw [if_pos hy] at h1; cases h1
 ·rw [if_neg hy] at h1 h2
  cases hf:s.all (yFits l) with
  | false=>rw [hf,if_neg (by simp)] at h1; cases h1
  | true =>
   rw [hf,if_pos rfl] at h1
   have m1:=List.all_eq_true.1 h1 _ hx
   have f1:=List.all_eq_true.1 hf _ hx
   unfold yMono at m1
   unfold yFits at f1
   simp only [Int.toNat_natCast] at m1 f1
   have hg:=entPl_good (plsE_zero hp).mono f1
   intro i hi
   have m2:=List.all_eq_true.1 m1 i (List.mem_range.2 hi)
   unfold aloneP at m2
   obtain ⟨m,hm,hm2⟩:=List.any_eq_true.1 m2
   exact ⟨m,hm,by rw [← aloneI_E _ _ (by rw [(hg m hm).1]; exact hi)]; exact hm2,(hg m hm).2.1⟩
theorem fstE_zero:∀ {l:List (Int×Int)},fstE l=0→∀ x∈l,x.2=0
 | [],_,x,hx=>by simp at hx
 | y::l,h,x,hx=>by
  have h:(if y.2≠0 then y.2 else fstE l)=0:=h
  by_cases hy:y.2≠0
  ·rw [if_pos hy] at h; exact absurd h hy
  ·rw [if_neg hy] at h
   rcases List.mem_cons.1 hx with rfl | hx
   ·omega
   ·exact fstE_zero h x hx
end Go.Proofs.YthhnadeoioeniaaGreat
namespace Go.Proofs.YthhnadeoioeniaaGreat
open Go Go.Abs
def allS (ts:List Tm):Ru→Ys
 | []=>symL ts
 | r=>symL ts++r.flatMap fun x=>symL [x.1,x.2]
theorem pre_formed:∀ t:Tm,t.formed=true→∀ s∈t.pre,s.formed=true:=Tm.ind fun t ih hf s hs=>by
 rw [Tm.pre_eq] at hs
 rcases List.mem_cons.1 hs with rfl | hs
 ·exact hf
 ·rw [Tm.preL_eq] at hs
  obtain ⟨a,ha,hs⟩:=List.mem_flatMap.1 hs
  exact ih a ha (args_formed hf a ha) s hs
theorem sizeL_append (a b:List Tm):Tm.sizeL (a++b)=Tm.sizeL a+Tm.sizeL b:=by
 induction a with
 | nil=>simp [Tm.sizeL]
 | cons x a ih=>rw [List.cons_append,Tm.sizeL,Tm.sizeL,ih]; omega
theorem sizeL_le {M:Nat}:∀ {l:List Tm},(∀ t∈l,t.size≤M)→Tm.sizeL l≤l.length*M
 | [],_=>Nat.zero_le _
 | t::l,h=>by
  have h1:=h t (by simp)
  have h2:=sizeL_le fun x hx=>h x (List.mem_cons_of_mem t hx)
  simp only [Tm.sizeL,List.length_cons,Nat.add_mul]; omega
theorem l08_PolyLengths_ok (l:Pls) (r:Ru) (t:Tm) (st:List Stp) (hB:∀ x∈r,x.1.size≤1048576∧x.2.size≤1048576) (ht:t.size≤1048576) :
  Fn Zfy [plsD l,ruD r,.agg [.v .str (.s t.name),.v .bool (.b t.var),.v (.sl Za) (.l (Tm.encL t.args)),.v (.sl Zfc) (.l (encSt st))]] (bD true):=fun Q hQ=>by
 refine Zjd _ _ _ _ _ _ _ ?_
 unfold Zff
 have alive:cl ZaJ [] [] fun r3 H4=>r3=(.v .bool (r3.V))∧H4=[]∧True∧Q (.v .bool (r3.V)) []:=l08_alive_ok _ ⟨rfl,rfl,trivial,hQ⟩
 refine poly_Orients_ok l r (fun x hx=>by have:=hB x hx; unfold small; omega) _ ⟨rfl,rfl,r05_Terms_ok r t st (fun x hx=>by have:=hB x hx; omega) (by unfold small; omega) _ ⟨rfl,rfl,iff_bne (fun _=>alive) (fun h=>iff_bne (fun _=>alive) (fun h2=>?_))⟩⟩
 have h:orQE l r=0:=h
 have h2:tmE r t st=0:=h2
 show ZcQ Q (encPls l) (encRs r) (V.l (encP (orQL l r))) (V.l (Tm.encL (tmR r t st))) t.name t.var (Tm.encL t.args) (encSt st)
 have eO:orQL l r=(crs l r).map (·.1):=by unfold orQL; rw [if_pos h]
 have eT:tmR r t st=trail r t st:=by unfold tmR; rw [if_pos h2]
 have hp:plsE l=0:=by
  unfold orQE at h
  by_cases hp:plsE l≠0
  ·rw [if_pos hp] at h; exact absurd h hp
  ·omega
 have h3:orE2 l r=0:=by unfold orQE at h; rw [if_neg (by simp [hp])] at h; exact h
 have hsy:sysE r=0:=by
  unfold orE2 at h3
  by_cases hs:sysE r≠0
  ·rw [if_pos hs] at h3; exact absurd h3 hs
  ·omega
 have hfe:fstE (crs l r)=0:=by unfold orE2 at h3; rw [if_neg (by simp [hsy])] at h3; exact h3
 obtain ⟨k1,k2,k3⟩:=sysE_zero hsy
 have hcl:=crs_length l r
 rw [eO,eT,Zgd]
 unfold Zex
 have eL:(V.l (encP ((crs l r).map (·.1)))).list.length=r.length:=by
  show (encP ((crs l r).map (·.1))).length=_
  rw [encP_length,List.length_map,hcl]
 rw [eL]
 intro hb
 have hcE:t.check=0∧chErr r t st=0∧st.length≤4096:=by
  unfold tmE at h2
  split at h2
  ·cases h2
  ·split at h2
   ·contradiction
   ·rename_i g1 g2; exact ⟨Decidable.byContradiction g2,h2,by omega⟩
 refine ZfH Q _ _ _ _ _ _ _ _ _ hb (fun k=>∀ j (hj:j<r.length),j<k→(cmpT l (r[j]).1 (r[j]).2).1=2) (fun k hk hJ K hK=>?_) (fun hJ=>?_) 0 (Nat.zero_le _) (fun j _ h=>by omega)
 ·have hg:(V.l (encP ((crs l r).map (·.1)))).list.getD k []=[V.i (cmpT l (r[k]).1 (r[k]).2).1]:=by
   show (encP ((crs l r).map (·.1))).getD k []=_
   rw [encP_getD _ k (by rw [List.length_map,hcl]; exact hk),List.getElem_map,crs_get l r k hk]
  simp only [hg,List.drop_zero,List.headD_cons]
  refine ⟨by omega,by rw [eL]; omega,iff_bne (fun _=>alive) (fun hv=>hK fun j hj hjk=>?_)⟩
  rcases Nat.lt_succ_iff_lt_or_eq.1 hjk with h | h
  ·exact hJ j hj h
  ·subst h; exact hv
 have hr:∀ x∈r,x.1.check=0∧x.2.check=0∧∀ su,valF l (fun _=>0) (Tm.app su x.2)<valF l (fun _=>0) (Tm.app su x.1):=fun x hx=>by
  obtain ⟨c1,c2⟩:=k2 x hx
  refine ⟨c1,c2,fun su=>?_⟩
  obtain ⟨j,hj,rfl⟩:=List.mem_iff_getElem.1 hx
  have e2:(cmpT l (r[j]).1 (r[j]).2).2=0:=fstE_zero hfe _ (List.mem_map_of_mem (List.getElem_mem hj))
  exact (cmpT_inst hp e2 su (fun _=>0)).1 (hJ j hj hj)
 have hao:=after_less hr st t hcE.1 hcE.2.1
 have htl:(trail r t st).length=st.length+1:=by simp [trail]
 have htm:∀ u∈trail r t st,u.size≤4000:=fun u hu=>by
  obtain ⟨k,hk,rfl⟩:=List.mem_map.1 hu
  have:=(hao k (by have:=List.mem_range.1 hk; omega)).1
  exact (Tm.check_zero.1 this).2.1
 have hts:Tm.sizeL (trail r t st)≤16388000:=by
  have:=sizeL_le htm
  have h9:(trail r t st).length*4000≤4097*4000:=Nat.mul_le_mul_right _ (by omega)
  omega
 refine ⟨encYs (symL (trail r t st)),r07_Of_fr _ (by omega),fun hb2=>?_⟩
 have hrl:=encRs_length r
 rw [hrl]
 have hrs:∀ x∈r,Tm.sizeL [x.1,x.2]≤8000:=fun x hx=>by
  obtain ⟨c1,c2⟩:=k2 x hx
  have s1:=(Tm.check_zero.1 c1).2.1
  have s2:=(Tm.check_zero.1 c2).2.1
  simp only [Tm.sizeL]; omega
 refine ZfK Q _ _ _ _ _ _ _ _ hb (fun k n y=>∃ S:Ys,y=encYs S∧n=y.length∧S.length≤16388000+k*8000∧∀ x∈symL (trail r t st),x∈S) (fun k n y hk hJ1 K hK=>?_) (fun n y hJ1=>?_) 0 _ _ (Nat.zero_le _) ⟨_,rfl,rfl,by have:=symL_len (trail r t st); omega,fun x hx=>hx⟩
 ·obtain ⟨S,rfl,rfl,hS1,hS2⟩:=hJ1
  simp only [encRs_getD _ _ hk,List.drop_zero,List.headD_cons,List.tail_cons]
  rw [show [[V.s (r[k]).1.name,V.b (r[k]).1.var,V.l (Tm.encL (r[k]).1.args)],[V.s (r[k]).2.name,V.b (r[k]).2.var,V.l (Tm.encL (r[k]).2.args)]]=Tm.encL [(r[k]).1,(r[k]).2] by simp [Tm.encL,Tm.enc_eq]]
  have hsz:=hrs _ (List.getElem_mem hk)
  have hlen:=symL_len [(r[k]).1,(r[k]).2]
  have hk64:k≤64:=by omega
  refine ⟨by omega,by rw [hrl]; omega,encYs (symL [(r[k]).1,(r[k]).2]),r07_Of_fr _ (by omega),trivial,trivial,?_,hK _ _ ⟨S++symL [(r[k]).1,(r[k]).2],?_,?_,?_,fun x hx=>List.mem_append_left _ (hS2 x hx)⟩⟩
  ·rw [encYs_length,encYs_length]; unfold lim; omega
  ·rw [encYs_append]
  ·rw [List.length_append]
  ·rw [List.length_append]; omega
 obtain ⟨S,rfl,rfl,hS1,hS2⟩:=hJ1
 refine ⟨rfl,poly_Monotone_ok l S _ ⟨rfl,rfl,iff_bne (fun _=>alive) (fun m2=>iff_not (iff_intro (fun m1=>?_) (fun _=>alive)))⟩⟩
 have em:monoQ l S=monoE l S:=by unfold monoQ; rw [if_neg (by simp [hp])]
 have m1:(monoQ l S).1=true:=m1
 have m2:(monoQ l S).2=0:=m2
 rw [em] at m1 m2
 have hmono:∀ u∈trail r t st,∀ s∈u.pre,MonoS l s.name s.args.length:=fun u hu s hs=>by
  obtain ⟨k,hk,rfl⟩:=List.mem_map.1 hu
  have hck:=(hao k (by have:=List.mem_range.1 hk; omega)).1
  cases hv:s.var with
  | false=>exact mono_sym hp m1 m2 (hS2 _ (mem_symL hu (sym_pre _ s hs hv)))
  | true =>
   have hfm:=pre_formed _ (Tm.check_zero.1 hck).1 s hs
   have:s.args.length=0:=by
    rw [Tm.formed_eq,hv,if_pos rfl,Bool.and_eq_true,List.isEmpty_iff] at hfm
    rw [hfm.2]; rfl
   rw [this]
   intro i hi
   omega
 have hmem:∀ k,k≤st.length→after_ r t (st.take k)∈trail r t st:=fun k hk=>List.mem_map.2 ⟨k,List.mem_range.2 (by omega),rfl⟩
 have hdown:∀ k,k<st.length→valF l (fun _=>0) (after_ r t (st.take (k+1)))<valF l (fun _=>0) (after_ r t (st.take k)):=fun k hk=>(hao k (by omega)).2 hk (hmono _ (hmem k (by omega)))
 have hlong:st.length≤valF l (fun _=>0) t:=descent (fun k=>valF l (fun _=>0) (after_ r t (st.take k))) st.length hdown
 have hg:∀ j,j≤st.length→(Tm.encL (trail r t st)).getD j []=(after_ r t (st.take j)).enc:=fun j hj=>by
  rw [Tm.encL_getD _ j (by omega)]; simp [trail]
 have hsz:∀ k,k≤st.length→(after_ r t (st.take k)).size≤1048576:=fun k hk=>by have:=htm _ (hmem k hk); omega
 have loop:Zbl Q (encPls l) (V.l (Tm.encL (trail r t st))):=by
  rw [Zf9]
  unfold Zew
  refine Zga Q (fun a b i=>a=encPls l∧b=V.l (Tm.encL (trail r t st))∧∃ k:Nat,i=((k+1:Nat):Int)∧k≤st.length) (fun a b i=>st.length+2 - i.toNat) ?_ _ _ _ ⟨rfl,rfl,0,rfl,Nat.zero_le _⟩
  rintro a b i ⟨rfl,rfl,k,rfl,hk⟩ M ih
  unfold ZcV
  show (Tm.encL (trail r t st)).length≤big→_
  intro _
  show iff (decide (((k+1:Nat):Int)<((Tm.encL (trail r t st)).length:Int))) _ _
  rw [Tm.encL_length,htl]
  refine iff_dec (fun hlt=>?_) (fun _=>alive)
  have hks:k<st.length:=by omega
  have hw:IntKind.i64.wrap (((k+1:Nat):Int) - (1:Int))=(k:Int):=by rw [wrap_in _ (by omega) (by omega)]; omega
  rw [hw]
  refine ⟨by omega,by show (k:Int)<((Tm.encL (trail r t st)).length:Int); rw [Tm.encL_length]; omega,?_⟩
  simp only [V.list,Int.toNat_natCast,hg k (by omega),hg (k+1) (by omega),Tm.enc_eq,List.drop_zero,List.headD_cons,List.tail_cons]
  have next:Zaa Q M (encPls l) (V.l (Tm.encL (trail r t st))) (IntKind.i64.wrap (((k+1:Nat):Int)+(1:Int))):=by
   rw [wrap_in _ (by omega) (by omega)]
   exact ih _ _ _ ⟨rfl,rfl,k+1,by omega,by omega⟩ (by show st.length+2 - (((k+1:Nat):Int)+1).toNat<st.length+2 - ((k+1:Nat):Int).toNat; omega)
  refine poly_Value_ok l _ (hsz k (by omega)) _ ⟨rfl,rfl,by omega,by rw [Tm.encL_length]; omega,poly_Value_ok l _ (hsz (k+1) (by omega)) _ ⟨rfl,rfl,iff_beq (fun v1=>iff_beq (fun v2=>iff_dec (fun hle=>?_) (fun _=>next)) (fun _=>next)) (fun _=>next)⟩⟩
  have v1:=valE_F hp (t:=after_ r t (st.take k)) v1
  have v2:=valE_F hp (t:=after_ r t (st.take (k+1))) v2
  have hle:(((valE l (after_ r t (st.take k))).1:Nat):Int)≤((valE l (after_ r t (st.take (k+1)))).1:Nat):=hle
  have:=hdown k hks
  omega
 rw [Zgg]
 unfold Zey
 refine poly_Value_ok l t ht _ ⟨rfl,rfl,iff_beq (fun v=>fun _=>?_) (fun _=>loop)⟩
 have v:=valE_F hp (t:=t) v
 rw [encSt_length,wrap_u64 _ (by omega) (by omega)]
 refine iff_dec (fun hgt=>?_) (fun _=>loop)
 have hgt:((st.length:Nat):Int) > ((valE l t).1:Nat):=hgt
 omega
end Go.Proofs.YthhnadeoioeniaaGreat
