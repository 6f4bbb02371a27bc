/-
  Texts SortF, SrtA, SrtB, PlyH, PlyL, SymC, PlyM, R01S, PlyN of this proof, joined.
-/
import Derived.Shelf.SlSortCmp.WholeK
import Derived.Shelf.SlSortCmp.NoneTotal
import Derived.Ground.SlsfProg
import Derived.Test.YthhnadeoioeniaaGreatProg
import Derived.Test.YthhnadeoioeniaaGreatP12
namespace Go.Proofs.YthhnadeoioeniaaGreat
open Go.Shelf
def laysSF_ren:Go.Shelf.Ren:=⟨fun | 6=>38 | 15=>90 | 14=>89 | 28=>145 | 29=>146 | 20=>137 | 21=>138 | 22=>139 | 23=>140 | 24=>141 | 25=>142 | 26=>143 | 27=>144 | 46=>183 | 47=>184 | 48=>185 | 49=>186 | 50=>187 | 57=>200 | n=>n,fun | 22=>27 | 24=>82 | 25=>87 | 3=>3 | 39=>139 | 0=>0 | 53=>193 | 55=>31 | 4=>4 | 46=>187 | 45=>186 | 50=>155 | 5=>5 | 9=>9 | 66=>222 | 70=>226 | 76=>236 | 77=>83 | n=>n,fun | n=>n⟩
theorem laysSF:Go.Proofs.SlLaysF0.n6 Tryz.prog laysSF_ren:={
 mixed:=by kernel_rfl
 f6:=⟨Tryz.f38.name,by decide,Tryz.func38.trans (congrArg some (by kernel_rfl))⟩
 f14:=⟨Tryz.f89.name,by decide,Tryz.func89.trans (congrArg some (by kernel_rfl))⟩
 f15:=Tryz.func90.trans (congrArg some (by kernel_rfl))
 f20:=⟨Tryz.f137.name,by decide,Tryz.func137.trans (congrArg some (by kernel_rfl))⟩
 f21:=⟨Tryz.f138.name,by decide,Tryz.func138.trans (congrArg some (by kernel_rfl))⟩
 f22:=⟨Tryz.f139.name,by decide,Tryz.func139.trans (congrArg some (by kernel_rfl))⟩
 f23:=⟨Tryz.f140.name,by decide,Tryz.func140.trans (congrArg some (by kernel_rfl))⟩
 f24:=⟨Tryz.f141.name,by decide,Tryz.func141.trans (congrArg some (by kernel_rfl))⟩
 f25:=⟨Tryz.f142.name,by decide,Tryz.func142.trans (congrArg some (by kernel_rfl))⟩
 f26:=⟨Tryz.f143.name,by decide,Tryz.func143.trans (congrArg some (by kernel_rfl))⟩
 f27:=⟨Tryz.f144.name,by decide,Tryz.func144.trans (congrArg some (by kernel_rfl))⟩
 f28:=Tryz.func145.trans (congrArg some (by kernel_rfl))
 f29:=Tryz.func146.trans (congrArg some (by kernel_rfl))
 f46:=⟨Tryz.f183.name,by decide,Tryz.func183.trans (congrArg some (by kernel_rfl))⟩
 f47:=Tryz.func184.trans (congrArg some (by kernel_rfl))
 f48:=Tryz.func185.trans (congrArg some (by kernel_rfl))
 f49:=⟨Tryz.f186.name,by decide,Tryz.func186.trans (congrArg some (by kernel_rfl))⟩
 f50:=⟨Tryz.f187.name,by decide,Tryz.func187.trans (congrArg some (by kernel_rfl))⟩
 f57:=⟨Tryz.f200.name,by decide,Tryz.func200.trans (congrArg some (by kernel_rfl))⟩
 t0:=Tryz.underlying0
 a0:=Tryz.isAgg0
 z0:=Tryz.sizeOf0
 v0:=Tryz.zeroValue0
 t3:=Tryz.underlying3
 a3:=Tryz.isAgg3
 z3:=Tryz.sizeOf3
 v3:=Tryz.zeroValue3
 t4:=Tryz.underlying4
 a4:=Tryz.isAgg4
 z4:=Tryz.sizeOf4
 v4:=Tryz.zeroValue4
 t5:=Tryz.underlying5
 a5:=Tryz.isAgg5
 z5:=Tryz.sizeOf5
 v5:=Tryz.zeroValue5
 t9:=Tryz.underlying9
 a9:=Tryz.isAgg9
 z9:=Tryz.sizeOf9
 v9:=Tryz.zeroValue9
 t22:=Tryz.underlying27
 a22:=Tryz.isAgg27
 z22:=Tryz.sizeOf27
 v22:=Tryz.zeroValue27
 t25:=Tryz.underlying87
 a25:=Tryz.isAgg87
 z25:=Tryz.sizeOf87
 v25:=Tryz.zeroValue87
 t39:=Tryz.underlying139
 a39:=Tryz.isAgg139
 z39:=Tryz.sizeOf139
 v39:=Tryz.zeroValue139
 t45:=Tryz.underlying186
 a45:=Tryz.isAgg186
 z45:=Tryz.sizeOf186
 v45:=Tryz.zeroValue186
 t46:=Tryz.underlying187
 a46:=Tryz.isAgg187
 z46:=Tryz.sizeOf187
 v46:=Tryz.zeroValue187
 t50:=Tryz.underlying155
 a50:=Tryz.isAgg155
 z50:=Tryz.sizeOf155
 v50:=Tryz.zeroValue155
 t53:=Tryz.underlying193
 a53:=Tryz.isAgg193
 z53:=Tryz.sizeOf193
 v53:=Tryz.zeroValue193
 t55:=Tryz.underlying31
 a55:=Tryz.isAgg31
 z55:=Tryz.sizeOf31
 v55:=Tryz.zeroValue31
 t66:=Tryz.underlying222
 a66:=Tryz.isAgg222
 z66:=Tryz.sizeOf222
 v66:=Tryz.zeroValue222
 t70:=Tryz.underlying226
 a70:=Tryz.isAgg226
 z70:=Tryz.sizeOf226
 v70:=Tryz.zeroValue226
 t76:=Tryz.underlying236
 a76:=Tryz.isAgg236
 z76:=Tryz.sizeOf236
 v76:=Tryz.zeroValue236
 t77:=Tryz.underlying83
 a77:=Tryz.isAgg83
 z77:=Tryz.sizeOf83
 v77:=Tryz.zeroValue83 }
end Go.Proofs.YthhnadeoioeniaaGreat
set_option linter.unusedVariables false
set_option linter.unusedSimpArgs false
namespace Go.Proofs.YthhnadeoioeniaaGreat
open Go Go.Abs Go.Proofs Go.RowKit Go.Shelf Go.Sort
theorem isNaN_int_raw (x:Int) (W:World):Calls Tryz.prog 147 #[.int .i64 x] W fun e w'=>e=.returned (.bool false)∧w'=W:=by
 go_enter Tryz.func147,Tryz.ntmps147
 go_wp2
 go_ret
 exact ⟨by simp,rfl⟩
theorem cmp_int_raw (x y:Int) (W:World):Calls Tryz.prog 91 #[.int .i64 x,.int .i64 y] W fun e w'=>e=.returned (.int .i64 (if x<y then -1 else if y<x then 1 else 0))∧w'=W:=by
 have h:=isNaN_int_raw
 go_enter Tryz.func91,Tryz.ntmps91
 go_wp2_with (go_at_call 147; refine (h _ _).mono ?_; rintro e w' ⟨rfl,rfl⟩)
 all_goals go_ret
 all_goals exact ⟨rfl,rfl⟩
def IntSl (W:World) (v:Value) (l:List Int):Prop:=∃ A c,v=.slice A l.length c∧∀ j (h:j<l.length),∃ b off,A=some ⟨b,off,none⟩∧W.cell? ⟨b,off+j,none⟩=some (.int .i64 l[j])
theorem Compare_raw (l m:List Int) (hl:l.length≤1048576) (u v:Value) (W:World) (hu:IntSl W u l) (hv:IntSl W v m):Calls Tryz.prog 40 #[u,v] W fun e w'=>e=.returned (.int .i64 (cmpE l m))∧w'=W:=by
 have hc:=cmp_int_raw
 obtain ⟨A1,c1,rfl,h1⟩:=hu
 obtain ⟨A2,c2,rfl,h2⟩:=hv
 go_enter Tryz.func40,Tryz.ntmps40
 go_wp2
 go_loopw [11] (fun i w'=>∃ k:Nat,i=.int .i64 k∧k≤l.length∧k≤m.length∧w'=W∧cmpE l m=cmpE (l.drop k) (m.drop k)) (fun i w'=>l.length - (intOf i).toNat)
 case atStart=>exact ⟨0,rfl,Nat.zero_le _,Nat.zero_le _,rfl,rfl⟩
 case round =>
  obtain ⟨k,rfl,hk,hkm,rfl,he⟩:=hrel
  by_cases hlt:k<l.length
  ·obtain ⟨b,off,rfl,q1⟩:=h1 k hlt
   by_cases hlt2:k<m.length
   ·obtain ⟨b2,off2,rfl,q2⟩:=h2 k hlt2
    obtain ⟨r,hr⟩:∃ r:Int,r=if l[k]<m[k] then -1 else if m[k]<l[k] then 1 else 0:=⟨_,rfl⟩
    have hcr:=hc l[k] m[k]
    rw [← hr] at hcr
    have hs:cmpE l m=if r=0 then cmpE (l.drop (k+1)) (m.drop (k+1)) else r:=by
     rw [he,List.drop_eq_getElem_cons hlt,List.drop_eq_getElem_cons hlt2,cmpE,hr]
     by_cases g1:l[k]<m[k]
     ·rw [if_pos g1,if_pos g1,if_neg (by omega)]
     ·rw [if_neg g1,if_neg g1]
      by_cases g2:m[k]<l[k]
      ·rw [if_pos g2,if_pos g2,if_neg (by omega)]
      ·rw [if_neg g2,if_neg g2,if_pos rfl]
    obtain ⟨hwrap,hms⟩:=wrap_step k l.length hlt (by omega)
    clear hr hc h1 h2
    generalize l[k]=x at q1 hcr
    generalize m[k]=y at q2 hcr
    go_wp2_with (go_at_call 91; refine (hcr _).mono ?_; rintro e w' ⟨rfl,rfl⟩)
    ·go_ret
     rename_i hq
     refine ⟨?_,rfl⟩
     have hq:r≠0:=by simpa using hq
     rw [hs,if_neg hq]; rfl
    ·rename_i hq
     have hq:r=0:=by simpa using hq
     refine ⟨⟨k+1,rfl,hlt,hlt2,trivial,?_⟩,?_⟩
     ·rw [hs,if_pos hq]
     ·show l.length - ((k:Int)+1).toNat<l.length - ((k:Nat):Int).toNat
      omega
   ·have hkm':m.length≤k:=by omega
    clear hlt2
    have hres:cmpE l m=1:=by
     rw [he,List.drop_eq_getElem_cons hlt,List.drop_of_length_le hkm']; rfl
    go_wp2
    go_ret
    refine ⟨?_,rfl⟩
    rw [hres]; rfl
  ·have hkl:l.length≤k:=by omega
   have hres:cmpE l m=if l.length<m.length then -1 else 0:=by
    rw [he,List.drop_of_length_le hkl]
    by_cases h:l.length<m.length
    ·rw [if_pos h,List.drop_eq_getElem_cons (show k<m.length by omega)]; rfl
    ·rw [if_neg h,List.drop_of_length_le (show m.length≤k by omega)]; rfl
   go_wp2
   ·go_ret
    rename_i hq
    refine ⟨?_,rfl⟩
    rw [hres,if_pos (by omega)]; rfl
   ·go_ret
    rename_i hq
    refine ⟨?_,rfl⟩
    rw [hres,if_neg (by omega)]; rfl
theorem Of1_raw (l m:List Int) (hl:l.length≤1048576) (c d:Int) (u v:Value) (W:World) (hu:IntSl W u l) (hv:IntSl W v m) :
  Calls Tryz.prog 39 #[.agg #[.int .u64 c,u],.agg #[.int .u64 d,v]] W fun e w'=>e=.returned (.int .i64 (cmpE l m))∧∃ q os',w'=grow (W.drewN q) os':=by
 have keep:∀ {u:Value} {l:List Int} (o o':Obj),IntSl W u l→IntSl ((W.alloc o).alloc o') u l:=fun {u l} o o' h=>by
  obtain ⟨A,c,rfl,h⟩:=h
  refine ⟨A,c,rfl,fun j hj=>?_⟩
  obtain ⟨b,off,h1,h2⟩:=h j hj
  refine ⟨b,off,h1,?_⟩
  have hb:b<W.heap.size:=by
   cases hh:W.heap[b]? with
   | none=>simp [World.cell?,hh] at h2
   | some o=>exact (Array.getElem?_eq_some_iff.1 hh).1
  have e:((W.alloc o).alloc o').heap[b]?=W.heap[b]?:=by
   rw [alloc_old _ _ b (by simp; omega),alloc_old _ _ b hb]
  rw [← h2]
  exact World.cell?_of_block e
 have hcon:=fun o o'=>Compare_raw l m hl u v ((W.alloc o).alloc o') (keep o o' hu) (keep o o' hv)
 generalize cmpE l m=r at hcon ⊢
 obtain ⟨A1,c1,rfl,_⟩:=hu
 obtain ⟨A2,c2,rfl,_⟩:=hv
 clear keep
 go_enter Tryz.func39,Tryz.ntmps39
 go_wp2_with (go_at_call 40; refine (hcon _ _).mono ?_; rintro e w' ⟨rfl,rfl⟩)
 go_ret
 exact ⟨rfl,0,_,by rw [alloc_eq_grow,alloc_eq_grow,grow_grow]; rfl⟩
end Go.Proofs.YthhnadeoioeniaaGreat
namespace Go.Proofs.YthhnadeoioeniaaGreat
open Go Go.Abs Go.Proofs Go.RowKit Go.Shelf Go.Sort
theorem lf_int:lfs tab Zar=[.int .i64]:=by kernel_rfl
theorem lf_Mono:lfs tab Zs=[.int .u64,.sl Zar]:=by kernel_rfl
theorem intSl_of {w W:World} {F:Nat→Prop} {e:List Int} {v:Value} (h:RepK (lfs tab) w F (.sl Zar) (V.l (encP e)) v) (hW:∀ b,F b→W.heap[b]?=w.heap[b]?):IntSl W v e:=by
 have hl:(V.l (encP e)).list.length=e.length:=encP_length e
 generalize hx:V.l (encP e)=x at h hl
 cases h with
 | sl0 _ _ A c h0 =>
  have:e.length=0:=by rw [← hl,h0]; rfl
  exact ⟨A,c,by rw [this],fun j hj=>by omega⟩
 | sl _ _ b off c us hF hc hlen hcell hrep =>
  refine ⟨some ⟨b,off,none⟩,c,by rw [hl],fun j hj=>⟨b,off,rfl,?_⟩⟩
  rw [lf_int] at hcell hrep
  have h1:=hcell j 0 (by omega) (by simp)
  have h2:=hrep j 0 (by omega) (by simp)
  rw [← hx] at h2
  have e2:((V.l (encP e)).list.getD j []).getD 0 V.none=V.i e[j]:=by
   show ((encP e).getD j []).getD 0 V.none=_
   rw [encP_getD e j hj]; rfl
  rw [e2] at h2
  have h2:RepK (lfs tab) w F (.int .i64) (V.i e[j]) (us j 0):=h2
  rw [show off+j*([K.int .i64]:List K).length+0=off+j by simp] at h1
  have h3:W.cell? ⟨b,off+j,none⟩=w.cell? ⟨b,off+j,none⟩:=World.cell?_of_block (hW b hF)
  rw [h3,h1]
  generalize hy:V.i e[j]=y at h2
  generalize us j 0=u0 at h2
  cases h2 with
  | int=>rw [← hy]; rfl
def CellOk (S:Sig) (p:Mo×Value):Prop:=RepK (lfs tab) S.w S.F (.sl Zar) (V.l (encP p.1.exps)) p.2∧p.1.exps.length≤1048576
abbrev CellT (S:Sig):Type:={ p:Mo×Value // CellOk S p }
instance (S:Sig):Inhabited (CellT S):=⟨⟨(⟨0,[]⟩,.slice none 0 0),.sl0 _ _ _ _ rfl,by show (0:Nat)≤_; omega⟩⟩
def encC {S:Sig} (x:CellT S):List Value:=[.int .u64 (x.1.1.coef:Nat),x.1.2]
def cfC {S:Sig} (x y:CellT S):Int:=cmpE x.1.1.exps y.1.1.exps
theorem lt_C {S:Sig} (x y:CellT S):ltOf cfC x y=decide (cmpE x.1.1.exps y.1.1.exps = -1):=by
 unfold ltOf cfC
 rw [Bool.eq_iff_iff,decide_eq_true_iff,decide_eq_true_iff]
 rcases cmpE_cases x.1.1.exps y.1.1.exps with h | h | h <;> rw [h] <;> decide
theorem swo_C (S:Sig):SWO (ltOf (cfC (S:=S))) where
 irrefl x:=by rw [lt_C,cmpE_self]; rfl
 trans x y z h1 h2:=by
  rw [lt_C] at *
  exact decide_eq_true (cmpE_trans (of_decide_eq_true h1) (of_decide_eq_true h2))
 ntrans x y z h1 h2:=by
  rw [lt_C] at *
  have h1:=of_decide_eq_false h1
  have h2:=of_decide_eq_false h2
  refine decide_eq_false fun h3=>?_
  generalize x.1.1.exps=a at h1 h2 h3
  generalize y.1.1.exps=b at h1 h2 h3
  generalize z.1.1.exps=c at h1 h2 h3
  have f1:=cmpE_flip a b
  have f2:=cmpE_flip b c
  rcases cmpE_cases a b with g1 | g1 | g1
  ·exact h1 g1
  ·rw [cmpE_zero] at g1; subst g1; exact h2 h3
  ·have k1:cmpE b a = -1:=by rw [f1,g1]
   exact h2 (cmpE_trans k1 h3)
theorem putCells_flat {S:Sig} (d:Array (CellT S)) (c:Array Value) (i j:Nat) (hi:i<d.size) (hj:j<2) (hc:d.size*2≤c.size):(Sort.putCells id 0 (flatK encC 2 d) c).getD (i*2+j) undef=(encC d[i]!)[j]!:=by
 unfold Sort.putCells
 rw [Array.getD_eq_getD_getElem?,Array.getElem?_mapIdx,Array.getElem?_eq_getElem (by omega)]
 simp only [Option.map_some,Option.getD_some,size_flatK]
 rw [if_pos ⟨Nat.zero_le _,by omega⟩,Nat.sub_zero]
 show (flatK encC 2 d)[i*2+j]! = _
 rw [get_flatK _ _ _ _ (by omega),show (i*2+j) / 2=i by omega,show (i*2+j) % 2=j by omega]
theorem isAgg_Mono (w:World):(isAgg (laysSF_ren.t 24)).run Tryz.prog w=.ok true w:=Tryz.isAgg82 w
theorem sizeOf_Mono (w:World):(Go.sizeOf (laysSF_ren.t 24)).run Tryz.prog w=.ok 2 w:=Tryz.sizeOf82 w
theorem sort_frame {S:Sig} (w:World) (blk m:Nat) (dk:Array (CellT S)) (os:Array Go.Obj) (i:Nat) (hi:i<w.heap.size) (hb:i≠blk):(sortWorldK encC 2 w blk 0 m dk os).heap[i]?=w.heap[i]?:=by
 simp only [sortWorldK,putRowK,grow,putRow,mapBlock,Sort.ahead]
 rw [Array.getElem?_append_left (by simpa using hi),Array.getElem?_modify,if_neg (fun h=>hb h.symm)]
theorem SortFunc_raw (hnil:∀ (p:Option Addr) (cap:Nat) (fv:Value) (w:World),Calls Tryz.prog 38 #[.slice p 0 cap,fv] w fun e w'=>e=.returned (.tuple #[])∧w'=w)
  (l:Mos) (n:Nat) (hn:n=l.length) (hlim:n≤lim) (hx:∀ x∈l,x.exps.length≤1048576) {Q:D→Heap→Prop}
  (hQ:∀ l':Mos,l'.Perm l→(l'.Pairwise fun x y=>cmpE y.exps x.exps≠-1)→Q (.tup []) [.row Zs (encMos l')]):cl ZaQ [.osl (.own 0) n,.fn Zdg []] [.row Zs (encMos l)] Q:=by
 intro S vs hH hL hla hmks hwf hlen hrep hloc
 obtain ⟨u0,u1,rfl⟩:∃ u0 u1,vs=[u0,u1]:=by
  match vs,hlen with
  | [u0,u1],_=>exact ⟨u0,u1,rfl⟩
 have h0:RepD (lfs tab) S (.osl (.own 0) n) u0:=hrep 0
 have hf:RepD (lfs tab) S (.fn Zdg []) u1:=hrep 1
 have e1:u1=.func (.func 39) #[] #[]:=by
  cases hf with
  | fn _ _ us hl _ =>
   have:us=[]:=by cases us with
    | nil=>rfl
    | cons a b=>cases hl
   subst this; rfl
 subst e1
 have hobj:S.obj (.own 0)=.row Zs (encMos l):=by show S.H.getD 0 .dead=_; rw [hH]; rfl
 have hll:(encMos l).length=l.length:=encMos_length l
 have e0:u0=rowVal n (S.blk (.own 0)):=by
  cases h0 with
  | osl _ _ _ _ h=>exact (h Zs _ hobj).2 (by rw [hll]; omega)
 subst e0
 rcases hwf.row hobj with ⟨hb0,hxs0⟩ | ⟨b,c,arr,hb0,hheap,hsz,hnc,hcm,hxl,hrp⟩
 ·have hs0:l=[]:=List.eq_nil_of_length_eq_zero (by rw [← hll,hxs0]; rfl)
  subst hs0
  rw [hb0]
  have hn0:n=0:=by simpa using hn
  subst hn0
  refine (hnil none 0 _ S.w).mono ?_
  rintro en w' ⟨rfl,rfl⟩
  refine ⟨_,.tup [],S,rfl,rfl,hL,hla,hmks,hwf,.tup [] [] rfl (repD_of_list rfl fun j hj=>by simp at hj),rfl,Ext.refl S,?_⟩
  rw [hH]
  exact hQ [] (.refl _) .nil
 ·rw [hb0]
  rw [lf_Mono] at hsz hxl hrp
  have hnc':l.length≤c:=by rw [← hll]; exact hnc
  have hblt:b<S.w.heap.size:=hwf.lt (.own 0) (b,c) hb0
  have hcell:∀ j (hj:j<l.length),arr.getD (j*2) undef=.int .u64 ((l[j]).coef:Nat)∧RepK (lfs tab) S.w S.F (.sl Zar) (V.l (encP (l[j]).exps)) (arr.getD (j*2+1) undef):=fun j hj=>by
   have h1:=hrp j 0 (by omega) (by simp)
   have h2:=hrp j 1 (by omega) (by simp)
   have e5:(encMos l).getD j []=[.i (l[j]).coef,.l (encP (l[j]).exps)]:=encMos_getD l j hj
   rw [e5] at h1 h2
   have h1:RepK (lfs tab) S.w S.F (.int .u64) (.i (l[j]).coef) (arr.getD (j*2+0) undef):=h1
   rw [Nat.add_zero] at h1
   refine ⟨?_,h2⟩
   generalize arr.getD (j*2) undef=u at h1
   generalize hy:V.i ((l[j]).coef:Nat)=y at h1
   cases h1 with
   | int=>rw [← hy]; rfl
  obtain ⟨d,hd⟩:∃ d:Array (CellT S),d=Array.ofFn (n:=l.length) fun i=>⟨(l[i.1],arr.getD (i.1*2+1) undef),(hcell i.1 i.2).2,hx _ (List.getElem_mem i.2)⟩:=⟨_,rfl⟩
  have hds:d.size=l.length:=by rw [hd]; simp
  have hdg:∀ j (hj:j<l.length),(d[j]!).1=(l[j],arr.getD (j*2+1) undef):=fun j hj=>by
   rw [getElem!_pos d j (by omega)]
   simp [hd]
  have hdl:d.toList.map (fun x=>x.1.1)=l:=by
   apply List.ext_getElem
   ·simp [hds]
   ·intro j h1 h2
    rw [List.getElem_map,Array.getElem_toList]
    have:=hdg j h2
    rw [getElem!_pos d j (by omega)] at this
    rw [this]
  have hH1:HoldsK encC 2 S.w b 0 d:=fun j hj=>by
   rw [size_flatK,hds] at hj
   obtain ⟨q,r,rfl,hr⟩:∃ q r,j=q*2+r∧r<2:=⟨j / 2,j % 2,by omega,by omega⟩
   have hja:q*2+r<arr.size:=by
    have:([K.int .u64,.sl Zar]:List K).length=2:=rfl
    rw [hsz,this]; omega
   have hj2:q<l.length:=by omega
   refine ⟨?_,by simp [World.frozen?,hheap]⟩
   rw [Nat.zero_add,cell_of hheap hja,get_flatK _ _ _ _ (by rw [hds]; exact hj),show (q*2+r) / 2=q by omega,show (q*2+r) % 2=r by omega]
   obtain ⟨c1,c2⟩:=hcell _ hj2
   have hg:=hdg _ hj2
   show some (arr.getD (q*2+r) undef)=some ((encC d[q]!)[r]!)
   unfold encC
   rw [hg]
   match r,hr with
   | 0,_=>rw [Nat.add_zero,c1]; rfl
   | 1,_=>rfl
  have hcmp:CmpLays Tryz.prog 39 #[] encC 2 (cfC (S:=S)) b 0 d.size S.w:=fun m os dk hdk x y=>by
   have hW:∀ b',S.F b'→(sortWorldK encC 2 S.w b 0 m dk os).heap[b']?=S.w.heap[b']?:=fun b' hb' =>
    sort_frame S.w b m dk os b' (hwf.frozen b' hb').1 fun h=>(hwf.frozen b' hb').2 (.own 0) (b,c) hb0 h.symm
   exact Of1_raw _ _ x.2.2 _ _ _ _ _ (intSl_of x.2.1 hW) (intSl_of y.2.1 hW)
  have hsort:=AnyQ.slices_SortFunc laysSF 2 isAgg_Mono sizeOf_Mono (encC (S:=S)) (fun _=>rfl) (fun x v hv=>by
    rcases List.mem_cons.1 hv with rfl | hv
    ·rfl
    ·rw [List.mem_singleton.1 hv]; exact x.2.1.one) cfC (swo_C S) 39 #[] b 0 c d S.w (enters_of Tryz.func39 (by kernel_rfl) rfl) hcmp hH1 hblt (by unfold lim at hlim; omega)
  rw [hds] at hsort
  rw [hn]
  refine Calls.mono hsort ?_
  rintro en w' ⟨rfl,d',k,os,hp,hso,rfl⟩
  obtain ⟨p1,p2,p3⟩:=hp
  obtain ⟨l',hl'⟩:∃ l',l'=d'.toList.map (fun x=>x.1.1):=⟨_,rfl⟩
  have hd's:d'.size=l.length:=by rw [p1,hds]
  have hl's:l'.length=l.length:=by rw [hl']; simp [hd's]
  have hperm:l'.Perm l:=by
   have e3:d'.extract 0 l.length=d':=by rw [← hd's]; simp
   have e4:d.extract 0 l.length=d:=by rw [← hds]; simp
   rw [e3,e4] at p3
   rw [hl',← hdl]
   exact p3.map _
  have hget:∀ j (hj:j<l'.length),l'[j]=(d'[j]!).1.1:=fun j hj=>by
   have h1:j<d'.size:=by omega
   rw [getElem!_pos d' j h1]
   simp [hl']
  have hpw:l'.Pairwise fun x y=>cmpE y.exps x.exps≠-1:=by
   rw [List.pairwise_iff_getElem]
   intro i j hi hj hij
   have:=hso i j (Nat.zero_le _) hij (by omega)
   rw [lt_C] at this
   rw [hget i hi,hget j hj]
   exact of_decide_eq_false this
  have hQ':=hQ l' hperm hpw
  have hheap':∀ i,i<S.w.heap.size→(sortWorldK encC 2 S.w b 0 k d' os).heap[i]?=if i=b then some (.cells (Sort.putCells id 0 (flatK encC 2 d') arr) Zs (0,0)) else S.w.heap[i]?:=fun i hi=>by
   simp only [sortWorldK,putRowK,grow,putRow,mapBlock,Sort.ahead]
   rw [Array.getElem?_append_left (by simpa using hi),Array.getElem?_modify]
   by_cases h:b=i
   ·subst h; rw [if_pos rfl,if_pos rfl,hheap]; rfl
   ·rw [if_neg h,if_neg (fun h'=>h h'.symm)]
  have hwos:(sortWorldK encC 2 S.w b 0 k d' os).os=S.w.os∧(sortWorldK encC 2 S.w b 0 k d' os).tape=S.w.tape∧(sortWorldK encC 2 S.w b 0 k d' os).output=S.w.output:=⟨rfl,rfl,rfl⟩
  have hwsz:S.w.heap.size≤(sortWorldK encC 2 S.w b 0 k d' os).heap.size:=by simp [sortWorldK,putRowK,grow,putRow,mapBlock,Sort.ahead]
  generalize sortWorldK encC 2 S.w b 0 k d' os=w' at hheap' hwos hwsz
  have hpsz:(Sort.putCells id 0 (flatK encC 2 d') arr).size=arr.size:=by simp [Sort.putCells]
  have hblkl:∀ i,S.blk (.loc i)=none:=fun i=>by show S.la.getD i none=none; rw [hla]; rfl
  have hrel:Rel (lfs tab) ⟨[],[]⟩ S.H { tmps:=#[],defers:=[] } S:=⟨rfl,hL,rfl,by unfold marks; rw [hmks]; rfl,fun j=>by
   show RepD _ S (([]:List D).getD j .undef) _
   rw [List.getD_nil]; exact .undef _,hwf⟩
  have hinv:Inv S S:=⟨Ext.refl S,fun i bc h=>(by rw [hblkl] at h; cases h),fun d hd=>by rw [hmks] at hd; cases hd⟩
  have hhas:S.has (.own 0):=by show 0<S.H.length; rw [hH]; simp
  have hll':(encMos l').length=l'.length:=encMos_length l'
  obtain ⟨j1,j2⟩:=S.upd_at hwf hhas (.row Zs (encMos l')) (some (b,c)) w'
  obtain ⟨g1,g2,g3⟩:=Rel.upd hrel hinv (.own 0) (.row Zs (encMos l')) (some (b,c)) w' hhas hwsz (fun i hi hne=>by
    rw [hheap' i hi,if_neg (fun h=>hne _ hb0 h.symm)]) hwos.1 hwos.2.1 hwos.2.2
   (fun x hx=>by
    cases hx
    exact ⟨.inl ⟨_,hb0,rfl⟩,Nat.lt_of_lt_of_le hblt hwsz⟩)
   (by
    refine ⟨fun bc j3 _=>?_,fun e' xs' j3=>?_,fun e' xs' j3=>(by rw [j1] at j3; cases j3)⟩
    ·rw [j1] at j3; cases j3
    ·rw [j1] at j3; cases j3
     exact ⟨encMos l,hobj,by rw [hll,hll',hl's]; exact Nat.le_refl _,fun _=>by rw [j2,hb0]⟩)
   (fun _ _=>trivial)
   (fun mD mK=>.inr ⟨b,c,Sort.putCells id 0 (flatK encC 2 d') arr,rfl,by rw [Sig.upd_w,hheap' b hblt,if_pos rfl],by rw [hpsz,lf_Mono]; exact hsz,by rw [hll',hl's]; exact hnc',hcm,fun i hi=>by
     rw [hll'] at hi
     rw [lf_Mono,encMos_getD l' i hi]; rfl,
    fun i j hi hj=>by
     rw [Sig.upd_w,Sig.upd_F]
     rw [lf_Mono] at hj ⊢
     rw [hll'] at hi
     have hj2:j<2:=hj
     have e8:([K.int .u64,.sl Zar]:List K).length=2:=rfl
     rw [e8,putCells_flat d' arr i j (by omega) hj2 (by rw [hsz,e8]; omega),encMos_getD l' i hi,hget i hi]
     generalize d'[i]! = z
     match j,hj2 with
     | 0,_=>exact .int .u64 (V.i (z.1.1.coef:Nat))
     | 1,_=>exact mK z.2.1⟩)
  refine ⟨_,.tup [],S.upd (.own 0) (.row Zs (encMos l')) (some (b,c)) w',rfl,Sig.upd_w _ _ _ _ _,hL,hla,hmks,g1.wf,.tup [] [] rfl (repD_of_list rfl fun j hj=>by simp at hj),rfl,g2.ext,?_⟩
  have:(S.upd (.own 0) (.row Zs (encMos l')) (some (b,c)) w').H=[.row Zs (encMos l')]:=by show S.H.set 0 _=_; rw [hH]; rfl
  rw [this]; exact hQ'
theorem SortFunc_ok (l:Mos) (n:Nat) (hn:n=l.length) (hlim:n≤lim) (hx:∀ x∈l,x.exps.length≤1048576) {Q:D→Heap→Prop}
  (hQ:∀ l':Mos,l'.Perm l→(l'.Pairwise fun x y=>cmpE y.exps x.exps≠-1)→Q (.tup []) [.row Zs (encMos l')]):cl ZaQ [.osl (.own 0) n,.fn Zdg []] [.row Zs (encMos l)] Q :=
 SortFunc_raw (fun p cap fv w=>AnyF.slices_SortFunc_none laysSF p cap fv w) l n hn hlim hx hQ
end Go.Proofs.YthhnadeoioeniaaGreat
namespace Go.Proofs.YthhnadeoioeniaaGreat
open Go Go.Abs
theorem key_split:∀ (l:List Int) (i:Nat),(∀ x∈l,0≤x)→(keyL i l=[]∧l=zerosE l.length)∨∃ k a r,l=zerosE k++a::r∧0<a∧keyL i l=powL (i+k) a++keyL (i+k+1) r
 | [],i,_=>.inl ⟨rfl,rfl⟩
 | x::l,i,h=>by
  by_cases hx:0<x
  ·refine .inr ⟨0,x,l,rfl,hx,?_⟩
   rw [keyL,if_pos hx]; rfl
  ·have hx0:x=0:=by have:=h x (by simp); omega
   subst hx0
   rw [keyL,if_neg hx,List.nil_append]
   rcases key_split l (i+1) fun y hy=>h y (by simp [hy]) with ⟨h1,h2⟩ | ⟨k,a,r,h1,h2,h3⟩
   ·refine .inl ⟨h1,?_⟩
    rw [List.length_cons]
    show (0:Int)::l=List.replicate (l.length+1) 0
    rw [List.replicate_succ]
    exact congrArg _ h2
   ·refine .inr ⟨k+1,a,r,?_,h2,?_⟩
    ·rw [h1]
     show (0:Int)::(zerosE k++a::r)=List.replicate (k+1) 0++a::r
     rw [List.replicate_succ]; rfl
    ·rw [h3,show i+1+k=i+(k+1) by omega]
theorem zero_row (n:Nat):zeroRow [.int .i64] n=encP (zerosE n):=by
 unfold zeroRow encP zerosE
 rw [List.map_replicate]; rfl
theorem set_split (pre r:List Int) (k:Nat) (a:Int):(pre++zerosE (k+1+r.length)).set (pre.length+k) a=(pre++zerosE k++[a])++zerosE r.length:=by
 have e:zerosE (k+1+r.length)=zerosE k++0::zerosE r.length:=by
  unfold zerosE
  rw [show k+1+r.length=k+(r.length+1) by omega,← List.replicate_append_replicate,List.replicate_succ]
 rw [e,← List.append_assoc,List.set_append_right _ _ (by rw [List.length_append,zerosE_length]; omega)]
 rw [List.length_append,zerosE_length,Nat.sub_self,List.set_cons_zero]
 simp
theorem encMos_snoc (l:Mos) (x:Mo):encMos l++[[V.i (x.coef:Nat),V.l (encP x.exps)]]=encMos (l++[x]):=by
 rw [encMos_append]; rfl
theorem encP_nil_iff (s:List UInt8):(!((byL s).toList == (ByteArray.mk #[]).toList))=true↔s≠[]:=by
 rw [Bool.not_eq_true',← Bool.not_eq_true]
 exact not_congr (byL_eq_nil s)
theorem sorted_of_perm {l c:Mos} (hp:l.Perm c) (hc:SortP c) (h:l.Pairwise fun x y=>cmpE y.exps x.exps≠-1):l=c:=by
 refine sort_unique ?_ hc hp
 have hd:DistP l:=dist_perm hp.symm hc.dist
 refine (List.Pairwise.and h hd).imp fun {a b} h=>?_
 obtain ⟨h1,h2⟩:=h
 rw [cmpE_flip] at h1
 rcases cmpE_cases a.exps b.exps with g | g | g
 ·exact g
 ·exact absurd (cmpE_zero.1 g) h2
 ·rw [g] at h1; exact absurd rfl h1
theorem colsP_append (A:Mos) (s t:List Nat):colsP A (s++t)=colsP A s++colsP A t:=by unfold colsP; rw [List.map_append]
def ofQE (l:Pls) (t:Tm):Int:=if plsE l≠0 then plsE l else ofE l t
def ofQV (l:Pls) (t:Tm):List ByteArray:=if plsE l≠0 then [] else ofV l t
def ofQP (l:Pls) (t:Tm):Mos:=if plsE l≠0 then [] else ofP l t
theorem insert_len {n:Nat} (ps:List Mos):∀ (ms out y:Mos),out.length≤4096→insertP n ps ms out=some y→y.length≤4096
 | [],out,y,ho,h=>by cases h; exact ho
 | m::ms,out,y,ho,h=>by
  rw [insertP] at h
  cases hm:monoP n m ps with
  | none=>rw [hm] at h; cases h
  | some x =>
   rw [hm] at h
   have h:(if largeP (addsP out x) then none else insertP n ps ms (addsP out x))=some y:=h
   cases hl:largeP (addsP out x) with
   | true=>rw [hl,if_pos rfl] at h; cases h
   | false =>
    rw [hl,if_neg (by simp)] at h
    exact insert_len ps ms _ y (large_len hl) h
theorem polyT_len {l:Pls} {vs:List ByteArray} {t:Tm} {c:Mos} (h:polyT l vs t=some c):c.length≤4096:=by
 cases hv:t.var with
 | true =>
  rw [polyT_eq,if_pos hv] at h
  cases h; simp
 | false =>
  have hall:∀ a∈t.args,polyT l vs a≠none:=fun a ha hn=>by rw [polyT_arg hv ⟨a,ha,hn⟩] at h; cases h
  rw [polyT_args hv hall] at h
  exact insert_len _ _ _ _ (Nat.zero_le _) h
theorem of_list {N:Nat} (hN:N≤65536) (vars:List ByteArray) (hv:vars.length=N) (c C:Mos) (hp:C.Perm c) (hs:SmallP N C) (hc:SortP c) (hlen:C.length≤1048576) {Q:D→Heap→Prop} (hQ:Q (.tup [nsD vars,msD c,iD 0]) []) :
  ∃ m0,ZbF Q m0 (V.l (encN vars)) 0 (V.l (encKs C)) C.length [] []:=by
 refine ZgU Q (fun a1 a2 a3 a4 a5 a6=>a1=V.l (encN vars)∧a2=a6.length∧a3=V.l (encKs C)∧a4=C.length∧a5.Nodup∧(∀ j∈a5,j<C.length)∧a6=encMos (colsP C a5.reverse)) (fun a1 a2 a3 a4 a5 a6=>C.length - a5.length)
  (fun a1 a2 a3 a4 a5 a6 hI m0 hK=>?_) _ _ _ _ _ _ ⟨rfl,rfl,rfl,rfl,.nil,fun j hj=>by simp at hj,rfl⟩
 obtain ⟨rfl,rfl,rfl,rfl,hnd,hlt,rfl⟩:=hI
 unfold ZdH
 have eC:(V.l (encKs C)).list.length=C.length:=encKs_length C
 have eV:(V.l (encN vars)).list.length=N:=by rw [← hv]; exact encN_length vars
 have hle:a5.length≤C.length:=nodup_le _ _ hnd hlt
 have ecol:(colsP C a5.reverse).length=a5.length:=by simp [colsP]
 have elen:(encMos (colsP C a5.reverse)).length=a5.length:=by rw [encMos_length,ecol]
 refine ⟨eC,fun hall=>?_,fun j hj hjs hjl=>⟨eC,fun _=>?_⟩⟩
 ·have hrn:a5.reverse.Nodup:=(List.reverse_perm a5).nodup_iff.2 hnd
  have hpC:=cols_all (A:=C) hrn (fun j hj=>hlt j (List.mem_reverse.1 hj)) fun j hj=>List.mem_reverse.2 (hall j hj)
  refine SortFunc_ok (colsP C a5.reverse) _ (by rw [elen,ecol]) (by rw [elen]; unfold lim; omega) (fun x hx=>?_) fun l' h1 h2=>?_
  ·have:=(hs x (hpC.mem_iff.1 hx)).1.1; omega
  ·have e:=sorted_of_perm ((h1.trans hpC).trans hp) hc h2
   subst e
   refine ⟨rfl,rfl,⟨trivial,?_,trivial,trivial⟩,hQ⟩
   show (encMos (colsP C a5.reverse)).length=(encMos l').length
   rw [encMos_length,encMos_length,h1.length_eq]
 ·rw [eV]
  have hin:=getD_mem hj
  obtain ⟨v1,v2,v3⟩:=hs.exps hin
  have hg:(V.l (encKs C)).list.getD j []=[V.s (keyB (C.getD j dMo).exps),V.i ((C.getD j dMo).coef:Nat)]:=encKs_getD C j hj
  simp only [hg,List.drop_succ_cons,List.drop_zero,List.headD_cons,Int.toNat_natCast]
  refine ⟨by omega,trivial,by unfold lim; omega,?_⟩
  rw [zero_row]
  have hz:colsP C (j::a5).reverse=colsP C a5.reverse++[C.getD j dMo]:=by
   rw [List.reverse_cons,colsP_append]; rfl
  generalize C.getD j dMo=z at v1 v2 v3 hz
  refine Zhb Q m0 (fun b1 b2 b3 b4 b5 b6 b7 b8 b9 b10=>b1=V.l (encN vars)∧b2=a5.length∧b4=V.i (z.coef:Nat)∧N=b5∧b6=V.l (encKs C)∧b7=C.length∧b8=j::a5∧b10=encMos (colsP C a5.reverse) ∧
    ∃ pre rest:List Int,z.exps=pre++rest∧b3=V.s (byL (keyL pre.length rest))∧b9=encP (pre++zerosE rest.length))
   (fun b1 b2 b3 b4 b5 b6 b7 b8 b9 b10=>b3.str.size) (fun b1 b2 b3 b4 b5 b6 b7 b8 b9 b10 hI m1 hK2=>?_) _ _ _ _ _ _ _ _ _ _ ⟨rfl,elen,rfl,rfl,rfl,rfl,rfl,rfl,[],z.exps,rfl,rfl,by rw [v1]; rfl⟩
  obtain ⟨rfl,rfl,rfl,rfl,rfl,rfl,rfl,rfl,pre,rest,hpr,rfl,rfl⟩:=hI
  unfold ZdO
  have hpl:pre.length+rest.length=N:=by rw [← v1,hpr,List.length_append]
  have hy:(encP (pre++zerosE rest.length)).length=N:=by rw [encP_length,List.length_append,zerosE_length]; exact hpl
  have hrest:∀ x∈rest,0≤x∧x≤1048576:=fun x hx=>v2 x (by rw [hpr]; exact List.mem_append_right _ hx)
  rcases key_split rest pre.length (fun x hx=>(hrest x hx).1) with ⟨h1,h2⟩ | ⟨k,a,r,h1,h2,h3⟩
  ·rw [h1]
   refine iff_no (by rw [Bool.not_eq_false']; exact (byL_eq_nil []).2 rfl) ⟨hy.symm,elen,?_,?_⟩
   ·show a5.length+1≤lim; unfold lim; omega
   have e4:pre++zerosE rest.length=z.exps:=by rw [hpr,← h2]
   rw [e4,encMos_snoc,← hz]
   refine hK _ _ _ _ _ _ ⟨rfl,?_,rfl,rfl,List.nodup_cons.2 ⟨hjs,hnd⟩,fun i hi=>?_,rfl⟩ (by rw [List.length_cons]; omega)
   ·rw [encMos_length]; simp [colsP]
   ·rcases List.mem_cons.1 hi with rfl | hi
    ·exact hj
    ·exact hlt i hi
  ·rw [h3]
   have hrl:rest.length=k+1+r.length:=by rw [h1,List.length_append,List.length_cons,zerosE_length]; omega
   have ha:=hrest a (by rw [h1]; simp)
   refine iff_yes ((encP_nil_iff _).2 (by simp [powL])) ?_
   refine poly_first_ok (pre.length+k) a _ (by omega) (by omega) (by omega) _ ⟨rfl,rfl,?_⟩
   have hsz:(byL (powL (pre.length+k) a++keyL (pre.length+k+1) r)).size=6+(keyL (pre.length+k+1) r).length:=by
    rw [byL_size,List.length_append,powL_length]
   have e5:((D.tup [iD ((pre.length+k:Nat):Int),iD a]).parts.headD .undef).V.int=((pre.length+k:Nat):Int):=rfl
   have e6:((D.tup [iD ((pre.length+k:Nat):Int),iD a]).parts.tail.headD .undef).V=V.i a:=rfl
   rw [e5,e6,Int.toNat_natCast]
   refine ⟨hy,by omega,by omega,hy,by omega,by omega,?_,?_,?_⟩
   ·show (6:Int)≤((byL (powL (pre.length+k) a++keyL (pre.length+k+1) r)).size:Nat)
    rw [hsz]; omega
   ·exact Int.le_refl _
   ·rw [encP_set _ _ _ (by rw [List.length_append,zerosE_length]; omega),hrl,set_split]
    have e9:(V.s (byL (powL (pre.length+k) a++keyL (pre.length+k+1) r))).str=byL (powL (pre.length+k) a++keyL (pre.length+k+1) r):=rfl
    rw [e9,drop6]
    refine hK2 _ _ _ _ _ _ _ _ _ _ ⟨rfl,rfl,rfl,rfl,rfl,rfl,rfl,rfl,pre++zerosE k++[a],r,?_,?_,rfl⟩ ?_
    ·rw [hpr,h1]; simp
    ·rw [show (pre++zerosE k++[a]).length=pre.length+k+1 by rw [List.length_append,List.length_append,zerosE_length]; rfl]
    ·rw [h3]
     show (byL (keyL (pre.length+k+1) r)).size<(byL (powL (pre.length+k) a++keyL (pre.length+k+1) r)).size
     rw [hsz,byL_size]; omega
theorem poly_Of_ok (l:Pls) (t:Tm) (hs:t.size≤1048576):Fn Zgy [plsD l,tD t] (.tup [nsD (ofQV l t),msD (ofQP l t),iD (ofQE l t)]):=Fn.as fun Q hQ=>by
 refine Zh2 _ _ _ _ _ ?_
 unfold Zhc
 rw [show [[V.s t.name,V.b t.var,V.l (Tm.encL t.args)]]=Tm.encL [t] by simp [Tm.encL,Tm.enc_eq]]
 have bad:∀ e:Int,e≠0→ofQE l t=e→(True∧True∧True∧True)∧Q (.tup [.nil,.nil,iD e]) []:=fun e he h=>by
  have h1:ofQV l t=[]:=by
   unfold ofQV ofV
   unfold ofQE at h
   split
   ·rfl
   ·rename_i h2; rw [if_neg h2] at h; rw [if_neg (by rw [h]; exact he)]
  have h2:ofQP l t=[]:=by
   unfold ofQP ofP
   unfold ofQE at h
   split
   ·rfl
   ·rename_i h2; rw [if_neg h2] at h; rw [if_neg (by rw [h]; exact he)]
  rw [h,h1,h2] at hQ
  exact ⟨⟨trivial,trivial,trivial,trivial⟩,hQ _ (as_triple (.nil _ _ rfl) (.nil _ _ rfl))⟩
 refine poly_Check_ok l _ ⟨rfl,rfl,iff_bne (fun h=>bad _ h ?_) (fun h=>?_)⟩
 ·have h:plsE l≠0:=h
  unfold ofQE; rw [if_pos h]
 have h:plsE l=0:=h
 have hl:=plsE_zero h
 have q1:ofQE l t=ofE l t:=by unfold ofQE; rw [if_neg (by simp [h])]
 have q2:ofQV l t=ofV l t:=by unfold ofQV; rw [if_neg (by simp [h])]
 have q3:ofQP l t=ofP l t:=by unfold ofQP; rw [if_neg (by simp [h])]
 refine term_Check_ok t (by unfold small; omega) _ ⟨rfl,rfl,iff_bne (fun h=>bad _ h ?_) (fun h=>?_)⟩
 ·have h:t.check≠0:=h
  rw [q1]; unfold ofE; rw [if_pos h]
 have h:t.check=0:=h
 obtain ⟨hfm,hsz,_⟩:=Tm.check_zero.1 h
 have hvl:(Tm.vars [t]).length≤65536:=Nat.le_trans (vars_len4 hsz) (by omega)
 refine VarsOf_vars [t] (by simp [Tm.sizeL]; omega) _ ⟨rfl,rfl,?_⟩
 refine poly_polynomial_ok hl (vars_sort _) hvl t (by omega) hfm (pre_vars t) (fun c C h2 h3 h4 h5=>⟨rfl,rfl,iff_bne (fun h=>absurd rfl h) (fun _=>?_)⟩) (fun h2=>⟨rfl,rfl,iff_bne (fun _=>bad _ h2 ?_) (fun h=>absurd h h2)⟩)
 ·have e0:ofE l t=0:=by rw [ofE_pol h]; exact h2
  have ev:ofV l t=Tm.vars [t]:=by unfold ofV; rw [if_pos e0]
  have ep:ofP l t=c:=by unfold ofP; rw [if_pos e0,h3]; rfl
  rw [q1,q2,q3,e0,ev,ep] at hQ
  have eC:(V.l (encKs C)).list.length=C.length:=encKs_length C
  show ∃ m0,ZbF Q m0 (V.l (encN (Tm.vars [t]))) 0 (V.l (encKs C)) ((V.l (encKs C)).list.length) [] []
  rw [eC]
  exact of_list hvl _ rfl c C h4 h5 (polyT_sort hl h3) (by rw [h4.length_eq]; have:=polyT_len h3; omega) (hQ _ (.refl _))
 ·rw [q1,ofE_pol h]
end Go.Proofs.YthhnadeoioeniaaGreat
namespace Go.Proofs.YthhnadeoioeniaaGreat
open Go Go.Abs
def exAdd:ByteArray:=.mk #[97,100,100]
def exs:ByteArray:=.mk #[115]
def exx:ByteArray:=.mk #[120]
def exy:ByteArray:=.mk #[121]
def exP:Pls:=[⟨exAdd,[⟨1,[0,0]⟩,⟨1,[0,1]⟩,⟨2,[1,0]⟩]⟩,⟨exs,[⟨1,[0]⟩,⟨1,[1]⟩]⟩]
def exX:Tm:=.mk exx true []
def exY:Tm:=.mk exy true []
def exS:Tm:=.mk exAdd false [.mk exs false [exX],exY]
def exT:Tm:=.mk exs false [.mk exAdd false [exX,exY]]
theorem ex1:plsE exP=0:=by kernel_rfl
theorem ex2:ofE exP exS=0:=by kernel_rfl
theorem ex4:ofV exP exS=[exx,exy]:=by kernel_rfl
theorem ex5:ofP exP exS=[⟨3,[0,0]⟩,⟨1,[0,1]⟩,⟨2,[1,0]⟩]:=by kernel_rfl
theorem ex6:cmpT exP exS exT=(2,0):=by kernel_rfl
theorem l08_variable_ok (x:ByteArray):Fn Zch [sD x] (tD (.mk x true [])):=Fn.as fun Q hQ=>by
 refine Zg2 _ _ ?_
 unfold ZdQ
 exact ⟨⟨trivial,trivial,trivial,trivial⟩,hQ _ (.last3 _ _ _)⟩
theorem l08_symbol_ok (x:ByteArray) (l:List Tm):Fn ZbH [sD x,tsD l] (tD (.mk x false l)):=fun Q hQ=>by
 refine Zhz _ _ _ ?_
 unfold Ze2
 exact ⟨⟨trivial,trivial,trivial,trivial⟩,hQ⟩
theorem l08_example_ok:Fn Zcy [] (plsD exP):=fun Q hQ=>by
 refine Zhl _ ?_
 exact ⟨trivial,hQ⟩
theorem SameNames_self (l:List ByteArray):Fn ZcK [nsD l,nsD l] (bD true):=fun Q hQ=>by
 refine Zgt _ _ _ fun hb _=>iff_bne (fun h=>absurd rfl h) (fun _ _=>?_)
 rw [encN_length] at hb ⊢
 refine ZdR Q _ _ _ hb (fun _=>True) (fun k hk _ K hK=>?_) (fun _=>⟨trivial,hQ⟩) 0 (Nat.zero_le _) trivial
 simp only [encN_getD l k hk,List.drop_zero,List.headD_cons,encN_length]
 exact ⟨by omega,by omega,by omega,by omega,iff_not (iff_yes (by simp) (hK trivial))⟩
theorem l08_alive_ok:Fn Zae [] (bD true):=fun Q hQ=>by
 refine ZhU _ ?_
 unfold ZfZ
 have hc:=poly_Compare_ok exP exS exT (by rw [show exS.size=4 from by kernel_rfl]; omega) (by rw [show exT.size=4 from by kernel_rfl]; omega)
 have e1:cmpQ exP exS exT=(2,0):=by unfold cmpQ; rw [if_neg (by simp [ex1]),ex6]
 rw [e1] at hc
 have ho:=poly_Of_ok exP exS (by rw [show exS.size=4 from by kernel_rfl]; omega)
 have q1:ofQE exP exS=0:=by unfold ofQE; rw [if_neg (by simp [ex1]),ex2]
 have q2:ofQV exP exS=[exx,exy]:=by unfold ofQV; rw [if_neg (by simp [ex1]),ex4]
 have q3:ofQP exP exS=[⟨3,[0,0]⟩,⟨1,[0,1]⟩,⟨2,[1,0]⟩]:=by unfold ofQP; rw [if_neg (by simp [ex1]),ex5]
 rw [q1,q2,q3] at ho
 refine l08_variable_ok _ _ ⟨rfl,rfl,l08_variable_ok _ _ ⟨rfl,rfl,tD (.mk exs false [exX]),(l08_symbol_ok _ [exX]).here rfl,tD exS,(l08_symbol_ok _ [.mk exs false [exX],exY]).here rfl,
  tD (.mk exAdd false [exX,exY]),(l08_symbol_ok _ [exX,exY]).here rfl,tD exT,(l08_symbol_ok _ [.mk exAdd false [exX,exY]]).here rfl,plsD exP,l08_example_ok.here rfl,.tup [iD 2,iD 0],hc.here rfl,plsD exP,l08_example_ok.here rfl,.tup [nsD [exx,exy],msD [⟨3,[0,0]⟩,⟨1,[0,1]⟩,⟨2,[1,0]⟩],iD 0],ho.here rfl,?_⟩⟩
 refine iff_beq (fun _=>iff_beq (fun _=>iff_beq (fun _=>?_) (fun h=>absurd rfl h)) (fun h=>absurd rfl h)) (fun h=>absurd rfl h)
 refine SameNames_self [exx,exy] _ ⟨rfl,rfl,iff_yes rfl ?_⟩
 have hm:=r08_SameMonos_ok [⟨3,[0,0]⟩,⟨1,[0,1]⟩,⟨2,[1,0]⟩] [⟨3,[0,0]⟩,⟨1,[0,1]⟩,⟨2,[1,0]⟩]
 rw [sameMo_self] at hm
 exact hm _ ⟨rfl,rfl,trivial,hQ⟩
end Go.Proofs.YthhnadeoioeniaaGreat
namespace Go.Proofs.YthhnadeoioeniaaGreat
open Go Go.Abs
end Go.Proofs.YthhnadeoioeniaaGreat
namespace Go.Proofs.YthhnadeoioeniaaGreat
open Go Go.Abs
def crs (l:Pls) (r:Ru):List (Int×Int):=r.map fun x=>cmpT l x.1 x.2
def fstE:List (Int×Int)→Int
 | []=>0
 | x::r=>if x.2≠0 then x.2 else fstE r
noncomputable def orE2 (l:Pls) (r:Ru):Int:=if sysE r≠0 then sysE r else fstE (crs l r)
noncomputable def orQE (l:Pls) (r:Ru):Int:=if plsE l≠0 then plsE l else orE2 l r
noncomputable def orQL (l:Pls) (r:Ru):List Int:=if orQE l r=0 then (crs l r).map (·.1) else []
end Go.Proofs.YthhnadeoioeniaaGreat
namespace Go.Proofs.YthhnadeoioeniaaGreat
open Go.Abs
namespace Tm
theorem image_mem (l:Su) (x:ByteArray):image l x=mk x true []∨∃ y∈l,image l x=y.2:=by
 induction l with
 | nil=>exact .inl rfl
 | cons y r ih =>
  simp only [image]
  by_cases h:y.1=x
  ·rw [if_pos h]; exact .inr ⟨y,by simp,rfl⟩
  ·rw [if_neg h]
   rcases ih with h2 | ⟨z,h3,h4⟩
   ·exact .inl h2
   ·exact .inr ⟨z,by simp [h3],h4⟩
theorem sizeL_map_le {f:Tm→Tm} {M:Nat}:∀ {l:List Tm},(∀ a∈l,(f a).size≤a.size*M)→sizeL (l.map f)≤sizeL l*M
 | [],_=>by simp [sizeL]
 | t::r,h=>by
  have h1:=h t (by simp)
  have h2:=sizeL_map_le (l:=r) fun a ha=>h a (by simp [ha])
  simp only [List.map_cons,sizeL,Nat.add_mul]; omega
theorem app_size {l:Su} {M:Nat} (hM:1≤M) (h:∀ x∈l,x.2.size≤M):∀ t:Tm,(app l t).size≤t.size*M:=ind fun t ih=>by
 rw [app_eq]
 have hp:M≤t.size*M:=Nat.le_mul_of_pos_left M (size_pos t)
 split
 ·rcases image_mem l t.name with h2 | ⟨y,hy,h2⟩
  ·rw [h2]; simp [size,sizeL]; omega
  ·rw [h2]; exact Nat.le_trans (h y hy) hp
 ·have:=sizeL_map_le ih
  rw [size_eq t,Nat.add_mul]
  show 1+sizeL (t.args.map (app l))≤_
  omega
end Tm
end Go.Proofs.YthhnadeoioeniaaGreat
namespace Go.Proofs.YthhnadeoioeniaaGreat
open Go Go.Abs
theorem valE_F {l:Pls} {t:Tm} (hp:plsE l=0) (h:(valE l t).2=0):(valE l t).1=valF l (fun _=>0) t:=by
 unfold valE at h ⊢
 rw [if_neg (by simp [hp])] at h ⊢
 by_cases h2:ofE l t=0
 ·rw [if_neg (by simp [h2])]
  obtain ⟨k1,k2,k3,c,k4⟩:=ofE_some h2
  have q3:ofP l t=c:=by unfold ofP; rw [if_pos h2,k4]; rfl
  have hsm:=polyT_small (plsE_zero hp).mono (vars_sort [t]).nodup (pre_vars t) k4
  have hlen:LenP (Tm.vars [t]).length c:=fun x hx=>(hsm x hx).1.1
  rw [q3]
  show constP c=_
  rw [constP_eq hlen]
  exact value_const l (plsE_zero hp).mono (vars_sort [t]).nodup (pre_vars t) k4
 ·rw [if_pos h2] at h
  exact absurd h h2
theorem cmpT_inst {l:Pls} {s t:Tm} (hp:plsE l=0) (h:(cmpT l s t).2=0) (su:Su) (ρ:ByteArray→Nat) :
  ((cmpT l s t).1=2→valF l ρ (Tm.app su t)<valF l ρ (Tm.app su s))∧((cmpT l s t).1=1→valF l ρ (Tm.app su t)≤valF l ρ (Tm.app su s))∧((cmpT l s t).1=0∨(cmpT l s t).1=1∨(cmpT l s t).1=2):=by
 unfold cmpT at h ⊢
 by_cases h1:ofE l s=0
 ·rw [if_neg (by simp [h1])] at h ⊢
  by_cases h2:ofE l t=0
  ·rw [if_neg (by simp [h2])] at h ⊢
   obtain ⟨_,_,_,p,hp1⟩:=ofE_some h1
   obtain ⟨_,_,_,q,hq1⟩:=ofE_some h2
   have i1:s∈[s,t]:=by simp
   have i2:t∈[s,t]:=by simp
   obtain ⟨m1,_⟩:=poly_more (l:=l) i1
   obtain ⟨m2,_⟩:=poly_more (l:=l) i2
   rw [hp1] at m1
   rw [hq1] at m2
   have m1:polyT l (Tm.vars [s,t]) s=some (p.map (mapMo (emb (Tm.vars [s,t]) (Tm.vars [s])))):=m1
   have m2:polyT l (Tm.vars [s,t]) t=some (q.map (mapMo (emb (Tm.vars [s,t]) (Tm.vars [t])))):=m2
   rw [m1,m2]
   have nd:=(vars_sort [s,t]).nodup
   have x1:=pre_vars2 i1
   have x2:=pre_vars2 i2
   have hm:=(plsE_zero hp).mono
   refine ⟨fun h5=>inst_down l hm nd x1 x2 m1 m2 h5 su ρ,fun h5=>inst_down_le l hm nd x1 x2 m1 m2 h5 su ρ,?_⟩
   show cmpP _ _ _=0∨cmpP _ _ _=1∨cmpP _ _ _=2
   unfold cmpP
   split
   ·split
    ·exact .inr (.inr rfl)
    ·exact .inr (.inl rfl)
   ·exact .inl rfl
  ·rw [if_pos h2] at h
   exact absurd h h2
 ·rw [if_pos h1] at h
  exact absurd h h1
theorem fits_size {s:Su} {t:Tm} (h:Tm.fits s t=true):(Tm.app s t).size≤4000:=by
 unfold Tm.fits at h
 rw [Bool.and_eq_true] at h
 exact of_decide_eq_true h.1
theorem l08_PolyInstances_ok (l:Pls) (s t:Tm) (su:Su) (hs:s.size≤1048576) (ht:t.size≤1048576) (hsu:∀ x∈su,x.2.size≤1048576) :
  Fn ZcI [plsD l,.agg [sD s.name,bD s.var,tsD s.args,sD t.name,bD t.var,tsD t.args],suD su] (bD true):=fun Q hQ=>by
 refine ZeI _ _ _ _ _ _ _ _ _ ?_
 unfold Zcv
 have alive:cl Zae [] [] fun r3 H4=>r3=(.v .bool (r3.V))∧H4=[]∧True∧Q (.v .bool (r3.V)) []:=l08_alive_ok _ ⟨rfl,rfl,trivial,hQ⟩
 have z1:=Tm.app_size (l:=su) (M:=1048576) (by omega) hsu s
 have z2:=Tm.app_size (l:=su) (M:=1048576) (by omega) hsu t
 have z3:s.size*1048576≤1048576*1048576:=Nat.mul_le_mul_right _ hs
 have z4:t.size*1048576≤1048576*1048576:=Nat.mul_le_mul_right _ ht
 refine poly_Compare_ok l s t hs ht _ ⟨rfl,rfl,iff_bne (fun _=>alive) (fun h=>iff_beq (fun _=>alive) (fun hn0=>?_))⟩
 have h:(cmpQ l s t).2=0:=h
 have hn0:(cmpQ l s t).1≠0:=hn0
 have hp:plsE l=0:=by
  unfold cmpQ at h
  by_cases hp:plsE l≠0
  ·rw [if_pos hp] at h; exact absurd h hp
  ·omega
 have e1:cmpQ l s t=cmpT l s t:=by unfold cmpQ; rw [if_neg (by simp [hp])]
 rw [e1] at h hn0 ⊢
 refine r01_CheckSubst_ok su (fun x hx=>by have:=hsu x hx; unfold small; omega) _ ⟨rfl,rfl,iff_bne (fun _=>alive) (fun h2=>?_)⟩
 refine r01_Fits_ok su s (by unfold small; omega) _ ⟨rfl,rfl,iff_not (iff_intro (fun h3=>?_) (fun _=>alive))⟩
 refine r01_Fits_ok su t (by unfold small; omega) _ ⟨rfl,rfl,iff_not (iff_intro (fun h4=>?_) (fun _=>alive))⟩
 have f1:=fits_size h3
 have f2:=fits_size h4
 rw [Zda]
 unfold Zb6
 refine r01_Apply_ok su s (by unfold lim; omega) _ ⟨rfl,rfl,poly_Value_ok l _ (by omega) _ ⟨rfl,rfl,r01_Apply_ok su t (by unfold lim; omega) _ ⟨rfl,rfl,poly_Value_ok l _ (by omega) _ ⟨rfl,rfl,?_⟩⟩⟩⟩
 refine iff_bne (fun _=>alive) (fun h5=>iff_bne (fun _=>alive) (fun h6=>?_))
 have v1:=valE_F hp (t:=Tm.app su s) h5
 have v2:=valE_F hp (t:=Tm.app su t) h6
 obtain ⟨i1,i2,i3⟩:=cmpT_inst hp h su (fun _=>0)
 rw [← v1,← v2] at i1 i2
 refine iff_dec (fun _=>alive) (fun h7=>?_)
 have h7:¬ (((valE l (Tm.app su s)).1:Nat):Int) > ((valE l (Tm.app su t)).1:Nat):=h7
 rcases i3 with g | g | g
 ·exact absurd g hn0
 ·have:=i2 g
  refine iff_beq (fun _=>iff_beq (fun _=>alive) (fun h8=>?_)) (fun h8=>absurd g h8)
  have h8:¬ (((valE l (Tm.app su s)).1:Nat):Int)=((valE l (Tm.app su t)).1:Nat):=h8
  omega
 ·have:=i1 g
  omega
end Go.Proofs.YthhnadeoioeniaaGreat
