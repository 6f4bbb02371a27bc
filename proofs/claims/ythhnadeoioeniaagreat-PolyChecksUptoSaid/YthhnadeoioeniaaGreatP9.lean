/-
  Texts SortL, AbsS, SortA, PolC, KitB, PolD, PolE, AbsK, V0 of this proof, joined.
-/
import Derived.Shelf.Sort.Plain
import Derived.Shelf.Slices.Clone
import Derived.Shelf.Slices.In.SortNone
import Derived.Test.YthhnadeoioeniaaGreatProg
import Derived.Test.YthhnadeoioeniaaGreatP8
namespace Go.Proofs.YthhnadeoioeniaaGreat
open Go.Shelf
def lays190_ren:Go.Shelf.Ren:=⟨fun | 190=>87 | 125=>90 | 258=>132 | 128=>145 | 129=>146 | 302=>172 | 303=>173 | 304=>174 | 305=>175 | 306=>176 | 307=>177 | 308=>178 | 309=>179 | 310=>180 | 333=>195 | 329=>184 | 330=>185 | 334=>196 | 335=>197 | 336=>198 | 344=>204 | n=>n,fun | 31=>26 | 9=>9 | 3=>3 | 46=>139 | 0=>0 | 51=>193 | 53=>31 | 4=>4 | 183=>187 | 182=>186 | 131=>155 | 5=>5 | 218=>222 | 222=>226 | 228=>236 | 229=>83 | n=>n,fun | n=>n⟩
theorem lays190:Go.Proofs.Lays.n190 Tryz.prog lays190_ren:={
 mixed:=by kernel_rfl
 f125:=Tryz.func90.trans (congrArg some (by kernel_rfl))
 f128:=Tryz.func145.trans (congrArg some (by kernel_rfl))
 f129:=Tryz.func146.trans (congrArg some (by kernel_rfl))
 f190:=Tryz.func87.trans (congrArg some (by kernel_rfl))
 f258:=Tryz.func132.trans (congrArg some (by kernel_rfl))
 f302:=Tryz.func172.trans (congrArg some (by kernel_rfl))
 f303:=Tryz.func173.trans (congrArg some (by kernel_rfl))
 f304:=Tryz.func174.trans (congrArg some (by kernel_rfl))
 f305:=Tryz.func175.trans (congrArg some (by kernel_rfl))
 f306:=Tryz.func176.trans (congrArg some (by kernel_rfl))
 f307:=Tryz.func177.trans (congrArg some (by kernel_rfl))
 f308:=Tryz.func178.trans (congrArg some (by kernel_rfl))
 f309:=Tryz.func179.trans (congrArg some (by kernel_rfl))
 f310:=Tryz.func180.trans (congrArg some (by kernel_rfl))
 f329:=Tryz.func184.trans (congrArg some (by kernel_rfl))
 f330:=Tryz.func185.trans (congrArg some (by kernel_rfl))
 f333:=Tryz.func195.trans (congrArg some (by kernel_rfl))
 f334:=Tryz.func196.trans (congrArg some (by kernel_rfl))
 f335:=Tryz.func197.trans (congrArg some (by kernel_rfl))
 f336:=Tryz.func198.trans (congrArg some (by kernel_rfl))
 f344:=Tryz.func204.trans (congrArg some (by kernel_rfl))
 t0:=Tryz.underlying0
 a0:=Tryz.isAgg0
 z0:=Tryz.sizeOf0
 v0:=Tryz.zeroValue0
 t3:=Tryz.underlying3
 a3:=Tryz.isAgg3
 z3:=Tryz.sizeOf3
 v3:=Tryz.zeroValue3
 t4:=Tryz.underlying4
 a4:=Tryz.isAgg4
 z4:=Tryz.sizeOf4
 v4:=Tryz.zeroValue4
 t5:=Tryz.underlying5
 a5:=Tryz.isAgg5
 z5:=Tryz.sizeOf5
 v5:=Tryz.zeroValue5
 t9:=Tryz.underlying9
 a9:=Tryz.isAgg9
 z9:=Tryz.sizeOf9
 v9:=Tryz.zeroValue9
 t31:=Tryz.underlying26
 a31:=Tryz.isAgg26
 z31:=Tryz.sizeOf26
 v31:=Tryz.zeroValue26
 t46:=Tryz.underlying139
 a46:=Tryz.isAgg139
 z46:=Tryz.sizeOf139
 v46:=Tryz.zeroValue139
 t51:=Tryz.underlying193
 a51:=Tryz.isAgg193
 z51:=Tryz.sizeOf193
 v51:=Tryz.zeroValue193
 t53:=Tryz.underlying31
 a53:=Tryz.isAgg31
 z53:=Tryz.sizeOf31
 v53:=Tryz.zeroValue31
 t131:=Tryz.underlying155
 a131:=Tryz.isAgg155
 z131:=Tryz.sizeOf155
 v131:=Tryz.zeroValue155
 t182:=Tryz.underlying186
 a182:=Tryz.isAgg186
 z182:=Tryz.sizeOf186
 v182:=Tryz.zeroValue186
 t183:=Tryz.underlying187
 a183:=Tryz.isAgg187
 z183:=Tryz.sizeOf187
 v183:=Tryz.zeroValue187
 t218:=Tryz.underlying222
 a218:=Tryz.isAgg222
 z218:=Tryz.sizeOf222
 v218:=Tryz.zeroValue222
 t222:=Tryz.underlying226
 a222:=Tryz.isAgg226
 z222:=Tryz.sizeOf226
 v222:=Tryz.zeroValue226
 t228:=Tryz.underlying236
 a228:=Tryz.isAgg236
 z228:=Tryz.sizeOf236
 v228:=Tryz.zeroValue236
 t229:=Tryz.underlying83
 a229:=Tryz.isAgg83
 z229:=Tryz.sizeOf83
 v229:=Tryz.zeroValue83 }
def laysNm215_ren:Go.Shelf.Ren:=⟨fun | 15=>171 | n=>n,fun | 22=>60 | 3=>3 | 4=>4 | n=>n,fun | n=>n⟩
theorem laysNm215:Go.Proofs.Lays2.n15 Tryz.prog laysNm215_ren:={
 mixed:=by kernel_rfl
 f15:=Tryz.func171.trans (congrArg some (by kernel_rfl))
 t3:=Tryz.underlying3
 a3:=Tryz.isAgg3
 z3:=Tryz.sizeOf3
 v3:=Tryz.zeroValue3
 t4:=Tryz.underlying4
 a4:=Tryz.isAgg4
 z4:=Tryz.sizeOf4
 v4:=Tryz.zeroValue4
 t22:=Tryz.underlying60
 a22:=Tryz.isAgg60
 z22:=Tryz.sizeOf60
 v22:=Tryz.zeroValue60
 i3:=by kernel_rfl }
end Go.Proofs.YthhnadeoioeniaaGreat
set_option linter.unusedVariables false
set_option linter.unusedSimpArgs false
namespace Go.Abs
variable {P:Program} {lf:TypeId→List K}
def encV (l:List UInt8):List V:=[V.s ⟨l.toArray⟩]
theorem putCells_get {α:Type} [Inhabited α] (enc:α→Value) (d:Array α) (c:Array Value) (k:Nat) (hk:k<d.size) (hc:d.size≤c.size):(Sort.putCells enc 0 d c).getD k undef=enc d[k]!:=by
 unfold Sort.putCells
 rw [Array.getD_eq_getD_getElem?,Array.getElem?_mapIdx,Array.getElem?_eq_getElem (by omega)]
 simp [hk]
theorem acalls_sort {f:FuncId} {e:TypeId} (T:Tab) (he:lfs T e=[.str])
  (hsort:∀ (blk off cap:Nat) (ss:List (List UInt8)) (w:World),Sort.Holds Proofs.encStr w blk off ss.toArray→blk<w.heap.size→ss.length<4611686018427387904→Calls P f #[.slice (some ⟨blk,off,none⟩) ss.length cap] w fun en w'=>en=.returned (.tuple #[])∧∃ n os,w'=Sort.grow (Sort.putRow Proofs.encStr (Sort.ahead w n) blk off (ss.mergeSort fun x y=>decide (x≤y)).toArray) os)
  (hnil:∀ (p:Option Addr) (cap:Nat) (w:World),Calls P f #[.slice p 0 cap] w fun e w'=>e=.returned (.tuple #[])∧w'=w)
  (ss:List (List UInt8)) (n:Nat) (hn:n=ss.length) (hlim:n≤lim) {Q:D→Heap→Prop} (hQ:Q (.tup []) [.row e ((ss.mergeSort fun x y=>decide (x≤y)).map encV)]) :
  ACalls P (lfs T) f [.osl (.own 0) n] [.row e (ss.map encV)] Q:=by
 intro S vs hH hL hla hmks hwf hlen hrep hloc
 obtain ⟨u0,rfl⟩:∃ u0,vs=[u0]:=by
  match vs,hlen with
  | [u0],_=>exact ⟨u0,rfl⟩
 have h0:RepD (lfs T) S (.osl (.own 0) n) u0:=hrep 0
 have hobj:S.obj (.own 0)=.row e (ss.map encV):=by show S.H.getD 0 .dead=_; rw [hH]; rfl
 have e0:u0=rowVal n (S.blk (.own 0)):=by
  cases h0 with
  | osl _ _ _ _ h=>exact (h e _ hobj).2 (by simp [hn])
 subst e0
 have hss:(ss.mergeSort fun x y=>decide (x≤y)).length=ss.length:=List.length_mergeSort _
 rcases hwf.row hobj with ⟨hb0,hxs0⟩ | ⟨b,c,arr,hb0,hheap,hsz,hnc,hcm,hxl,hrp⟩
 ·have hs0:ss=[]:=by simpa using hxs0
  subst hs0
  rw [hb0]
  have hn0:n=0:=by simpa using hn
  subst hn0
  refine (hnil none 0 S.w).mono ?_
  rintro en w' ⟨rfl,rfl⟩
  refine ⟨_,.tup [],S,rfl,rfl,hL,hla,hmks,hwf,.tup [] [] rfl (repD_of_list rfl fun j hj=>by simp at hj),rfl,Ext.refl S,?_⟩
  rw [hH]
  simpa using hQ
 ·rw [hb0]
  rw [he] at hsz hxl hrp
  have hnc':ss.length≤c:=by simpa using hnc
  have hblt:b<S.w.heap.size:=hwf.lt (.own 0) (b,c) hb0
  have hcell:∀ j,j<ss.length→arr.getD j undef=.string ⟨(ss[j]!).toArray⟩∧(ByteArray.mk (ss[j]!).toArray).size≤big:=fun j hj=>by
   have h1:=hrp j 0 (by simpa using hj) (by simp)
   have h2:((ss.map encV).getD j []).getD 0 V.none=V.s ⟨(ss[j]!).toArray⟩:=by
    have e5:(ss.map encV).getD j []=encV ss[j]!:=by
     rw [List.getD_eq_getElem?_getD,List.getElem?_map,List.getElem?_eq_getElem hj,getElem!_pos ss j hj]; rfl
    rw [e5]; rfl
   rw [h2] at h1
   simp only [List.length_singleton,Nat.mul_one,Nat.add_zero] at h1
   have h3:(([K.str]:List K).getD 0 .oth)=.str:=rfl
   rw [h3] at h1
   generalize arr.getD j undef=u at h1
   generalize hy:V.s ⟨(ss[j]!).toArray⟩=y at h1
   cases h1 with
   | str x hx=>subst hy; exact ⟨rfl,hx⟩
  have hH1:Sort.Holds Proofs.encStr S.w b 0 ss.toArray:=fun j hj=>by
   have hj':j<ss.length:=by simpa using hj
   have hja:j<arr.size:=by rw [hsz]; simp; omega
   refine ⟨?_,?_⟩
   ·rw [Nat.zero_add,cell_of hheap hja,(hcell j hj').1]
    simp [Proofs.encStr,getElem!_pos,hj']
   ·simp [World.frozen?,hheap]
  rw [hn]
  refine (hsort b 0 c ss S.w hH1 hblt (by unfold lim at hlim; omega)).mono ?_
  rintro en w' ⟨rfl,k,os,rfl⟩
  have hin:∀ x,x∈(ss.mergeSort fun x y=>decide (x≤y))→x∈ss:=fun x hx=>List.mem_mergeSort.1 hx
  generalize (ss.mergeSort fun x y=>decide (x≤y))=d at hQ hss hin
  have hheap':∀ i,i<S.w.heap.size→(Sort.grow (Sort.putRow Proofs.encStr (Sort.ahead S.w k) b 0 d.toArray) os).heap[i]?=if i=b then some (.cells (Sort.putCells Proofs.encStr 0 d.toArray arr) e (0,0)) else S.w.heap[i]?:=fun i hi=>by
   simp only [Sort.grow,Sort.putRow,Sort.mapBlock,Sort.ahead]
   rw [Array.getElem?_append_left (by simpa using hi),Array.getElem?_modify]
   by_cases h:b=i
   ·subst h; rw [if_pos rfl,if_pos rfl,hheap]; rfl
   ·rw [if_neg h,if_neg (fun h'=>h h'.symm)]
  generalize hw:Sort.grow (Sort.putRow Proofs.encStr (Sort.ahead S.w k) b 0 d.toArray) os=w' at hheap'
  have hwsz:S.w.heap.size≤w'.heap.size:=by
   rw [← hw]; simp [Sort.grow,Sort.putRow,Sort.mapBlock,Sort.ahead]
  have hpsz:(Sort.putCells Proofs.encStr 0 d.toArray arr).size=arr.size:=by simp [Sort.putCells]
  have hblkl:∀ i,S.blk (.loc i)=none:=fun i=>by show S.la.getD i none=none; rw [hla]; rfl
  have hrel:Rel (lfs T) ⟨[],[]⟩ S.H { tmps:=#[],defers:=[] } S:=⟨rfl,hL,rfl,by unfold marks; rw [hmks]; rfl,fun j=>by
   show RepD _ S (([]:List D).getD j .undef) _
   rw [List.getD_nil]; exact .undef _,hwf⟩
  have hinv:Inv S S:=⟨Ext.refl S,fun i bc h=>(by rw [hblkl] at h; cases h),fun d hd=>by rw [hmks] at hd; cases hd⟩
  have hhas:S.has (.own 0):=by show 0<S.H.length; rw [hH]; simp
  obtain ⟨j1,j2⟩:=S.upd_at hwf hhas (.row e (d.map encV)) (some (b,c)) w'
  obtain ⟨g1,g2,g3⟩:=Rel.upd hrel hinv (.own 0) (.row e (d.map encV)) (some (b,c)) w' hhas hwsz (fun i hi hne=>by
    rw [hheap' i hi,if_neg (fun h=>hne _ hb0 h.symm)]) (by rw [← hw]; rfl) (by rw [← hw]; rfl) (by rw [← hw]; rfl)
   (fun x hx=>by
    cases hx
    exact ⟨.inl ⟨_,hb0,rfl⟩,Nat.lt_of_lt_of_le hblt hwsz⟩)
   (by
    refine ⟨fun bc j3 _=>?_,fun e' xs' j3=>?_,fun e' xs' j3=>(by rw [j1] at j3; cases j3)⟩
    ·rw [j1] at j3; cases j3
    ·rw [j1] at j3; cases j3
     exact ⟨ss.map encV,hobj,by simp [hss],fun _=>by rw [j2,hb0]⟩)
   (fun _ _=>trivial)
   (fun mD mK=>.inr ⟨b,c,Sort.putCells Proofs.encStr 0 d.toArray arr,rfl,by rw [Sig.upd_w,hheap' b hblt,if_pos rfl],by rw [hpsz,he]; exact hsz,by simpa [hss] using hnc',hcm,fun i hi=>by
     rw [he,List.getD_eq_getElem?_getD,List.getElem?_map,List.getElem?_eq_getElem (by simpa using hi)]; rfl,
    fun i j hi hj=>by
     rw [Sig.upd_w,Sig.upd_F]
     rw [he] at hj ⊢
     have hi':i<d.length:=by simpa using hi
     have hj0:j=0:=by simpa using hj
     subst hj0
     have hmem:d[i]∈ss:=hin _ (List.getElem_mem hi')
     obtain ⟨q,hq,hqe⟩:=List.mem_iff_getElem.1 hmem
     have hb:=(hcell q hq).2
     rw [getElem!_pos ss q hq,hqe] at hb
     rw [show i*([K.str]:List K).length+0=i by simp,putCells_get _ _ _ _ (by simpa using hi') (by rw [hsz]; simp; omega)]
     have e6:(d.map encV).getD i []=encV d[i]:=by
      rw [List.getD_eq_getElem?_getD,List.getElem?_map,List.getElem?_eq_getElem hi']; rfl
     rw [e6]
     have:(encV d[i]).getD 0 V.none=V.s ⟨d[i].toArray⟩:=rfl
     rw [this]
     have e3:Proofs.encStr d.toArray[i]! = .string (V.s ⟨d[i].toArray⟩).str:=by
      simp [Proofs.encStr,getElem!_pos,hi',V.str]
     rw [e3]
     exact .str _ hb⟩)
  refine ⟨_,.tup [],S.upd (.own 0) (.row e (d.map encV)) (some (b,c)) w',rfl,Sig.upd_w _ _ _ _ _,hL,hla,hmks,g1.wf,.tup [] [] rfl (repD_of_list rfl fun j hj=>by simp at hj),rfl,g2.ext,?_⟩
  have:(S.upd (.own 0) (.row e (d.map encV)) (some (b,c)) w').H=[.row e (d.map encV)]:=by show S.H.set 0 _=_; rw [hH]; rfl
  rw [this]; exact hQ
end Go.Abs
namespace Go.Proofs.YthhnadeoioeniaaGreat
open Go Go.Abs
def bleL (x y:List UInt8):Bool:=decide (x≤y)
def sortL (l:List (List UInt8)):List (List UInt8):=l.mergeSort bleL
def byL (l:List UInt8):ByteArray:=⟨l.toArray⟩
theorem byL_data (x:ByteArray):byL x.data.toList=x:=by cases x; simp [byL]
theorem sort_len (l:List ByteArray):(sortL (l.map fun x=>x.data.toList)).length=l.length:=by simp [sortL,List.length_mergeSort]
theorem slices_Sort_ok (l:List ByteArray) (n:Nat) (hn:n=l.length) (hlim:n≤lim) {Q:D→Heap→Prop}
  (hQ:Q (.tup []) [.row Zc ((sortL (l.map fun x=>x.data.toList)).map fun x=>[V.s (byL x)])]):cl ZdG [.osl (.own 0) n] [.row Zc (l.map fun x=>[V.s x])] Q:=by
 have hQ':Q (.tup []) [.row Zc (List.map encV ((l.map fun x=>x.data.toList).mergeSort fun x y=>decide (x≤y)))]:=hQ
 have h:=acalls_sort (f:=ZdG) (e:=Zc) tab (by kernel_rfl)
  (fun blk off cap ss w h1 h2 h3=>Any.slices_Sort_string lays190 blk off cap ss w h1 h2 h3) (fun p cap w=>Any.slices_Sort_string_none lays190 p cap w)
  (l.map fun x=>x.data.toList) n (by simp [hn]) hlim (Q:=Q) hQ'
 have e:(l.map fun x=>x.data.toList).map encV=l.map fun x=>[V.s x]:=by
  rw [List.map_map]
  refine List.map_congr_left fun x _=>?_
  show [V.s (byL x.data.toList)]=_
  rw [byL_data]
 rw [e] at h
 exact h
end Go.Proofs.YthhnadeoioeniaaGreat
namespace Go.Proofs.YthhnadeoioeniaaGreat
abbrev Pm:=List (ByteArray×Nat)
def lookP (m:Pm) (k:ByteArray):Nat:=((m.find? fun p=>decide (k=p.1)).map (·.2)).getD 0
def setP:Pm→ByteArray→Nat→Pm
 | [],k,w=>[(k,w)]
 | p::m,k,w=>if k=p.1 then (k,w)::m else p::setP m k w
theorem lookP_cons (p:ByteArray×Nat) (m:Pm) (k:ByteArray):lookP (p::m) k=if k=p.1 then p.2 else lookP m k:=by
 unfold lookP
 rw [List.find?_cons]
 by_cases h:k=p.1
 ·rw [if_pos h,decide_eq_true h]; rfl
 ·rw [if_neg h,decide_eq_false h]
theorem lookP_none {m:Pm} {k:ByteArray} (h:∀ p∈m,p.1≠k):lookP m k=0:=by
 induction m with
 | nil=>rfl
 | cons p m ih=>rw [lookP_cons,if_neg fun e=>h p (by simp) e.symm,ih fun q hq=>h q (by simp [hq])]
theorem setP_none {m:Pm} {k:ByteArray} {w:Nat} (h:∀ p∈m,p.1≠k):setP m k w=m++[(k,w)]:=by
 induction m with
 | nil=>rfl
 | cons p m ih=>rw [setP,if_neg fun e=>h p (by simp) e.symm,ih fun q hq=>h q (by simp [hq])]; rfl
theorem look_set {m m':Pm} {k:ByteArray} {v:Nat} (hp:m.Perm ((k,v)::m')) (hn:∀ p∈m',p.1≠k) (w:Nat):lookP m k=v∧(setP m k w).Perm ((k,w)::m'):=by
 induction m generalizing m' with
 | nil=>have:=hp.length_eq; simp at this
 | cons p m ih =>
  rw [lookP_cons,setP]
  have hpin:p∈(k,v)::m':=hp.mem_iff.1 (by simp)
  by_cases h:k=p.1
  ·rw [if_pos h,if_pos h]
   rcases List.mem_cons.1 hpin with e | e
   ·subst e
    exact ⟨rfl,(hp.cons_inv).cons _⟩
   ·exact absurd h.symm (hn p e)
  ·rw [if_neg h,if_neg h]
   rcases List.mem_cons.1 hpin with e | e
   ·rw [e] at h; exact absurd rfl h
   ·obtain ⟨a,b,hab⟩:=List.append_of_mem e
    have hp2:m.Perm ((k,v)::(a++b)):=by
     refine List.Perm.cons_inv (a:=p) (hp.trans ?_)
     rw [hab]
     exact (List.perm_middle.cons _).trans (.swap _ _ _)
    obtain ⟨i1,i2⟩:=ih hp2 fun q hq=>hn q (by rw [hab]; simp only [List.mem_append,List.mem_cons] at hq ⊢; exact hq.elim .inl fun h=>.inr (.inr h))
    refine ⟨i1,?_⟩
    rw [hab]
    refine (i2.cons p).trans ((List.Perm.swap _ _ _).trans ?_)
    exact List.perm_middle.symm.cons _
def keyB (e:List Int):ByteArray:=byL (keyL 0 e)
theorem keyB_inj {n:Nat} {l m:List Int} (hn:n≤65536) (hl:ValidE n l) (hm:ValidE n m) (h:keyB l=keyB m):l=m:=by
 have h2:keyL 0 l=keyL 0 m:=by
  have:=congrArg (fun b:ByteArray=>b.data.toList) h
  simpa [keyB,byL] using this
 exact keyL_inj l m 0 (by rw [hl.1,hm.1]) hl.2 hm.2 (by rw [hl.1]; omega) h2
def entP (x:Mo):ByteArray×Nat:=(keyB x.exps,x.coef)
def RepM (m:Pm) (l:Mos):Prop:=m.Perm (l.map entP)
theorem RepM.length {m:Pm} {l:Mos} (h:RepM m l):m.length=l.length:=by have:=List.Perm.length_eq h; simpa using this
def SmallP (n:Nat) (l:Mos):Prop:=∀ x∈l,ValidE n x.exps∧x.coef≤maxV∧∀ e∈x.exps,e≤1048576
theorem any_perm {α:Type} {p:α→Bool} {l m:List α} (h:l.Perm m):l.any p=m.any p:=by
 rw [Bool.eq_iff_iff,List.any_eq_true,List.any_eq_true]
 exact ⟨fun ⟨x,hx,hp⟩=>⟨x,h.mem_iff.1 hx,hp⟩,fun ⟨x,hx,hp⟩=>⟨x,h.mem_iff.2 hx,hp⟩⟩
theorem largeP_perm {l m:Mos} (h:l.Perm m):largeP l=largeP m:=by
 unfold largeP
 rw [h.length_eq,any_perm h]
theorem bigMo_small {x:Mo} (h:x.coef≤maxV) (h2:∀ e∈x.exps,e≤1048576):bigMo x=false:=by
 unfold bigMo
 rw [Bool.or_eq_false_iff]
 refine ⟨decide_eq_false (by omega),?_⟩
 rw [List.any_eq_false]
 intro e he
 have:=h2 e he
 simpa using this
theorem small_any {n:Nat} {l:Mos} (h:SmallP n l):l.any bigMo=false:=by
 rw [List.any_eq_false]
 intro x hx
 obtain ⟨_,h2,h3⟩:=h x hx
 rw [bigMo_small h2 h3]; simp
theorem rep_add {n:Nat} (hn:n≤65536) {m:Pm} {l:Mos} {x:Mo} (hs:SortP l) (hr:RepM m l) (hl:SmallP n l) (hx:SmallP n [x]) :
  largeP (addP l x)=!(decide (lookP m (keyB x.exps)+x.coef≤maxV)&&decide ((setP m (keyB x.exps) (lookP m (keyB x.exps)+x.coef)).length≤4096)) ∧
  (lookP m (keyB x.exps)+x.coef≤maxV→RepM (setP m (keyB x.exps) (lookP m (keyB x.exps)+x.coef)) (addP l x)∧SmallP n (addP l x)):=by
 obtain ⟨v1,v2,v3⟩:=hx x (by simp)
 by_cases hin:∃ y∈l,y.exps=x.exps
 ·obtain ⟨y,hy,e⟩:=hin
  obtain ⟨l',p1,p2⟩:=addP_old hs y hy e
  have hyc:=(hl y hy).2.1
  have hl':∀ z∈l',z∈l:=fun z hz=>p1.mem_iff.2 (by simp [hz])
  have hnd:∀ z∈l',z.exps≠x.exps:=fun z hz he=>by
   have hp3:(y::l').Pairwise fun a b=>a.exps≠b.exps:=by
    refine (p1.pairwise_iff (fun {a b} h=>h.symm)).1 (hs.imp fun {a b} h he=>?_)
    rw [he,cmpE_self] at h; cases h
   exact (List.pairwise_cons.1 hp3).1 z hz (by rw [e,he])
  have hm:m.Perm ((keyB x.exps,y.coef)::l'.map entP):=by
   have:=List.Perm.trans hr (p1.map entP)
   rw [List.map_cons] at this
   have ey:entP y=(keyB x.exps,y.coef):=by unfold entP; rw [e]
   rw [ey] at this; exact this
  have hk:∀ p∈l'.map entP,p.1≠keyB x.exps:=fun p hp he=>by
   obtain ⟨z,hz,rfl⟩:=List.mem_map.1 hp
   exact hnd z hz (keyB_inj hn (hl z (hl' z hz)).1 v1 he)
  have hlk:lookP m (keyB x.exps)=y.coef:=(look_set hm hk 0).1
  rw [hlk]
  have hset:=(look_set hm hk (y.coef+x.coef)).2
  have hlen:(setP m (keyB x.exps) (y.coef+x.coef)).length=l'.length+1:=by rw [hset.length_eq]; simp
  have hpl:plusP y.coef x.coef=if y.coef+x.coef≤maxV then y.coef+x.coef else plusP y.coef x.coef:=by
   split
   ·unfold plusP; show min _ 4611686018427387905=_
    rename_i h
    have h:y.coef+x.coef≤4611686018427387904:=h
    omega
   ·rfl
  have hl'b:l'.any bigMo=false:=by
   rw [List.any_eq_false]
   intro z hz
   obtain ⟨_,h2,h3⟩:=hl z (hl' z hz)
   rw [bigMo_small h2 h3]; simp
  refine ⟨?_,fun hle=>⟨?_,?_⟩⟩
  ·rw [largeP_perm p2,hlen]
   unfold largeP
   rw [List.any_cons,hl'b,Bool.or_false,List.length_cons]
   by_cases hle:y.coef+x.coef≤maxV
   ·rw [decide_eq_true hle,Bool.true_and]
    rw [if_pos hle] at hpl
    rw [bigMo_small (x:=⟨plusP y.coef x.coef,x.exps⟩) (by show plusP _ _≤_; rw [hpl]; exact hle) v3,Bool.or_false,← decide_not]
    exact decide_eq_decide.2 (by omega)
   ·rw [decide_eq_false hle,Bool.false_and,Bool.not_false]
    have:bigMo ⟨plusP y.coef x.coef,x.exps⟩=true:=by
     unfold bigMo
     rw [Bool.or_eq_true]
     refine .inl (decide_eq_true ?_)
     show maxV<min (y.coef+x.coef) 4611686018427387905
     have h9:¬ y.coef+x.coef≤4611686018427387904:=hle
     show 4611686018427387904<_
     omega
    rw [this,Bool.or_true]
  ·rw [if_pos hle] at hpl
   refine hset.trans (List.Perm.symm ?_)
   have:=p2.map entP
   rw [List.map_cons,hpl] at this
   exact this
  ·rw [if_pos hle] at hpl
   intro z hz
   rcases List.mem_cons.1 (p2.mem_iff.1 hz) with rfl | hz
   ·exact ⟨v1,by show plusP _ _≤_; rw [hpl]; exact hle,v3⟩
   ·exact hl z (hl' z hz)
 ·have hne:∀ y∈l,y.exps≠x.exps:=fun y hy e=>hin ⟨y,hy,e⟩
  have p2:=addP_new hne
  have hk:∀ p∈m,p.1≠keyB x.exps:=fun p hp he=>by
   obtain ⟨z,hz,rfl⟩:=List.mem_map.1 (List.Perm.mem_iff hr |>.1 hp)
   exact hne z hz (keyB_inj hn (hl z hz).1 v1 he)
  rw [lookP_none hk,setP_none hk,Nat.zero_add]
  refine ⟨?_,fun hle=>⟨?_,?_⟩⟩
  ·rw [largeP_perm p2,decide_eq_true v2,Bool.true_and]
   unfold largeP
   rw [List.any_cons,small_any hl,bigMo_small v2 v3,Bool.or_false,Bool.or_false,← decide_not,List.length_cons,List.length_append,hr.length]
   exact decide_eq_decide.2 (by simp only [List.length_cons,List.length_nil]; omega)
  ·have h1:(m++[(keyB x.exps,x.coef)]).Perm ((keyB x.exps,x.coef)::m):=List.perm_append_singleton _ _
   refine h1.trans ((hr.cons _).trans ?_)
   have:=(p2.map entP).symm
   rw [List.map_cons] at this
   exact this
  ·intro z hz
   rcases List.mem_cons.1 (p2.mem_iff.1 hz) with rfl | hz
   ·exact ⟨v1,v2,v3⟩
   ·exact hl z hz
end Go.Proofs.YthhnadeoioeniaaGreat
namespace Go.Proofs.YthhnadeoioeniaaGreat
open Go.Abs
inductive Tm where
 | mk (name:ByteArray) (var:Bool) (args:List Tm)
namespace Tm
def name:Tm→ByteArray | mk n _ _=>n
def var:Tm→Bool | mk _ v _=>v
def args:Tm→List Tm | mk _ _ xs=>xs
theorem eta:∀ t:Tm,t=mk t.name t.var t.args | mk _ _ _=>rfl
theorem ext {s t:Tm} (h1:s.name=t.name) (h2:s.var=t.var) (h3:s.args=t.args):s=t:=by
 rw [eta s,eta t,h1,h2,h3]
mutual
def enc:Tm→List V | mk n v xs=>[.s n,.b v,.l (encL xs)]
def encL:List Tm→List (List V) | []=>[] | t::r=>t.enc::encL r
end
mutual
def size:Tm→Nat | mk _ _ xs=>1+sizeL xs
def sizeL:List Tm→Nat | []=>0 | t::r=>t.size+sizeL r
end
mutual
def depth:Tm→Nat | mk _ _ xs=>depthL xs+1
def depthL:List Tm→Nat | []=>0 | t::r=>max t.depth (depthL r)
end
mutual
def formed:Tm→Bool | mk n v xs=>if v then nameOk n false&&xs.isEmpty else nameOk n true&&decide (xs.length≤8)&&formedL xs
def formedL:List Tm→Bool | []=>true | t::r=>t.formed&&formedL r
end
theorem enc_eq:∀ t:Tm,t.enc=[.s t.name,.b t.var,.l (encL t.args)] | mk _ _ _=>rfl
theorem size_eq:∀ t:Tm,t.size=1+sizeL t.args | mk _ _ _=>rfl
theorem depth_eq:∀ t:Tm,t.depth=depthL t.args+1 | mk _ _ _=>rfl
theorem encL_eq:∀ (l:List Tm),encL l=l.map enc
 | []=>rfl
 | t::r=>by simp [encL,encL_eq r]
theorem encL_length (l:List Tm):(encL l).length=l.length:=by simp [encL_eq]
theorem encL_getD (l:List Tm) (k:Nat) (h:k<l.length):(encL l).getD k []=(l[k]).enc:=by
 rw [encL_eq,List.getD_eq_getElem?_getD,List.getElem?_map,List.getElem?_eq_getElem h]; rfl
theorem ind {p:Tm→Prop} (h:∀ t:Tm,(∀ a∈t.args,p a)→p t):∀ t,p t
 | mk n v xs=>h (mk n v xs) fun a ha=>ind h a
termination_by t=>SizeOf.sizeOf t
decreasing_by
 have:=List.sizeOf_lt_of_mem (show a∈xs from ha)
 simp; omega
theorem size_pos (t:Tm):1≤t.size:=by rw [size_eq]; omega
theorem sizeL_mem:∀ {l:List Tm} {a:Tm},a∈l→a.size≤sizeL l
 | t::r,a,h=>by
  rcases List.mem_cons.1 h with rfl | h
  ·simp [sizeL]
  ·have:=sizeL_mem h; simp [sizeL]; omega
theorem size_mem {t a:Tm} (h:a∈t.args):a.size<t.size:=by have:=sizeL_mem h; rw [size_eq t]; omega
theorem sizeL_append:∀ (l r:List Tm),sizeL (l++r)=sizeL l+sizeL r
 | [],r=>by simp [sizeL]
 | t::l,r=>by simp [sizeL,sizeL_append l r]; omega
theorem sizeL_take (l:List Tm) (k:Nat) (h:k<l.length):sizeL (l.take (k+1))=sizeL (l.take k)+l[k].size:=by
 rw [List.take_succ_eq_append_getElem h,sizeL_append]; simp [sizeL]
theorem sizeL_take_le (l:List Tm) (k:Nat):sizeL (l.take k)≤sizeL l:=by
 have:=sizeL_append (l.take k) (l.drop k)
 rw [List.take_append_drop] at this; omega
theorem length_sizeL:∀ (l:List Tm),l.length≤sizeL l
 | []=>by simp [sizeL]
 | t::r=>by have:=length_sizeL r; have:=size_pos t; simp [sizeL]; omega
theorem depthL_append:∀ (l r:List Tm),depthL (l++r)=max (depthL l) (depthL r)
 | [],r=>by simp [depthL]
 | t::l,r=>by simp [depthL,depthL_append l r,Nat.max_assoc]
theorem depthL_take (l:List Tm) (k:Nat) (h:k<l.length):depthL (l.take (k+1))=max (depthL (l.take k)) l[k].depth:=by
 rw [List.take_succ_eq_append_getElem h,depthL_append]; simp [depthL]
theorem depthL_le_sizeL {l:List Tm} (h:∀ a∈l,a.depth≤a.size):depthL l≤sizeL l:=by
 induction l with
 | nil=>simp [depthL]
 | cons t r ih =>
  have h1:=h t (by simp)
  have h2:=ih fun a ha=>h a (by simp [ha])
  simp [depthL,sizeL]; omega
theorem depth_le_size:∀ t:Tm,t.depth≤t.size:=ind fun t ih=>by
 have:=depthL_le_sizeL ih
 rw [depth_eq,size_eq]; omega
theorem formedL_eq:∀ (l:List Tm),formedL l=l.all formed
 | []=>rfl
 | t::r=>by simp [formedL,formedL_eq r]
theorem formed_eq:∀ t:Tm,t.formed=if t.var then nameOk t.name false&&t.args.isEmpty else nameOk t.name true&&decide (t.args.length≤8)&&t.args.all formed
 | mk n v xs=>by
  simp only [formed,name,var,args,formedL_eq]
  try rfl
def check (t:Tm):Int:=if t.formed then (if t.size≤4000∧t.depth≤200 then 0 else 3) else 4
def checkAll:List Tm→Int
 | []=>0
 | t::r=>if t.check=0 then checkAll r else t.check
theorem check_zero {t:Tm}:t.check=0↔t.formed=true∧t.size≤4000∧t.depth≤200:=by
 unfold check
 cases t.formed with
 | false=>simp
 | true=>by_cases h:t.size≤4000∧t.depth≤200 <;> simp [h]
def cmpI (a b:Int):Int:=if a<b then -1 else if b<a then 1 else 0
mutual
def cmp:Tm→Tm→Int
 | mk n v xs,mk m w ys =>
  if v≠w then (if v then -1 else 1)
  else if cmpN n m≠0 then cmpN n m
  else if cmpI xs.length ys.length≠0 then cmpI xs.length ys.length
  else cmpL xs ys
def cmpL:List Tm→List Tm→Int
 | t::r,s::q=>if cmp t s≠0 then cmp t s else cmpL r q
 | _,_=>0
end
def eqB (a b:Tm):Bool:=decide (cmp a b=0)
end Tm
abbrev tD (t:Tm):D:=.agg [.v .str (.s t.name),.v .bool (.b t.var),.v (.sl Zb) (.l (Tm.encL t.args))]
abbrev tsD (l:List Tm):D:=.v (.sl Zb) (.l (Tm.encL l))
end Go.Proofs.YthhnadeoioeniaaGreat
namespace Go.Proofs.YthhnadeoioeniaaGreat
theorem addP_bigm {m:Mo} (hb:bigMo m=true):∀ l:Mos,(addP l m).any bigMo=true
 | []=>by simp [addP,hb]
 | x::l=>by
  rcases cmpE_cases x.exps m.exps with g | g | g
  ·rw [addP_lt g,List.any_cons,addP_bigm hb l,Bool.or_true]
  ·rw [addP_eq g,List.any_cons,Bool.or_eq_true]
   left
   unfold bigMo at hb ⊢
   rw [Bool.or_eq_true] at hb ⊢
   refine hb.imp (fun h=>decide_eq_true ?_) (fun h=>by rw [cmpE_zero.1 g]; exact h)
   have h:4611686018427387904<m.coef:=of_decide_eq_true h
   show 4611686018427387904<min (x.coef+m.coef) 4611686018427387905
   omega
  ·rw [addP_gt g,List.any_cons,hb]; rfl
theorem addP_largem {m:Mo} (hb:bigMo m=true) (l:Mos):largeP (addP l m)=true:=by
 unfold largeP; rw [addP_bigm hb l,Bool.or_true]
theorem addsP_append (l a b:Mos):addsP l (a++b)=addsP (addsP l a) b:=List.foldl_append
theorem addsP_snoc (l a:Mos) (m:Mo):addsP l (a++[m])=addP (addsP l a) m:=by rw [addsP_append]; rfl
theorem mul_fail {a b pre rest:Mos} (hp:(pre++rest).Perm (pairsP a b)) (h:largeP (addsP [] pre)=true):mulP a b=none:=by
 unfold mulP
 rw [← addsP_perm hp [] (fun x hx=>pairsP_coef a b x (hp.mem_iff.1 hx)) (fun x hx=>by simp at hx),addsP_append,addsP_large h]; rfl
theorem mul_done {a b pre:Mos} (hp:pre.Perm (pairsP a b)) (h:largeP (addsP [] pre)=false):mulP a b=some (addsP [] pre):=by
 unfold mulP
 rw [← addsP_perm hp [] (fun x hx=>pairsP_coef a b x (hp.mem_iff.1 hx)) (fun x hx=>by simp at hx),h]; rfl
def expsOk (l:List Int):Bool:=l.all fun e=>decide (e≤1048576)
theorem expsOk_any (l:List Int):(l.any fun n=>decide (1048576<n))=!(expsOk l):=by
 unfold expsOk
 rw [List.all_eq_not_any_not,Bool.not_not]
 congr 1
 funext n
 rw [← decide_not]
 exact decide_eq_decide.2 (by omega)
theorem mulMo_big (x y:Mo):bigMo (mulMo x y)=!(expsOk (addE x.exps y.exps)&&decide (x.coef*y.coef≤maxV)):=by
 unfold bigMo
 show (decide (maxV<min (x.coef*y.coef) 4611686018427387905)||(addE x.exps y.exps).any _)=_
 rw [expsOk_any,Bool.not_and,Bool.or_comm]
 congr 1
 rw [← decide_not]
 refine decide_eq_decide.2 ?_
 show 4611686018427387904<min (x.coef*y.coef) 4611686018427387905↔¬ x.coef*y.coef≤4611686018427387904
 omega
theorem addE_valid {n:Nat}:∀ {l m:List Int},l.length=m.length→(∀ e∈l,0≤e∧e≤1048576)→(∀ e∈m,0≤e∧e≤1048576)→∀ e∈addE l m,0≤e∧e≤2097152
 | [],[],_,_,_,e,he=>by simp [addE] at he
 | [],_::_,h,_,_,_,_=>by simp at h
 | _::_,[],h,_,_,_,_=>by simp at h
 | a::l,b::m,h,h1,h2,e,he=>by
  simp only [addE,List.mem_cons] at he
  rcases he with rfl | he
  ·have:=h1 a (by simp)
   have:=h2 b (by simp)
   omega
  ·exact addE_valid (n:=n) (by simpa using h) (fun e he=>h1 e (by simp [he])) (fun e he=>h2 e (by simp [he])) e he
theorem mulMo_small {n:Nat} {x y:Mo} (hx:SmallP n [x]) (hy:SmallP n [y]) (h:bigMo (mulMo x y)=false):SmallP n [mulMo x y]∧(mulMo x y).coef=x.coef*y.coef:=by
 obtain ⟨x1,x2,x3⟩:=hx x (by simp)
 obtain ⟨y1,y2,y3⟩:=hy y (by simp)
 rw [mulMo_big] at h
 simp only [Bool.not_eq_false',Bool.and_eq_true,decide_eq_true_iff] at h
 have hc:(mulMo x y).coef=x.coef*y.coef:=by
  show min _ 4611686018427387905=_
  have h2:x.coef*y.coef≤4611686018427387904:=h.2
  omega
 refine ⟨fun z hz=>?_,hc⟩
 have hz:z=mulMo x y:=by simpa using hz
 subst hz
 have hlen:x.exps.length=y.exps.length:=by rw [x1.1,y1.1]
 have hv:=addE_valid (n:=n) hlen (fun e he=>⟨(x1.2 e he).1,x3 e he⟩) (fun e he=>⟨(y1.2 e he).1,y3 e he⟩)
 refine ⟨⟨by show (addE _ _).length=n; rw [addE_length _ _ hlen]; exact x1.1,fun e he=>?_⟩,by rw [hc]; exact h.2,fun e he=>?_⟩
 ·have:=hv e he; omega
 ·have:=List.all_eq_true.1 h.1 e he
  simpa using this
theorem keyL_nil:∀ (l:List Int) (i:Nat),(∀ e∈l,0≤e)→keyL i l=[]→∀ e∈l,e=0
 | [],_,_,_,e,he=>by simp at he
 | a::l,i,h,hk,e,he=>by
  rw [keyL] at hk
  have ha:=h a (by simp)
  by_cases a0:0<a
  ·rw [if_pos a0] at hk; simp [powL] at hk
  ·rw [if_neg a0,List.nil_append] at hk
   rcases List.mem_cons.1 he with rfl | he
   ·omega
   ·exact keyL_nil l (i+1) (fun e he=>h e (by simp [he])) hk e he
theorem addE_zero_left:∀ (l m:List Int),l.length=m.length→(∀ e∈l,e=0)→addE l m=m
 | [],[],_,_=>rfl
 | [],_::_,h,_=>by simp at h
 | _::_,[],h,_=>by simp at h
 | a::l,b::m,h,h0=>by
  have:=h0 a (by simp)
  rw [addE,addE_zero_left l m (by simpa using h) fun e he=>h0 e (by simp [he]),this]; simp
theorem addE_comm:∀ l m:List Int,addE l m=addE m l
 | [],[]=>rfl
 | [],_::_=>rfl
 | _::_,[]=>rfl
 | a::l,b::m=>by rw [addE,addE,addE_comm l m,Int.add_comm]
theorem skip0:∀ (l m:List Int) (i:Nat),l.length=m.length→(∀ e∈l,0≤e)→(∀ e∈m,0≤e)→keyL i l≠[] →
  ∃ j a l' b m',(0<a∨0<b)∧0≤a∧0≤b∧i≤j∧j+(l'.length+1)=i+l.length∧l'.length=m'.length∧(∀ e∈l',e∈l)∧(∀ e∈m',e∈m)∧a∈l∧b∈m ∧
   keyL i l=keyL j (a::l')∧keyL i m=keyL j (b::m')∧keyL i (addE l m)=keyL j (addE (a::l') (b::m'))∧expsOk (addE l m)=expsOk (addE (a::l') (b::m'))
 | [],_,_,_,_,_,h=>absurd rfl h
 | _::_,[],_,h,_,_,_=>by simp at h
 | a::l,b::m,i,hl,h1,h2,hk=>by
  have ha:=h1 a (by simp)
  have hb:=h2 b (by simp)
  by_cases h0:0<a∨0<b
  ·exact ⟨i,a,l,b,m,h0,ha,hb,Nat.le_refl _,by simp,by simpa using hl,fun e he=>by simp [he],fun e he=>by simp [he],by simp,by simp,rfl,rfl,rfl,rfl⟩
  ·have a0:a=0:=by omega
   have b0:b=0:=by omega
   subst a0 b0
   have e1:∀ r:List Int,keyL i (0::r)=keyL (i+1) r:=fun r=>by rw [keyL,if_neg (by omega),List.nil_append]
   rw [e1] at hk
   obtain ⟨j,a',l',b',m',g1,g2,g3,g4,g5,g6,g7,g8,g9,g10,g11,g12,g13,g14⟩:=skip0 l m (i+1) (by simpa using hl) (fun e he=>h1 e (by simp [he])) (fun e he=>h2 e (by simp [he])) hk
   refine ⟨j,a',l',b',m',g1,g2,g3,by omega,by rw [List.length_cons]; omega,g6,fun e he=>by simp [g7 e he],fun e he=>by simp [g8 e he],by simp [g9],by simp [g10],by rw [e1]; exact g11,by rw [e1]; exact g12,?_,?_⟩
   ·rw [addE]
    show keyL i (0::addE l m)=_
    rw [e1]; exact g13
   ·rw [← g14,addE]
    unfold expsOk
    rw [List.all_cons]; rfl
def zerosE (n:Nat):List Int:=List.replicate n 0
def unitE (n i:Nat):List Int:=(List.range n).map fun j=>if j=i then 1 else 0
def uV (vars:List ByteArray) (x:ByteArray):List Int:=vars.map fun y=>if y=x then 1 else 0
def vanP:List Int→List Mos→Bool
 | e::es,p::ps=>(decide (0<e)&&p.isEmpty)||vanP es ps
 | _,_=>false
def powP (p:Mos):Nat→Mos→Option Mos
 | 0,x=>some x
 | k+1,x=>(mulP x p).bind (powP p k)
def chainP:List Int→List Mos→Mos→Option Mos
 | e::es,p::ps,x=>(powP p e.toNat x).bind (chainP es ps)
 | _,_,x=>some x
def monoP (n:Nat) (m:Mo) (args:List Mos):Option Mos:=if vanP m.exps args then some [] else chainP m.exps args [⟨m.coef,zerosE n⟩]
def insertP (n:Nat) (args:List Mos):Mos→Mos→Option Mos
 | [],out=>some out
 | m::ms,out=>match monoP n m args with
  | none=>none
  | some x=>if largeP (addsP out x) then none else insertP n args ms (addsP out x)
structure Pl where
 name:ByteArray
 monos:Mos
abbrev Pls:=List Pl
def entPl (l:Pls) (x:ByteArray) (n:Nat):Mos×Bool:=match l.find? fun y=>decide (y.name=x) with
 | some y=>(y.monos,y.monos.isEmpty||decide ((y.monos.headD ⟨0,[]⟩).exps.length=n))
 | none=>((List.range n).reverse.map fun i=>⟨1,unitE n i⟩,true)
mutual
def polyT (l:Pls) (vars:List ByteArray):Tm→Option Mos
 | .mk x v xs=>if v then some [⟨1,uV vars x⟩] else match polyL l vars xs with
  | none=>none
  | some ps=>insertP vars.length ps (entPl l x xs.length).1 []
def polyL (l:Pls) (vars:List ByteArray):List Tm→Option (List Mos)
 | []=>some []
 | t::r=>match polyT l vars t with
  | none=>none
  | some p=>match polyL l vars r with
   | none=>none
   | some ps=>some (p::ps)
end
end Go.Proofs.YthhnadeoioeniaaGreat
set_option linter.unusedSectionVars false
namespace Go.Proofs.YthhnadeoioeniaaGreat
def monV:List Nat→List Int→Nat
 | v::vs,e::es=>v ^ e.toNat*monV vs es
 | _,_=>1
def moV (vs:List Nat) (x:Mo):Nat:=x.coef*monV vs x.exps
def evalP (vs:List Nat) (l:Mos):Nat:=(l.map (moV vs)).sum
theorem evalP_cons (vs:List Nat) (x:Mo) (l:Mos):evalP vs (x::l)=moV vs x+evalP vs l:=by unfold evalP; rw [List.map_cons,List.sum_cons]
theorem monV_addE:∀ (vs:List Nat) (l m:List Int),l.length=m.length→(∀ e∈l,0≤e)→(∀ e∈m,0≤e)→monV vs (addE l m)=monV vs l*monV vs m
 | [],l,m,_,_,_=>by cases l <;> cases m <;> rfl
 | v::vs,[],[],_,_,_=>rfl
 | _::_,[],_::_,h,_,_=>by simp at h
 | _::_,_::_,[],h,_,_=>by simp at h
 | v::vs,a::l,b::m,h,h1,h2=>by
  have ha:=h1 a (by simp)
  have hb:=h2 b (by simp)
  rw [addE,monV,monV,monV,monV_addE vs l m (by simpa using h) (fun e he=>h1 e (by simp [he])) (fun e he=>h2 e (by simp [he])),show (a+b).toNat=a.toNat+b.toNat by omega,Nat.pow_add]
  ac_rfl
theorem not_large_any {l:Mos} (h:largeP l=false):l.any bigMo=false:=by
 unfold largeP at h
 rw [Bool.or_eq_false_iff] at h
 exact h.2
theorem evalP_add (vs:List Nat) (m:Mo):∀ l:Mos,(addP l m).any bigMo=false→evalP vs (addP l m)=evalP vs l+moV vs m
 | [],_=>by show evalP vs [m]=evalP vs []+_; rw [evalP_cons]; simp [evalP]
 | x::l,h=>by
  rcases cmpE_cases x.exps m.exps with g | g | g
  ·rw [addP_lt g] at h ⊢
   rw [List.any_cons,Bool.or_eq_false_iff] at h
   rw [evalP_cons,evalP_cons,evalP_add vs m l h.2]; omega
  ·rw [addP_eq g] at h ⊢
   rw [List.any_cons,Bool.or_eq_false_iff] at h
   have h1:=h.1
   unfold bigMo at h1
   rw [Bool.or_eq_false_iff] at h1
   have h1:¬ 4611686018427387904<min (x.coef+m.coef) 4611686018427387905:=of_decide_eq_false h1.1
   have hc:plusP x.coef m.coef=x.coef+m.coef:=by show min _ 4611686018427387905=_; omega
   rw [evalP_cons,evalP_cons,hc]
   show (x.coef+m.coef)*monV vs x.exps+_=x.coef*monV vs x.exps+evalP vs l+m.coef*monV vs m.exps
   rw [cmpE_zero.1 g,Nat.add_mul]; omega
  ·rw [addP_gt g,evalP_cons]; omega
theorem evalP_adds (vs:List Nat):∀ (ms l:Mos),largeP (addsP l ms)=false→evalP vs (addsP l ms)=evalP vs l+evalP vs ms
 | [],l,_=>by show evalP vs l=_; simp [evalP]
 | m::ms,l,h=>by
  have h1:largeP (addP l m)=false:=by
   cases hl:largeP (addP l m) with
   | false=>rfl
   | true=>rw [show addsP l (m::ms)=addsP (addP l m) ms from rfl,addsP_large hl] at h; cases h
  show evalP vs (addsP (addP l m) ms)=_
  rw [evalP_adds vs ms _ h,evalP_add vs m l (not_large_any h1),evalP_cons]; omega
theorem adds_small:∀ (ms l:Mos),largeP (addsP l ms)=false→∀ x∈ms,bigMo x=false
 | [],_,_,x,hx=>by simp at hx
 | m::ms,l,h,x,hx=>by
  rcases List.mem_cons.1 hx with rfl | hx
  ·cases hb:bigMo x with
   | false=>rfl
   | true=>rw [show addsP l (x::ms)=addsP (addP l x) ms from rfl,addsP_large (addP_largem hb l)] at h; cases h
  ·exact adds_small ms _ h x hx
theorem evalP_flat (vs:List Nat) (f:Mo→Mos) (w:Mo→Nat):∀ l:Mos,(∀ x∈l,evalP vs (f x)=w x)→evalP vs (l.flatMap f)=(l.map w).sum
 | [],_=>rfl
 | x::l,h=>by
  rw [List.flatMap_cons,List.map_cons,List.sum_cons,← h x (by simp),← evalP_flat vs f w l fun y hy=>h y (by simp [hy])]
  unfold evalP
  rw [List.map_append,List.sum_append]
theorem sum_mul (c:Nat) (l:List Nat):(l.map fun x=>c*x).sum=c*l.sum:=by
 induction l with
 | nil=>rfl
 | cons a l ih=>rw [List.map_cons,List.sum_cons,List.sum_cons,ih,Nat.mul_add]
theorem evalP_mul {n:Nat} (vs:List Nat) {a b c:Mos} (ha:SmallP n a) (hb:SmallP n b) (h:mulP a b=some c):evalP vs c=evalP vs a*evalP vs b:=by
 unfold mulP at h
 split at h
 ·cases h
 ·rename_i hl
  cases h
  have hl:largeP (addsP [] (pairsP a b))=false:=by simpa using hl
  have hbig:=adds_small _ _ hl
  rw [evalP_adds vs _ _ hl]
  have h0:evalP vs []=0:=rfl
  rw [h0,Nat.zero_add]
  have hp:∀ x∈a,evalP vs (b.map (mulMo x))=evalP vs b*moV vs x:=fun x hx=>by
   have hxv:=ha x hx
   have e1:evalP vs (b.map (mulMo x))=((b.map (moV vs)).map fun y=>moV vs x*y).sum:=by
    unfold evalP
    rw [List.map_map,List.map_map]
    congr 1
    refine List.map_congr_left fun y hy=>?_
    have hyv:=hb y hy
    have hin:mulMo x y∈pairsP a b:=List.mem_flatMap.2 ⟨x,hx,List.mem_map.2 ⟨y,hy,rfl⟩⟩
    have hc:=(mulMo_small (n:=n) (x:=x) (y:=y) (fun z hz=>by have:z=x:=(by simpa using hz); rw [this]; exact hxv) (fun z hz=>by have:z=y:=(by simpa using hz); rw [this]; exact hyv) (hbig _ hin)).2
    show (mulMo x y).coef*monV vs (addE x.exps y.exps)=x.coef*monV vs x.exps*(y.coef*monV vs y.exps)
    rw [hc,monV_addE vs _ _ (by rw [hxv.1.1,hyv.1.1]) (fun e he=>(hxv.1.2 e he).1) fun e he=>(hyv.1.2 e he).1]
    ac_rfl
   rw [e1,sum_mul,Nat.mul_comm]; rfl
  unfold pairsP
  rw [evalP_flat vs _ (fun x=>evalP vs b*moV vs x) a hp]
  have e2:(a.map fun x=>evalP vs b*moV vs x)=(a.map (moV vs)).map fun y=>evalP vs b*y:=by rw [List.map_map]; rfl
  rw [e2,sum_mul,Nat.mul_comm]; rfl
structure HomE (n:Nat) (φ:List Int→List Int):Prop where
 cmp:∀ a b:List Int,a.length=n→b.length=n→cmpE (φ a) (φ b)=cmpE a b
 add:∀ a b:List Int,a.length=n→b.length=n→φ (addE a b)=addE (φ a) (φ b)
 ok:∀ a:List Int,a.length=n→((φ a).any fun e=>decide (1048576<e))=a.any fun e=>decide (1048576<e)
def mapMo (φ:List Int→List Int) (x:Mo):Mo:=⟨x.coef,φ x.exps⟩
def LenP (n:Nat) (l:Mos):Prop:=∀ x∈l,x.exps.length=n
section
variable {n:Nat} {φ:List Int→List Int} (H:HomE n φ)
include H
theorem hom_add {m:Mo} (hm:m.exps.length=n):∀ l:Mos,LenP n l→(addP l m).map (mapMo φ)=addP (l.map (mapMo φ)) (mapMo φ m)
 | [],_=>rfl
 | x::l,h=>by
  have hx:=h x (by simp)
  have hl:LenP n l:=fun y hy=>h y (by simp [hy])
  have hc:cmpE (mapMo φ x).exps (mapMo φ m).exps=cmpE x.exps m.exps:=H.cmp _ _ hx hm
  rw [List.map_cons]
  rcases cmpE_cases x.exps m.exps with g | g | g
  ·rw [addP_lt g,addP_lt (by rw [hc]; exact g),List.map_cons,hom_add hm l hl]
  ·rw [addP_eq g,addP_eq (by rw [hc]; exact g),List.map_cons]; rfl
  ·rw [addP_gt g,addP_gt (by rw [hc]; exact g),List.map_cons,List.map_cons]
theorem len_add {m:Mo} (hm:m.exps.length=n) {l:Mos} (hl:LenP n l):LenP n (addP l m):=fun x hx=>by
 rcases addP_mem x hx with h | ⟨y,hy,h⟩
 ·rw [h]; exact hm
 ·rw [← h]; exact hl y hy
theorem hom_adds:∀ (ms l:Mos),LenP n ms→LenP n l→(addsP l ms).map (mapMo φ)=addsP (l.map (mapMo φ)) (ms.map (mapMo φ))
 | [],_,_,_=>rfl
 | m::ms,l,h,hl=>by
  have hm:=h m (by simp)
  show (addsP (addP l m) ms).map _=addsP (addP (l.map _) (mapMo φ m)) (ms.map _)
  rw [hom_adds ms _ (fun y hy=>h y (by simp [hy])) (len_add H hm hl),hom_add H hm l hl]
theorem hom_large {l:Mos} (hl:LenP n l):largeP (l.map (mapMo φ))=largeP l:=by
 unfold largeP
 rw [List.length_map,List.any_map]
 congr 1
 rw [Bool.eq_iff_iff,List.any_eq_true,List.any_eq_true]
 have e:∀ x∈l,(bigMo ∘ mapMo φ) x=bigMo x:=fun x hx=>by
  show (decide (maxV<x.coef)||(φ x.exps).any _)=_
  rw [H.ok _ (hl x hx)]; rfl
 exact ⟨fun ⟨x,hx,h⟩=>⟨x,hx,by rw [← e x hx]; exact h⟩,fun ⟨x,hx,h⟩=>⟨x,hx,by rw [e x hx]; exact h⟩⟩
theorem hom_pairs {a b:Mos} (ha:LenP n a) (hb:LenP n b):(pairsP a b).map (mapMo φ)=pairsP (a.map (mapMo φ)) (b.map (mapMo φ))∧LenP n (pairsP a b):=by
 constructor
 ·unfold pairsP
  rw [List.map_flatMap,List.flatMap_map]
  have:∀ l:Mos,(∀ x∈l,x.exps.length=n)→(l.flatMap fun x=>(b.map (mulMo x)).map (mapMo φ))=l.flatMap fun x=>(b.map (mapMo φ)).map (mulMo (mapMo φ x)):=by
   intro l
   induction l with
   | nil=>intro _; rfl
   | cons x l ih =>
    intro h
    rw [List.flatMap_cons,List.flatMap_cons,ih fun y hy=>h y (by simp [hy]),List.map_map,List.map_map]
    congr 1
    refine List.map_congr_left fun y hy=>?_
    show (⟨_,φ (addE x.exps y.exps)⟩:Mo)=⟨_,addE (φ x.exps) (φ y.exps)⟩
    rw [H.add _ _ (h x (by simp)) (hb y hy)]; rfl
  exact this a ha
 ·intro x hx
  obtain ⟨y,hy,hx⟩:=List.mem_flatMap.1 hx
  obtain ⟨z,hz,rfl⟩:=List.mem_map.1 hx
  show (addE y.exps z.exps).length=n
  rw [addE_length _ _ (by rw [ha y hy,hb z hz]),ha y hy]
theorem hom_mul {a b:Mos} (ha:LenP n a) (hb:LenP n b):mulP (a.map (mapMo φ)) (b.map (mapMo φ))=(mulP a b).map (List.map (mapMo φ)):=by
 obtain ⟨h1,h2⟩:=hom_pairs H ha hb
 have h3:=hom_adds H (pairsP a b) [] h2 (fun x hx=>by simp at hx)
 have h4:LenP n (addsP [] (pairsP a b)):=by
  have:∀ (ms l:Mos),LenP n ms→LenP n l→LenP n (addsP l ms):=by
   intro ms
   induction ms with
   | nil=>intro l _ h; exact h
   | cons m ms ih=>intro l hm h; exact ih _ (fun x hx=>hm x (by simp [hx])) (len_add H (hm m (by simp)) h)
  exact this _ _ h2 fun x hx=>by simp at hx
 unfold mulP
 rw [← h1]
 have h3:addsP [] ((pairsP a b).map (mapMo φ))=(addsP [] (pairsP a b)).map (mapMo φ):=h3.symm
 rw [h3,hom_large H h4]
 cases largeP (addsP [] (pairsP a b)) <;> rfl
end
end Go.Proofs.YthhnadeoioeniaaGreat
namespace Go.Abs
inductive As:D→D→Prop
 | refl (d:D):As d d
 | nil (e:TypeId) (x:V):x.list=[]→As .nil (.v (.sl e) x)
 | agg (cs ds:List D):cs.length=ds.length→(∀ j,As (cs.getD j .undef) (ds.getD j .undef))→As (.agg cs) (.agg ds)
 | tup (cs ds:List D):cs.length=ds.length→(∀ j,As (cs.getD j .undef) (ds.getD j .undef))→As (.tup cs) (.tup ds)
theorem anyL_iff (p:Ref→Bool):∀ l:List D,D.anyL p l=false↔∀ j,D.anyR p (l.getD j .undef)=false
 | []=>by simp [D.anyL,D.anyR]
 | d::r=>by
  have ih:=anyL_iff p r
  constructor
  ·intro h j
   unfold D.anyL at h
   cases hd:D.anyR p d with
   | true=>rw [hd] at h; cases h
   | false =>
    rw [hd] at h
    cases j with
    | zero=>exact hd
    | succ j=>exact ih.1 h j
  ·intro h
   have h0:D.anyR p d=false:=h 0
   unfold D.anyL
   rw [h0]
   exact ih.2 fun j=>h (j+1)
theorem As.rep {lf:TypeId→List K} {S:Sig} {d d':D} (h:As d d'):∀ v,RepD lf S d v→D.local d=false→RepD lf S d' v∧D.local d'=false:=by
 induction h with
 | refl d=>exact fun v h h'=>⟨h,h'⟩
 | nil e x hx =>
  intro v h _
  cases h
  exact ⟨.v _ _ _ (.sl0 e x none 0 hx),rfl⟩
 | agg cs ds hl _ ih =>
  intro v h hn
  have hn:=(anyL_iff _ cs).1 hn
  cases h with
  | agg _ us h1 h2=>exact ⟨.agg ds us (hl▸h1) fun j=>(ih j _ (h2 j) (hn j)).1,(anyL_iff _ ds).2 fun j=>(ih j _ (h2 j) (hn j)).2⟩
 | tup cs ds hl _ ih =>
  intro v h hn
  have hn:=(anyL_iff _ cs).1 hn
  cases h with
  | tup _ us h1 h2=>exact ⟨.tup ds us (hl▸h1) fun j=>(ih j _ (h2 j) (hn j)).1,(anyL_iff _ ds).2 fun j=>(ih j _ (h2 j) (hn j)).2⟩
theorem ACalls.as {P:Program} {lf:TypeId→List K} {f:FuncId} {args:List D} {H:Heap} {Q:D→Heap→Prop} (h:ACalls P lf f args H (fun r H'=>∃ r',As r r'∧Q r' H')):ACalls P lf f args H Q :=
 fun S vs h1 h2 h3 h4 h5 h6 h7 h8=>(h S vs h1 h2 h3 h4 h5 h6 h7 h8).mono fun _ _ ⟨v,r,S',a,b,c,d,e0,e,f,g,i,r',j,k⟩=>⟨v,r',S',a,b,c,d,e0,e,(j.rep v f g).1,(j.rep v f g).2,i,k⟩
theorem As.last3 (a b:D) (e:TypeId):As (.agg [a,b,.nil]) (.agg [a,b,.v (.sl e) (.l [])]) :=
 .agg _ _ rfl fun j=>match j with
  | 0=>.refl _ | 1=>.refl _ | 2=>.nil e _ rfl | _+3=>.refl _
theorem As.pair {a a' b b':D} (h:As a a') (h':As b b'):As (.tup [a,b]) (.tup [a',b']) :=
 .tup _ _ rfl fun j=>match j with
  | 0=>h | 1=>h' | _+2=>.refl _
end Go.Abs
set_option maxRecDepth 100000
namespace Go.Proofs.YthhnadeoioeniaaGreat
open Go.Abs
def ZeX:Env:=envA [(3000008,ua 0 2 (ua 3 2 (ua 13 24 ([.dead 3,.dead 33,.plainT 11 Zc,.plainT 12 Za]))))] [] [] [] [8]
@[irreducible] def ZbK (Q:QD) (x5 x6 x7 x8 x9 x10 x11 x12:V):Prop :=
 joinM (evCode ZeX (fnAt [1,1,1,1,1,1,1] Tryz.f3)) ⟨un 2 (.skip::un 2 ((.v (.sl Zc) (x5))::(.v (.sl Za) (x6))::(.v (.int .i64) (x7))::(.v (.int .u64) (x8))::(.v (.int .i64) (x9))::(.v (.int .i64) (x10))::(.v (.sl Zc) (x11))::(.v (.sl Za) (x12))::un 24 (sk 52 ([])))),dd 89 ([])⟩ [] (endK ZeX Tryz.f3 Q)
def Zeu (Q:QD) (x5 x6 x7 x8 x9 x10 x11 x12:V):Prop :=
 iff (x10.int != (0:Int)) ((x5.list.length≤big→iff (((x5.list.length:Int)) == (0:Int)) ((x6.list.length≤big→iff (((x6.list.length:Int)) == (0:Int)) (iff (x7.int == x10.int) (iff (x8.int == (0:Int)) (iff (x9.int == x10.int) (cl Zck [] [] fun r1 H2=>r1=(.v .bool (r1.V))∧H2=[]∧True∧Q (.v .bool (r1.V)) []) (True∧Q (.v .bool (V.b false)) [])) (True∧Q (.v .bool (V.b false)) [])) (True∧Q (.v .bool (V.b false)) [])) (True∧Q (.v .bool (V.b false)) []))) (True∧Q (.v .bool (V.b false)) []))) (iff (x7.int == (0:Int)) (cl Zep [.v (.sl Zc) (x5),.v (.sl Zc) (x11)] [] fun r3 H4=>r3=(.v .bool (r3.V))∧H4=[]∧iff r3.V.bool (cl ZeR [.v (.sl Za) (x6),.v (.sl Za) (x12)] [] fun r5 H6=>r5=(.v .bool (r5.V))∧H6=[]∧iff r5.V.bool (iff (x9.int == (0:Int)) (cl Zf5 [.v (.sl Za) (x12)] [] fun r7 H8=>r7=(.v (.int .u64) (r7.V))∧H8=[]∧iff (x8.int == r7.V.int) (cl Zck [] [] fun r9 H10=>r9=(.v .bool (r9.V))∧H10=[]∧True∧Q (.v .bool (r9.V)) []) (True∧Q (.v .bool (V.b false)) [])) (True∧Q (.v .bool (V.b false)) [])) (True∧Q (.v .bool (V.b false)) [])) (True∧Q (.v .bool (V.b false)) [])) (True∧Q (.v .bool (V.b false)) []))
theorem Zfm (Q:QD) (x5 x6 x7 x8 x9 x10 x11 x12:V):ZbK Q x5 x6 x7 x8 x9 x10 x11 x12=Zeu Q x5 x6 x7 x8 x9 x10 x11 x12:=by kernel_rfl
def ZgT (a0:LL) (a1_0:ByteArray) (a1_1:Bool) (a1_2:LL) (Q:QD):Prop :=
 cl ZjX [.v (.sl Zf) (V.l a0),.agg [.v .str (V.s a1_0),.v .bool (V.b a1_1),.v (.sl Zb) (V.l a1_2)]] [] fun r1 H2=>r1=(.tup [.v (.sl Zc) ((r1.parts.headD .undef).V),.v (.sl Za) ((r1.parts.tail.headD .undef).V),.v (.int .i64) ((r1.parts.tail.tail.headD .undef).V)])∧H2=[]∧cl ZhK [.v (.sl Zf) (V.l a0),.agg [.v .str (V.s a1_0),.v .bool (V.b a1_1),.v (.sl Zb) (V.l a1_2)]] [] fun r3 H4=>r3=(.tup [.v (.int .u64) ((r3.parts.headD .undef).V),.v (.int .i64) ((r3.parts.tail.headD .undef).V)])∧H4=[]∧cl ZgE [.v (.sl Zf) (V.l a0)] [] fun r5 H6=>r5=(.v (.int .i64) (r5.V))∧H6=[]∧iff (r5.V.int == (0:Int)) (cl Zor [.v (.sl Zf) (V.l a0),.agg [.v .str (V.s a1_0),.v .bool (V.b a1_1),.v (.sl Zb) (V.l a1_2)]] [] fun r7 H8=>r7=(.tup [.v (.sl Zc) ((r7.parts.headD .undef).V),.v (.sl Za) ((r7.parts.tail.headD .undef).V),.v (.int .i64) ((r7.parts.tail.tail.headD .undef).V)])∧H8=[]∧ZbK Q ((r1.parts.headD .undef).V) ((r1.parts.tail.headD .undef).V) ((r1.parts.tail.tail.headD .undef).V) ((r3.parts.headD .undef).V) ((r3.parts.tail.headD .undef).V) ((r7.parts.tail.tail.headD .undef).V) ((r7.parts.headD .undef).V) ((r7.parts.tail.headD .undef).V)) (ZbK Q ((r1.parts.headD .undef).V) ((r1.parts.tail.headD .undef).V) ((r1.parts.tail.tail.headD .undef).V) ((r3.parts.headD .undef).V) ((r3.parts.tail.headD .undef).V) r5.V (V.l ([])) (V.l ([])))
theorem Zmg (a0:LL) (a1_0:ByteArray) (a1_1:Bool) (a1_2:LL) (Q:QD) (h:ZgT a0 a1_0 a1_1 a1_2 Q):cl Zg8 [.v (.sl Zf) (V.l a0),.agg [.v .str (V.s a1_0),.v .bool (V.b a1_1),.v (.sl Zb) (V.l a1_2)]] [] Q :=
 acalls2 (E:=ZeX) (envOk _ _ _ _ _) 0 Tryz.func3 (by kernel_rfl) h
def Zj9:Env:=envA [] [] [] [] []
def Zgl (a0 a1:LL) (Q:QD):Prop :=
 cl ZgE [.v (.sl Zf) (V.l a0)] [] fun r1 H2=>r1=(.v (.int .i64) (r1.V))∧H2=[]∧cl ZfF [.v (.sl Zf) (V.l a0),.v (.sl ZY) (V.l a1)] [] fun r3 H4=>r3=(.tup [.v .bool ((r3.parts.headD .undef).V),.v (.int .i64) ((r3.parts.tail.headD .undef).V)])∧H4=[]∧cl Zc4 [.v (.sl Zf) (V.l a0)] [] fun r5 H6=>r5=(.v (.int .i64) (r5.V))∧H6=[]∧iff (r5.V.int != r1.V.int) (True∧Q (.v .bool (V.b false)) []) (iff (r1.V.int != (0:Int)) (iff (!(((r3.parts.headD .undef).V).bool)) (iff ((((r3.parts.tail.headD .undef).V).int) == r1.V.int) (cl Zck [] [] fun r7 H8=>r7=(.v .bool (r7.V))∧H8=[]∧True∧Q (.v .bool (r7.V)) []) (True∧Q (.v .bool (V.b false)) [])) (True∧Q (.v .bool (V.b false)) [])) (cl Zf7 [.v (.sl Zf) (V.l a0),.v (.sl ZY) (V.l a1)] [] fun r9 H10=>r9=(.tup [.v .bool ((r9.parts.headD .undef).V),.v (.int .i64) ((r9.parts.tail.headD .undef).V)])∧H10=[]∧iff ((((r3.parts.headD .undef).V).bool) == (((r9.parts.headD .undef).V).bool)) (iff ((((r3.parts.tail.headD .undef).V).int) == (((r9.parts.tail.headD .undef).V).int)) (cl Zck [] [] fun r11 H12=>r11=(.v .bool (r11.V))∧H12=[]∧True∧Q (.v .bool (r11.V)) []) (True∧Q (.v .bool (V.b false)) [])) (True∧Q (.v .bool (V.b false)) [])))
theorem ZlG (a0 a1:LL) (Q:QD) (h:Zgl a0 a1 Q):cl ZgL [.v (.sl Zf) (V.l a0),.v (.sl ZY) (V.l a1)] [] Q :=
 acalls2 (E:=Zj9) (envOk _ _ _ _ _) 0 Tryz.func5 (by kernel_rfl) h
def Zkz:Env:=envA [] [] [] [] []
def ZgO (a0 a1:LL) (Q:QD):Prop :=
 cl ZiZ [.v (.sl Za) (V.l a0),.v (.sl Zp) (V.l a1)] [] fun r1 H2=>r1=(.tup [.v (.int .u64) ((r1.parts.headD .undef).V),.v (.int .i64) ((r1.parts.tail.headD .undef).V)])∧H2=[]∧cl Zk1 [.v (.sl Za) (V.l a0),.v (.sl Zp) (V.l a1)] [] fun r3 H4=>r3=(.tup [.v (.int .u64) ((r3.parts.headD .undef).V),.v (.int .i64) ((r3.parts.tail.headD .undef).V)])∧H4=[]∧iff ((((r1.parts.headD .undef).V).int) == (((r3.parts.headD .undef).V).int)) (iff ((((r1.parts.tail.headD .undef).V).int) == (((r3.parts.tail.headD .undef).V).int)) (cl Zck [] [] fun r5 H6=>r5=(.v .bool (r5.V))∧H6=[]∧True∧Q (.v .bool (r5.V)) []) (True∧Q (.v .bool (V.b false)) [])) (True∧Q (.v .bool (V.b false)) [])
theorem ZmK (a0 a1:LL) (Q:QD) (h:ZgO a0 a1 Q):cl ZhS [.v (.sl Za) (V.l a0),.v (.sl Zp) (V.l a1)] [] Q :=
 acalls2 (E:=Zkz) (envOk _ _ _ _ _) 0 Tryz.func6 (by kernel_rfl) h
def ZbC:Env:=envA [(13,ua 0 2 (ua 3 6 (ua 10 2 (ua 13 9 (ua 23 4 (ua 28 12 ((.undef 41)::ua 43 28 ((.dead 3)::(.dead 15)::da 50 2 ((.dead 59)::da 69 2 ([.ownT 12 75 Za])))))))))),(16,ua 0 2 (ua 3 6 (ua 10 2 ((.undef 14)::ua 16 6 (ua 23 4 (ua 28 12 ((.undef 41)::ua 43 28 ([.dead 59]))))))))] [] [] [(20,[⟨15,1,51⟩])] []
def Zhf (Q:QD):Post:=blockK 0 (seqJ ZbC (fnAt [1,1,1,1,1,1,1,1] Tryz.f10) (endK ZbC Tryz.f10 Q))
def ZoF (Q:QD) (m0:Nat):Post:=blockK 2 (seqJ ZbC (fnAt [1,1,1,1,1,1,1,0,1,0,0,1,1,0,1,1,1] Tryz.f10) (blockK 1 (loopK (adj (ZbC.adj 13)) (iter (adj (ZbC.adj 13)) (evCode ZbC (fnAt [1,1,1,1,1,1,1,0,1,0,0] Tryz.f10)) (Zhf Q) m0) (Zhf Q))))
@[irreducible] def ZfL (Q:QD) (m0 m1:Nat) (x9:V) (x12n:Nat) (x13 y15_0:V) (y15_1n:Nat) (y42_x:V) (y42n:Nat) (y42s:List Nat) (y51 y75:LL):Prop :=
 iter (adj (ZbC.adj 16)) (evCode ZbC (fnAt [1,1,1,1,1,1,1,0,1,0,0,1,1,0,1,1,0,0,0] Tryz.f10)) (ZoF Q m0) m1 ⟨un 2 (.skip::un 6 ((.v (.sl Zc) (x9))::un 2 ((.osl (.loc 75) x12n)::(.v .str (x13))::.undef::(.ptr (.loc 15) 0)::un 6 (.skip::un 4 (.skip::un 12 (.skip::.undef::(.ptr (.loc 42) 0)::un 28 (sk 4 ([])))))))),dd 15 ((.cells [.v (.int .u64) (y15_0),.osl (.loc 51) y15_1n])::dd 26 ((.iter Ze (.v (.mp Ze) (y42_x)) y42n y42s)::dd 8 ((.row ZA y51)::dd 23 ([.row Za y75]))))⟩ []
@[irreducible] def Zeg (Q:QD) (m0:Nat) (x9:V) (x12n:Nat) (y42_x:V) (y42n:Nat) (y42s:List Nat) (y75:LL):Prop :=
 iter (adj (ZbC.adj 13)) (evCode ZbC (fnAt [1,1,1,1,1,1,1,0,1,0,0] Tryz.f10)) (Zhf Q) m0 ⟨un 2 (.skip::un 6 ((.v (.sl Zc) (x9))::un 2 ((.osl (.loc 75) x12n)::un 9 (.skip::un 4 (.skip::un 12 (.skip::.undef::(.ptr (.loc 42) 0)::un 28 (sk 4 ([])))))))),dd 42 ((.iter Ze (.v (.mp Ze) (y42_x)) y42n y42s)::dd 32 ([.row Za y75]))⟩ []
def ZhU (Q:QD) (m0 m1:Nat) (x9:V) (x12n:Nat) (x13 y15_0:V) (y15_1n:Nat) (y42_x:V) (y42n:Nat) (y42s:List Nat) (y51 y75:LL):Prop :=
 iff (!(x13.str.toList == (ByteArray.mk #[]).toList)) (cl Zfi [.v .str (x13)] [] fun r1 H2=>r1=(.tup [.v (.int .i64) ((r1.parts.headD .undef).V),.v (.int .i64) ((r1.parts.tail.headD .undef).V)])∧H2=[]∧y51.length=y15_1n∧0≤(((r1.parts.headD .undef).V).int)∧(((r1.parts.headD .undef).V).int)<y15_1n∧y51.length=y15_1n∧((((r1.parts.headD .undef).V).int)).toNat<y15_1n∧0≤(6:Int)∧(6:Int)≤(x13.str.size:Int)∧(x13.str.size:Int)≤x13.str.size∧ZfL Q m0 m1 x9 x12n (V.s (x13.str.extract (6:Int).toNat ((x13.str.size:Int)).toNat)) y15_0 y15_1n y42_x y42n y42s (y51.set (((((r1.parts.headD .undef).V).int)).toNat) (setV (y51.getD (((((r1.parts.headD .undef).V).int)).toNat) []) 0 [(r1.parts.tail.headD .undef).V])) y75) (y15_1n=y51.length∧y75.length=x12n∧x12n+([[y15_0,V.l y51]]).length≤lim∧Zeg Q m0 x9 (x12n+([[y15_0,V.l y51]]).length) y42_x y42n y42s (y75++([[y15_0,V.l y51]])))
theorem ZnF (Q:QD) (m0 m1:Nat) (x9:V) (x12n:Nat) (x13 y15_0:V) (y15_1n:Nat) (y42_x:V) (y42n:Nat) (y42s:List Nat) (y51 y75:LL):ZfL Q m0 (m1+1) x9 x12n x13 y15_0 y15_1n y42_x y42n y42s y51 y75=ZhU Q m0 m1 x9 x12n x13 y15_0 y15_1n y42_x y42n y42s y51 y75:=by kernel_rfl
theorem Znn (Q:QD) (m0:Nat):RuleG10 (ZfL Q m0) (ZhU Q m0):=ruleG10 _ _ (ZnF Q m0)
def ZhV (Q:QD) (m0:Nat) (x9:V) (x12n:Nat) (y42_x:V) (y42n:Nat) (y42s:List Nat) (y75:LL):Prop :=
 y42_x.list.length=y42n∧((∀ j:Nat,j<y42n→j∈y42s)→cl ZcF [.osl (.own 0) x12n,.fn ZgB []] [.row Za y75] fun r2 H3=>r2=(.tup [])∧H3=[.row Za ((H3.headD .dead).xs)]∧(True∧(x12n=((H3.headD .dead).xs).length)∧True∧True)∧Q (.tup [.v (.sl Zc) (x9),.v (.sl Za) (V.l ((H3.headD .dead).xs)),.v (.int .i64) (V.i 0)]) [])∧(∀ j1:Nat,j1<y42n→j1 ∉ y42s→y42s.length<y42n→y42_x.list.length=y42n∧(x9.list.length≤big→0≤((x9.list.length:Int))∧((x9.list.length:Int))=((x9.list.length:Int))∧((x9.list.length:Int))≤lim∧∃ m1,ZfL Q m0 m1 x9 x12n ((y42_x.list.getD j1 []).headD V.none) (((y42_x.list.getD j1 []).drop 1).headD V.none) ((((x9.list.length:Int))).toNat) y42_x y42n (j1::y42s) (zeroRow [.int .i64] (((x9.list.length:Int))).toNat) y75))
theorem ZnO (Q:QD) (m0:Nat) (x9:V) (x12n:Nat) (y42_x:V) (y42n:Nat) (y42s:List Nat) (y75:LL):Zeg Q (m0+1) x9 x12n y42_x y42n y42s y75=ZhV Q m0 x9 x12n y42_x y42n y42s y75:=by kernel_rfl
theorem ZnH (Q:QD):RuleG6 (Zeg Q) (ZhV Q):=ruleG6 _ _ (ZnO Q)
def ZnQ (a0:LL) (a1_0:ByteArray) (a1_1:Bool) (a1_2:LL) (Q:QD):Prop :=
 cl Zc4 [.v (.sl Zf) (V.l a0)] [] fun r1 H2=>r1=(.v (.int .i64) (r1.V))∧H2=[]∧iff (r1.V.int != (0:Int)) ((True∧True∧True∧True)∧Q (.tup [.nil,.nil,.v (.int .i64) (r1.V)]) []) (cl ZZ [.agg [.v .str (V.s a1_0),.v .bool (V.b a1_1),.v (.sl Zb) (V.l a1_2)]] [] fun r3 H4=>r3=(.v (.int .i64) (r3.V))∧H4=[]∧iff (r3.V.int != (0:Int)) ((True∧True∧True∧True)∧Q (.tup [.nil,.nil,.v (.int .i64) (r3.V)]) []) (cl Z3 [.v (.sl Zb) (V.l ([[V.s a1_0,V.b a1_1,V.l a1_2]]))] [] fun r5 H6=>r5=(.v (.sl Zc) (r5.V))∧H6=[]∧cl Zw [.v (.sl Zf) (V.l a0),.agg [.v .str (V.s a1_0),.v .bool (V.b a1_1),.v (.sl Zb) (V.l a1_2)],.v (.sl Zc) (r5.V)] [] fun r7 H8=>r7=(.tup [.v (.mp Ze) ((r7.parts.headD .undef).V),.v (.int .i64) ((r7.parts.tail.headD .undef).V)])∧H8=[]∧iff ((((r7.parts.tail.headD .undef).V).int) != (0:Int)) ((True∧True∧True∧True)∧Q (.tup [.nil,.nil,.v (.int .i64) ((r7.parts.tail.headD .undef).V)]) []) (∃ m0,Zeg Q m0 r5.V 0 ((r7.parts.headD .undef).V) ((((r7.parts.headD .undef).V).list).length) (([]:List Nat)) (([]:List (List V))))))
theorem Zpr (a0:LL) (a1_0:ByteArray) (a1_1:Bool) (a1_2:LL) (Q:QD) (h:ZnQ a0 a1_0 a1_1 a1_2 Q):cl ZjX [.v (.sl Zf) (V.l a0),.agg [.v .str (V.s a1_0),.v .bool (V.b a1_1),.v (.sl Zb) (V.l a1_2)]] [] Q :=
 acalls2 (E:=ZbC) (envOk _ _ _ _ _) 1 Tryz.func10 (by kernel_rfl) h
def Znw:Env:=envA [] [] [6000007] [] []
def ZjA (a0:LL) (a1_0:ByteArray) (a1_1:Bool) (a1_2:LL) (Q:QD):Prop :=
 cl Zc4 [.v (.sl Zf) (V.l a0)] [] fun r1 H2=>r1=(.v (.int .i64) (r1.V))∧H2=[]∧iff (r1.V.int != (0:Int)) ((True∧True∧True)∧Q (.tup [.v (.int .u64) (V.i 0),.v (.int .i64) (r1.V)]) []) (cl ZZ [.agg [.v .str (V.s a1_0),.v .bool (V.b a1_1),.v (.sl Zb) (V.l a1_2)]] [] fun r3 H4=>r3=(.v (.int .i64) (r3.V))∧H4=[]∧iff (r3.V.int != (0:Int)) ((True∧True∧True)∧Q (.tup [.v (.int .u64) (V.i 0),.v (.int .i64) (r3.V)]) []) ((cl Z3 [.v (.sl Zb) (V.l ([[V.s a1_0,V.b a1_1,V.l a1_2]]))] [] fun r5 H6=>r5=(.v (.sl Zc) (r5.V))∧H6=[]∧cl Zw [.v (.sl Zf) (V.l a0),.agg [.v .str (V.s a1_0),.v .bool (V.b a1_1),.v (.sl Zb) (V.l a1_2)],.v (.sl Zc) (r5.V)] [] fun r7 H8=>r7=(.tup [.v (.mp Ze) ((r7.parts.headD .undef).V),.v (.int .i64) ((r7.parts.tail.headD .undef).V)])∧H8=[]∧(((True∧True∧True)∧Q (.tup [.v (.int .u64) ((mget [.str] [V.i 0] [V.s (ByteArray.mk #[])] (((r7.parts.headD .undef).V).list)).headD V.none),.v (.int .i64) ((r7.parts.tail.headD .undef).V)]) [])∧((True∧True∧True)∧Q (.tup [.v (.int .u64) ((mget [.str] [V.i 0] [V.s (ByteArray.mk #[])] (((r7.parts.headD .undef).V).list)).headD V.none),.v (.int .i64) ((r7.parts.tail.headD .undef).V)]) [])∧True)∧((True∧True∧True)∧Q (.tup [.v (.int .u64) ((mget [.str] [V.i 0] [V.s (ByteArray.mk #[])] (((r7.parts.headD .undef).V).list)).headD V.none),.v (.int .i64) ((r7.parts.tail.headD .undef).V)]) [])∧True)∧((cl Z3 [.v (.sl Zb) (V.l ([[V.s a1_0,V.b a1_1,V.l a1_2]]))] [] fun r9 H10=>r9=(.v (.sl Zc) (r9.V))∧H10=[]∧cl Zw [.v (.sl Zf) (V.l a0),.agg [.v .str (V.s a1_0),.v .bool (V.b a1_1),.v (.sl Zb) (V.l a1_2)],.v (.sl Zc) (r9.V)] [] fun r11 H12=>r11=(.tup [.v (.mp Ze) ((r11.parts.headD .undef).V),.v (.int .i64) ((r11.parts.tail.headD .undef).V)])∧H12=[]∧(((True∧True∧True)∧Q (.tup [.v (.int .u64) ((mget [.str] [V.i 0] [V.s (ByteArray.mk #[])] (((r11.parts.headD .undef).V).list)).headD V.none),.v (.int .i64) ((r11.parts.tail.headD .undef).V)]) [])∧((True∧True∧True)∧Q (.tup [.v (.int .u64) ((mget [.str] [V.i 0] [V.s (ByteArray.mk #[])] (((r11.parts.headD .undef).V).list)).headD V.none),.v (.int .i64) ((r11.parts.tail.headD .undef).V)]) [])∧True)∧((True∧True∧True)∧Q (.tup [.v (.int .u64) ((mget [.str] [V.i 0] [V.s (ByteArray.mk #[])] (((r11.parts.headD .undef).V).list)).headD V.none),.v (.int .i64) ((r11.parts.tail.headD .undef).V)]) [])∧True)∧((cl Z3 [.v (.sl Zb) (V.l ([[V.s a1_0,V.b a1_1,V.l a1_2]]))] [] fun r13 H14=>r13=(.v (.sl Zc) (r13.V))∧H14=[]∧cl Zw [.v (.sl Zf) (V.l a0),.agg [.v .str (V.s a1_0),.v .bool (V.b a1_1),.v (.sl Zb) (V.l a1_2)],.v (.sl Zc) (r13.V)] [] fun r15 H16=>r15=(.tup [.v (.mp Ze) ((r15.parts.headD .undef).V),.v (.int .i64) ((r15.parts.tail.headD .undef).V)])∧H16=[]∧(((True∧True∧True)∧Q (.tup [.v (.int .u64) ((mget [.str] [V.i 0] [V.s (ByteArray.mk #[])] (((r15.parts.headD .undef).V).list)).headD V.none),.v (.int .i64) ((r15.parts.tail.headD .undef).V)]) [])∧((True∧True∧True)∧Q (.tup [.v (.int .u64) ((mget [.str] [V.i 0] [V.s (ByteArray.mk #[])] (((r15.parts.headD .undef).V).list)).headD V.none),.v (.int .i64) ((r15.parts.tail.headD .undef).V)]) [])∧True)∧((True∧True∧True)∧Q (.tup [.v (.int .u64) ((mget [.str] [V.i 0] [V.s (ByteArray.mk #[])] (((r15.parts.headD .undef).V).list)).headD V.none),.v (.int .i64) ((r15.parts.tail.headD .undef).V)]) [])∧True)∧(cl Z3 [.v (.sl Zb) (V.l ([[V.s a1_0,V.b a1_1,V.l a1_2]]))] [] fun r17 H18=>r17=(.v (.sl Zc) (r17.V))∧H18=[]∧cl Zw [.v (.sl Zf) (V.l a0),.agg [.v .str (V.s a1_0),.v .bool (V.b a1_1),.v (.sl Zb) (V.l a1_2)],.v (.sl Zc) (r17.V)] [] fun r19 H20=>r19=(.tup [.v (.mp Ze) ((r19.parts.headD .undef).V),.v (.int .i64) ((r19.parts.tail.headD .undef).V)])∧H20=[]∧(((True∧True∧True)∧Q (.tup [.v (.int .u64) ((mget [.str] [V.i 0] [V.s (ByteArray.mk #[])] (((r19.parts.headD .undef).V).list)).headD V.none),.v (.int .i64) ((r19.parts.tail.headD .undef).V)]) [])∧((True∧True∧True)∧Q (.tup [.v (.int .u64) ((mget [.str] [V.i 0] [V.s (ByteArray.mk #[])] (((r19.parts.headD .undef).V).list)).headD V.none),.v (.int .i64) ((r19.parts.tail.headD .undef).V)]) [])∧True)∧((True∧True∧True)∧Q (.tup [.v (.int .u64) ((mget [.str] [V.i 0] [V.s (ByteArray.mk #[])] (((r19.parts.headD .undef).V).list)).headD V.none),.v (.int .i64) ((r19.parts.tail.headD .undef).V)]) [])∧True)∧True)∧True)∧True))
theorem ZoH (a0:LL) (a1_0:ByteArray) (a1_1:Bool) (a1_2:LL) (Q:QD) (h:ZjA a0 a1_0 a1_1 a1_2 Q):cl ZhK [.v (.sl Zf) (V.l a0),.agg [.v .str (V.s a1_0),.v .bool (V.b a1_1),.v (.sl Zb) (V.l a1_2)]] [] Q :=
 acalls2 (E:=Znw) (envOk _ _ _ _ _) 0 Tryz.func11 (by kernel_rfl) h
def Zbj:Env:=envA [(4,ua 2 3 (ua 8 3 (ua 14 25 ([.dead 4,.dead 20,.dead 34])))),(10,(.undef 0)::ua 2 3 (ua 6 33 (ua 42 10 ([.dead 6,.dead 47]))))] [(6,16,[],[])] [] [] []
def Znq (Q:QD):Post:=blockK 0 (seqJ Zbj (fnAt [1,1,1] Tryz.f12) (endK Zbj Tryz.f12 Q))
def ZnL (Q:QD):Post:=blockK 2 (seqJ Zbj (fnAt [1,1,1,1] Tryz.f12) (endK Zbj Tryz.f12 Q))
@[irreducible] def Zcy (Q:QD) (m1:Nat) (x39:LL) (x40 x41:Int):Prop :=
 iter (adj (Zbj.adj 10)) (evCode Zbj (fnAt [1,1,1,0,1,0,0] Tryz.f12)) (ZnL Q) m1 ⟨.undef::.skip::un 3 (.skip::un 33 ((.v (.sl Zf) (V.l x39))::(.v (.int .i64) (V.i x40))::(.v (.int .i64) (V.i x41))::un 10 ([]))),dd 52 ([])⟩ []
@[irreducible] def ZcB (Q:QD) (m0:Nat) (x0 x11:LL) (x12 x13:Int):Prop :=
 iter (adj (Zbj.adj 4)) (evCode Zbj (fnAt [1,1,0,1,0,0] Tryz.f12)) (Znq Q) m0 ⟨(.v (.sl Zf) (V.l x0))::.skip::un 3 (sk 3 (un 3 ((.v (.sl Zf) (V.l x11))::(.v (.int .i64) (V.i x12))::(.v (.int .i64) (V.i x13))::un 25 (sk 13 ([]))))),dd 52 ([])⟩ []
def Zm4 (Q:QD) (m1:Nat) (x39:LL) (x40 x41:Int):Prop :=
 iff (decide (x41<x40)) (0≤x41∧x41<x39.length∧cl Zd5 [.v (.sl Za) ((((x39.getD x41.toNat []).drop 0).tail).headD V.none)] [] fun r1 H2=>r1=(.v (.int .i64) (r1.V))∧H2=[]∧iff (r1.V.int != (0:Int)) (True∧Q (.v (.int .i64) (r1.V)) []) (Zcy Q m1 x39 x40 (IntKind.i64.wrap (x41+(1:Int))))) (True∧Q (.v (.int .i64) (V.i 0)) [])
theorem ZlI (Q:QD) (m1:Nat) (x39:LL) (x40 x41:Int):Zcy Q (m1+1) x39 x40 x41=Zm4 Q m1 x39 x40 x41:=by kernel_rfl
theorem Zkk (Q:QD) (x39:LL) (n:Nat) (hb:n≤big) (J:Nat→Prop)
  (step:∀ (k:Nat),k<n→J k→∀ K:Prop,(J (k+1)→K)→(0≤(k:Int)∧(k:Int)<x39.length∧cl Zd5 [.v (.sl Za) ((((x39.getD k []).drop 0).tail).headD V.none)] [] fun r1 H2=>r1=(.v (.int .i64) (r1.V))∧H2=[]∧iff (r1.V.int != (0:Int)) (True∧Q (.v (.int .i64) (r1.V)) []) (K)))
  (last:J n→(True∧Q (.v (.int .i64) (V.i 0)) []))
  (k:Nat) (le0:k≤n) (hj:J k):∃ m1,Zcy Q m1 x39 (n:Int) ((k:Int)):=by
 exact rangeG0 n hb J (fun m1 i=>Zcy Q m1 x39 (n:Int) i) (fun m1 i=>ZlI Q m1 x39 (n:Int) i) (fun k hl_ hj_ m_ ih_=>step k hl_ hj_ _ ih_) last k le0 hj
def Znt (Q:QD) (m0:Nat) (x0 x11:LL) (x12 x13:Int):Prop :=
 iff (decide (x13<x12)) (0≤x13∧x13<x11.length∧(∃ r1:D,cl Zb9 [.v .str (((x11.getD x13.toNat []).drop 0).headD V.none),.v .bool (V.b true)] [] (fun r H'=>r=(.v .bool (r1.V))∧H'=[])∧iff (!r1.V.bool) (True∧Q (.v (.int .i64) (V.i 4)) []) (iff (decide (x13 > (0:Int))) (0≤(IntKind.i64.wrap (x13 - (1:Int)))∧(IntKind.i64.wrap (x13 - (1:Int)))<x0.length∧cl ZbN [.v .str (((x0.getD ((IntKind.i64.wrap (x13 - (1:Int)))).toNat []).drop 0).headD V.none),.v .str (((x11.getD x13.toNat []).drop 0).headD V.none)] [] fun r2 H3=>r2=(.v (.int .i64) (r2.V))∧H3=[]∧iff (decide (r2.V.int≥(0:Int))) (True∧Q (.v (.int .i64) (V.i 4)) []) (ZcB Q m0 x0 x11 x12 (IntKind.i64.wrap (x13+(1:Int))))) (ZcB Q m0 x0 x11 x12 (IntKind.i64.wrap (x13+(1:Int))))))) ((x0.length≤big→∃ m1,Zcy Q m1 x0 ((x0.length:Int)) 0))
theorem ZlA (Q:QD) (m0:Nat) (x0 x11:LL) (x12 x13:Int):ZcB Q (m0+1) x0 x11 x12 x13=Znt Q m0 x0 x11 x12 x13:=by kernel_rfl
theorem Zki (Q:QD) (x0 x11:LL) (n:Nat) (hb:n≤big) (J:Nat→Prop)
  (step:∀ (k:Nat),k<n→J k→∀ K:Prop,(J (k+1)→K)→(0≤(k:Int)∧(k:Int)<x11.length∧(∃ r1:D,cl Zb9 [.v .str (((x11.getD k []).drop 0).headD V.none),.v .bool (V.b true)] [] (fun r H'=>r=(.v .bool (r1.V))∧H'=[])∧iff (!r1.V.bool) (True∧Q (.v (.int .i64) (V.i 4)) []) (iff (decide ((k:Int) > (0:Int))) (0≤(IntKind.i64.wrap ((k:Int) - (1:Int)))∧(IntKind.i64.wrap ((k:Int) - (1:Int)))<x0.length∧cl ZbN [.v .str (((x0.getD ((IntKind.i64.wrap ((k:Int) - (1:Int)))).toNat []).drop 0).headD V.none),.v .str (((x11.getD k []).drop 0).headD V.none)] [] fun r2 H3=>r2=(.v (.int .i64) (r2.V))∧H3=[]∧iff (decide (r2.V.int≥(0:Int))) (True∧Q (.v (.int .i64) (V.i 4)) []) (K)) (K)))))
  (last:J n→((x0.length≤big→∃ m1,Zcy Q m1 x0 ((x0.length:Int)) 0)))
  (k:Nat) (le0:k≤n) (hj:J k):∃ m0,ZcB Q m0 x0 x11 (n:Int) ((k:Int)):=by
 exact rangeG0 n hb J (fun m0 i=>ZcB Q m0 x0 x11 (n:Int) i) (fun m0 i=>ZlA Q m0 x0 x11 (n:Int) i) (fun k hl_ hj_ m_ ih_=>step k hl_ hj_ _ ih_) last k le0 hj
def ZoY (a0:LL) (Q:QD):Prop :=
 (a0.length≤big→iff (decide (((a0.length:Int)) > (256:Int))) (True∧Q (.v (.int .i64) (V.i 3)) []) ((a0.length≤big→∃ m0,ZcB Q m0 a0 a0 ((a0.length:Int)) 0)))
theorem Zo0 (a0:LL) (Q:QD) (h:ZoY a0 Q):cl ZgE [.v (.sl Zf) (V.l a0)] [] Q :=
 acalls2 (E:=Zbj) (envOk _ _ _ _ _) 0 Tryz.func12 (by kernel_rfl) h
def Zpp:Env:=envA [] [] [] [] []
def ZoO (a0:LL) (a1_0:ByteArray) (a1_1:Bool) (a1_2:LL) (Q:QD):Prop :=
 cl ZiK [.agg [.v .str (V.s a1_0),.v .bool (V.b a1_1),.v (.sl Zb) (V.l a1_2)]] [] fun r1 H2=>r1=(.v (.int .i64) (r1.V))∧H2=[]∧iff (r1.V.int != (0:Int)) ((True∧True∧True∧True)∧Q (.tup [.nil,.nil,.v (.int .i64) (r1.V)]) []) (cl ZkR [.v (.sl Zb) (V.l ([[V.s a1_0,V.b a1_1,V.l a1_2]]))] [] fun r3 H4=>r3=(.v (.sl Zc) (r3.V))∧H4=[]∧(r3.V.list.length≤big→iff (decide (((r3.V.list.length:Int)) > (64:Int))) ((True∧True∧True∧True)∧Q (.tup [.nil,.nil,.v (.int .i64) (V.i 3)]) []) (cl Zgf [.v (.sl Zf) (V.l a0),.agg [.v .str (V.s a1_0),.v .bool (V.b a1_1),.v (.sl Zb) (V.l a1_2)]] [] fun r5 H6=>r5=(.v .bool (r5.V))∧H6=[]∧iff (!r5.V.bool) ((True∧True∧True∧True)∧Q (.tup [.nil,.nil,.v (.int .i64) (V.i 10)]) []) (cl Zcs [.v (.sl Zf) (V.l a0),.agg [.v .str (V.s a1_0),.v .bool (V.b a1_1),.v (.sl Zb) (V.l a1_2)],.v (.sl Zc) (r3.V)] [] fun r7 H8=>r7=(.tup [.v (.sl Za) ((r7.parts.headD .undef).V),.v .bool ((r7.parts.tail.headD .undef).V)])∧H8=[]∧iff (!(((r7.parts.tail.headD .undef).V).bool)) ((True∧True∧True∧True)∧Q (.tup [.nil,.nil,.v (.int .i64) (V.i 3)]) []) ((True∧True∧True∧True)∧Q (.tup [.v (.sl Zc) (r3.V),.v (.sl Za) ((r7.parts.headD .undef).V),.v (.int .i64) (V.i 0)]) [])))))
theorem Zps (a0:LL) (a1_0:ByteArray) (a1_1:Bool) (a1_2:LL) (Q:QD) (h:ZoO a0 a1_0 a1_1 a1_2 Q):cl Zor [.v (.sl Zf) (V.l a0),.agg [.v .str (V.s a1_0),.v .bool (V.b a1_1),.v (.sl Zb) (V.l a1_2)]] [] Q :=
 acalls2 (E:=Zpp) (envOk _ _ _ _ _) 0 Tryz.func13 (by kernel_rfl) h
def ZnT:Env:=envA [] [(2,14,[],[]),(3,8,[],[]),(4,9,[],[])] [] [] []
def Zlk (Q:QD):Prop :=
 cl Ze7 [.v .str (V.s (ByteArray.mk #[120]))] [] fun r1 H2=>r1=(.agg [.v .str ((r1.cells.headD .undef).V),.v .bool ((r1.cells.tail.headD .undef).V),.v (.sl Zb) ((r1.cells.tail.tail.headD .undef).V)])∧H2=[]∧cl Ze7 [.v .str (V.s (ByteArray.mk #[121]))] [] fun r3 H4=>r3=(.agg [.v .str ((r3.cells.headD .undef).V),.v .bool ((r3.cells.tail.headD .undef).V),.v (.sl Zb) ((r3.cells.tail.tail.headD .undef).V)])∧H4=[]∧(∃ r5:D,cl Zef [.v .str (V.s (ByteArray.mk #[115])),.v (.sl Zb) (V.l ([[(r1.cells.headD .undef).V,(r1.cells.tail.headD .undef).V,(r1.cells.tail.tail.headD .undef).V]]))] [] (fun r H'=>r=(.agg [.v .str ((r5.cells.headD .undef).V),.v .bool ((r5.cells.tail.headD .undef).V),.v (.sl Zb) ((r5.cells.tail.tail.headD .undef).V)])∧H'=[])∧(∃ r6:D,cl Zef [.v .str (V.s (ByteArray.mk #[97,100,100])),.v (.sl Zb) (V.l ([[(r5.cells.headD .undef).V,(r5.cells.tail.headD .undef).V,(r5.cells.tail.tail.headD .undef).V],[(r3.cells.headD .undef).V,(r3.cells.tail.headD .undef).V,(r3.cells.tail.tail.headD .undef).V]]))] [] (fun r H'=>r=(.agg [.v .str ((r6.cells.headD .undef).V),.v .bool ((r6.cells.tail.headD .undef).V),.v (.sl Zb) ((r6.cells.tail.tail.headD .undef).V)])∧H'=[])∧(∃ r7:D,cl Zef [.v .str (V.s (ByteArray.mk #[97,100,100])),.v (.sl Zb) (V.l ([[(r1.cells.headD .undef).V,(r1.cells.tail.headD .undef).V,(r1.cells.tail.tail.headD .undef).V],[(r3.cells.headD .undef).V,(r3.cells.tail.headD .undef).V,(r3.cells.tail.tail.headD .undef).V]]))] [] (fun r H'=>r=(.agg [.v .str ((r7.cells.headD .undef).V),.v .bool ((r7.cells.tail.headD .undef).V),.v (.sl Zb) ((r7.cells.tail.tail.headD .undef).V)])∧H'=[])∧(∃ r8:D,cl Zef [.v .str (V.s (ByteArray.mk #[115])),.v (.sl Zb) (V.l ([[(r7.cells.headD .undef).V,(r7.cells.tail.headD .undef).V,(r7.cells.tail.tail.headD .undef).V]]))] [] (fun r H'=>r=(.agg [.v .str ((r8.cells.headD .undef).V),.v .bool ((r8.cells.tail.headD .undef).V),.v (.sl Zb) ((r8.cells.tail.tail.headD .undef).V)])∧H'=[])∧(∃ r9:D,cl Zfo [] [] (fun r H'=>r=(.v (.sl Zf) (r9.V))∧H'=[])∧(∃ r10:D,cl ZfW [.v (.sl Zf) (r9.V),.agg [.v .str ((r6.cells.headD .undef).V),.v .bool ((r6.cells.tail.headD .undef).V),.v (.sl Zb) ((r6.cells.tail.tail.headD .undef).V)],.agg [.v .str ((r8.cells.headD .undef).V),.v .bool ((r8.cells.tail.headD .undef).V),.v (.sl Zb) ((r8.cells.tail.tail.headD .undef).V)]] [] (fun r H'=>r=(.tup [.v (.int .i64) ((r10.parts.headD .undef).V),.v (.int .i64) ((r10.parts.tail.headD .undef).V)])∧H'=[])∧(∃ r11:D,cl Zfo [] [] (fun r H'=>r=(.v (.sl Zf) (r11.V))∧H'=[])∧(∃ r12:D,cl ZjX [.v (.sl Zf) (r11.V),.agg [.v .str ((r6.cells.headD .undef).V),.v .bool ((r6.cells.tail.headD .undef).V),.v (.sl Zb) ((r6.cells.tail.tail.headD .undef).V)]] [] (fun r H'=>r=(.tup [.v (.sl Zc) ((r12.parts.headD .undef).V),.v (.sl Za) ((r12.parts.tail.headD .undef).V),.v (.int .i64) ((r12.parts.tail.tail.headD .undef).V)])∧H'=[])∧iff ((((r10.parts.tail.headD .undef).V).int) == (0:Int)) (iff ((((r10.parts.headD .undef).V).int) == (2:Int)) (iff ((((r12.parts.tail.tail.headD .undef).V).int) == (0:Int)) (cl Zep [.v (.sl Zc) ((r12.parts.headD .undef).V),.v (.sl Zc) (V.l ([[V.s (ByteArray.mk #[120])],[V.s (ByteArray.mk #[121])]]))] [] fun r13 H14=>r13=(.v .bool (r13.V))∧H14=[]∧iff r13.V.bool (cl ZeR [.v (.sl Za) ((r12.parts.tail.headD .undef).V),.v (.sl Za) (V.l ([[V.i 3,V.l ([[V.i 0],[V.i 0]])],[V.i 1,V.l ([[V.i 0],[V.i 1]])],[V.i 2,V.l ([[V.i 1],[V.i 0]])]]))] [] fun r15 H16=>r15=(.v .bool (r15.V))∧H16=[]∧True∧Q (.v .bool (r15.V)) []) (True∧Q (.v .bool (V.b false)) [])) (True∧Q (.v .bool (V.b false)) [])) (True∧Q (.v .bool (V.b false)) [])) (True∧Q (.v .bool (V.b false)) [])))))))))
theorem Zo9 (Q:QD) (h:Zlk Q):cl Zck [] [] Q :=
 acalls2 (E:=ZnT) (envOk _ _ _ _ _) 0 Tryz.func14 (by kernel_rfl) h
def Zb4:Env:=envA [(4,ua 4 8 (ua 14 12 ([])))] [(6,8,[],[])] [] [] []
def Zj2 (Q:QD):Post:=blockK 0 (seqJ Zb4 (fnAt [1,1,1] Tryz.f15) (endK Zb4 Tryz.f15 Q))
@[irreducible] def ZbQ (Q:QD) (m0:Nat) (x0 x1:LL) (x12 x13:Int):Prop :=
 iter (adj (Zb4.adj 4)) (evCode Zb4 (fnAt [1,1,0,1,0,0] Tryz.f15)) (Zj2 Q) m0 ⟨(.v (.sl Zc) (V.l x0))::(.v (.sl Zc) (V.l x1))::sk 2 (un 8 ((.v (.int .i64) (V.i x12))::(.v (.int .i64) (V.i x13))::un 12 ([]))),dd 26 ([])⟩ []
def Zjy (Q:QD) (m0:Nat) (x0 x1:LL) (x12 x13:Int):Prop :=
 iff (decide (x13<x12)) (0≤x13∧x13<x0.length∧0≤x13∧x13<x1.length∧iff (!(((((x0.getD x13.toNat []).drop 0).headD V.none).str).toList == ((((x1.getD x13.toNat []).drop 0).headD V.none).str).toList)) (True∧Q (.v .bool (V.b false)) []) (ZbQ Q m0 x0 x1 x12 (IntKind.i64.wrap (x13+(1:Int))))) (True∧Q (.v .bool (V.b true)) [])
theorem Zh9 (Q:QD) (m0:Nat) (x0 x1:LL) (x12 x13:Int):ZbQ Q (m0+1) x0 x1 x12 x13=Zjy Q m0 x0 x1 x12 x13:=by kernel_rfl
theorem Zhp (Q:QD) (x0 x1:LL) (n:Nat) (hb:n≤big) (J:Nat→Prop)
  (step:∀ (k:Nat),k<n→J k→∀ K:Prop,(J (k+1)→K)→(0≤(k:Int)∧(k:Int)<x0.length∧0≤(k:Int)∧(k:Int)<x1.length∧iff (!(((((x0.getD k []).drop 0).headD V.none).str).toList == ((((x1.getD k []).drop 0).headD V.none).str).toList)) (True∧Q (.v .bool (V.b false)) []) (K)))
  (last:J n→(True∧Q (.v .bool (V.b true)) []))
  (k:Nat) (le0:k≤n) (hj:J k):∃ m0,ZbQ Q m0 x0 x1 (n:Int) ((k:Int)):=by
 exact rangeG0 n hb J (fun m0 i=>ZbQ Q m0 x0 x1 (n:Int) i) (fun m0 i=>Zh9 Q m0 x0 x1 (n:Int) i) (fun k hl_ hj_ m_ ih_=>step k hl_ hj_ _ ih_) last k le0 hj
def ZlL (a0 a1:LL) (Q:QD):Prop :=
 (a0.length≤big→(a1.length≤big→iff (((a0.length:Int)) != ((a1.length:Int))) (True∧Q (.v .bool (V.b false)) []) ((a0.length≤big→∃ m0,ZbQ Q m0 a0 a1 ((a0.length:Int)) 0))))
theorem ZmC (a0 a1:LL) (Q:QD) (h:ZlL a0 a1 Q):cl Zep [.v (.sl Zc) (V.l a0),.v (.sl Zc) (V.l a1)] [] Q :=
 acalls2 (E:=Zb4) (envOk _ _ _ _ _) 0 Tryz.func15 (by kernel_rfl) h
def Zb3:Env:=envA [(4,ua 4 8 (ua 14 28 ([.dead 38])))] [(6,22,[],[])] [] [] []
def Zkc (Q:QD):Post:=blockK 0 (seqJ Zb3 (fnAt [1,1,1] Tryz.f16) (endK Zb3 Tryz.f16 Q))
@[irreducible] def ZbJ (Q:QD) (m0:Nat) (x0 x1:LL) (x12 x13:Int):Prop :=
 iter (adj (Zb3.adj 4)) (evCode Zb3 (fnAt [1,1,0,1,0,0] Tryz.f16)) (Zkc Q) m0 ⟨(.v (.sl Za) (V.l x0))::(.v (.sl Za) (V.l x1))::sk 2 (un 8 ((.v (.int .i64) (V.i x12))::(.v (.int .i64) (V.i x13))::un 28 ([]))),dd 42 ([])⟩ []
def Zjt (Q:QD) (m0:Nat) (x0 x1:LL) (x12 x13:Int):Prop :=
 iff (decide (x13<x12)) (0≤x13∧x13<x0.length∧0≤x13∧x13<x1.length∧iff (((((x0.getD x13.toNat []).drop 0).headD V.none).int) != ((((x1.getD x13.toNat []).drop 0).headD V.none).int)) (True∧Q (.v .bool (V.b false)) []) (0≤x13∧x13<x0.length∧0≤x13∧x13<x1.length∧cl Zaf [.v (.sl ZA) (((x0.getD x13.toNat []).drop 1).headD V.none),.v (.sl ZA) (((x1.getD x13.toNat []).drop 1).headD V.none)] [] fun r1 H2=>r1=(.v (.int .i64) (r1.V))∧H2=[]∧iff (r1.V.int != (0:Int)) (True∧Q (.v .bool (V.b false)) []) (ZbJ Q m0 x0 x1 x12 (IntKind.i64.wrap (x13+(1:Int)))))) (True∧Q (.v .bool (V.b true)) [])
theorem Zie (Q:QD) (m0:Nat) (x0 x1:LL) (x12 x13:Int):ZbJ Q (m0+1) x0 x1 x12 x13=Zjt Q m0 x0 x1 x12 x13:=by kernel_rfl
theorem Zhm (Q:QD) (x0 x1:LL) (n:Nat) (hb:n≤big) (J:Nat→Prop)
  (step:∀ (k:Nat),k<n→J k→∀ K:Prop,(J (k+1)→K)→(0≤(k:Int)∧(k:Int)<x0.length∧0≤(k:Int)∧(k:Int)<x1.length∧iff (((((x0.getD k []).drop 0).headD V.none).int) != ((((x1.getD k []).drop 0).headD V.none).int)) (True∧Q (.v .bool (V.b false)) []) (0≤(k:Int)∧(k:Int)<x0.length∧0≤(k:Int)∧(k:Int)<x1.length∧cl Zaf [.v (.sl ZA) (((x0.getD k []).drop 1).headD V.none),.v (.sl ZA) (((x1.getD k []).drop 1).headD V.none)] [] fun r1 H2=>r1=(.v (.int .i64) (r1.V))∧H2=[]∧iff (r1.V.int != (0:Int)) (True∧Q (.v .bool (V.b false)) []) (K))))
  (last:J n→(True∧Q (.v .bool (V.b true)) []))
  (k:Nat) (le0:k≤n) (hj:J k):∃ m0,ZbJ Q m0 x0 x1 (n:Int) ((k:Int)):=by
 exact rangeG0 n hb J (fun m0 i=>ZbJ Q m0 x0 x1 (n:Int) i) (fun m0 i=>Zie Q m0 x0 x1 (n:Int) i) (fun k hl_ hj_ m_ ih_=>step k hl_ hj_ _ ih_) last k le0 hj
def ZlE (a0 a1:LL) (Q:QD):Prop :=
 (a0.length≤big→(a1.length≤big→iff (((a0.length:Int)) != ((a1.length:Int))) (True∧Q (.v .bool (V.b false)) []) ((a0.length≤big→∃ m0,ZbJ Q m0 a0 a1 ((a0.length:Int)) 0))))
theorem Zmr (a0 a1:LL) (Q:QD) (h:ZlE a0 a1 Q):cl ZeR [.v (.sl Za) (V.l a0),.v (.sl Za) (V.l a1)] [] Q :=
 acalls2 (E:=Zb3) (envOk _ _ _ _ _) 0 Tryz.func16 (by kernel_rfl) h
def Z5:Env:=envA [(2,(.undef 0)::(.undef 2)::ua 4 2 ((.undef 7)::ua 11 20 ([.dead 4,.dead 16]))),(6,(.undef 0)::(.undef 2)::(.undef 7)::ua 11 4 (ua 18 13 ([])))] [] [] [] []
def Ze1 (Q:QD):Post:=blockK 0 (seqJ Z5 (fnAt [1,1] Tryz.f17) (endK Z5 Tryz.f17 Q))
def ZkA (Q:QD) (m0:Nat):Post:=blockK 2 (seqJ Z5 (fnAt [1,0,1,0,0,1,1,0,0,1,1,1] Tryz.f17) (blockK 1 (seqJ Z5 (fnAt [1,0,1,0,0,1,1,1] Tryz.f17) (loopK (adj (Z5.adj 2)) (iter (adj (Z5.adj 2)) (evCode Z5 (fnAt [1,0,1,0,0] Tryz.f17)) (Ze1 Q) m0) (Ze1 Q)))))
@[irreducible] def ZaA (Q:QD) (m0 m1:Nat) (x5:Bool) (x8:LL) (x9 x10:Int) (x15:V) (x16 x17:Int) (y4_0 y4_1:V):Prop :=
 iter (adj (Z5.adj 6)) (evCode Z5 (fnAt [1,0,1,0,0,1,1,0,0,1,1,0,1,0,0] Tryz.f17)) (ZkA Q m0) m1 ⟨.undef::.skip::.undef::.skip::(.ptr (.loc 4) 0)::(.v .bool (V.b x5))::.skip::.undef::(.v (.sl Za) (V.l x8))::(.v (.int .i64) (V.i x9))::(.v (.int .i64) (V.i x10))::un 4 ((.v (.sl ZA) (x15))::(.v (.int .i64) (V.i x16))::(.v (.int .i64) (V.i x17))::un 13 ([])),dd 4 ((.cells [.v (.int .u64) (y4_0),.v (.sl ZA) (y4_1)])::dd 26 ([]))⟩ []
@[irreducible] def Zaz (Q:QD) (m0:Nat) (x8:LL) (x9 x10:Int):Prop :=
 iter (adj (Z5.adj 2)) (evCode Z5 (fnAt [1,0,1,0,0] Tryz.f17)) (Ze1 Q) m0 ⟨.undef::.skip::.undef::.skip::un 2 (.skip::.undef::(.v (.sl Za) (V.l x8))::(.v (.int .i64) (V.i x9))::(.v (.int .i64) (V.i x10))::un 20 ([])),dd 31 ([])⟩ []
def Zlg (Q:QD) (m0 m1:Nat) (x5:Bool) (x8:LL) (x9 x10:Int) (x15:V) (x16 x17:Int) (y4_0 y4_1:V):Prop :=
 iff (decide (x17<x16)) (0≤x17∧x17<x15.list.length∧iff x5 (ZaA Q m0 m1 (((((x15.list.getD x17.toNat []).drop 0).headD V.none).int) == (0:Int)) x8 x9 x10 x15 x16 (IntKind.i64.wrap (x17+(1:Int))) y4_0 y4_1) (ZaA Q m0 m1 false x8 x9 x10 x15 x16 (IntKind.i64.wrap (x17+(1:Int))) y4_0 y4_1)) (iff x5 (True∧Q (.v (.int .u64) (y4_0)) []) (Zaz Q m0 x8 x9 (IntKind.i64.wrap (x10+(1:Int)))))
theorem ZiP (Q:QD) (m0 m1:Nat) (x5:Bool) (x8:LL) (x9 x10:Int) (x15:V) (x16 x17:Int) (y4_0 y4_1:V):ZaA Q m0 (m1+1) x5 x8 x9 x10 x15 x16 x17 y4_0 y4_1=Zlg Q m0 m1 x5 x8 x9 x10 x15 x16 x17 y4_0 y4_1:=by kernel_rfl
theorem Zh6 (Q:QD) (m0:Nat) (x8:LL) (x9 x10:Int) (x15 y4_0 y4_1:V) (n:Nat) (hb:n≤big) (J:Nat→Bool→Prop)
  (step:∀ (k:Nat) (x5:Bool),k<n→J k x5→∀ K:Bool→Prop,(∀ (x5':Bool),J (k+1) x5'→K x5')→(0≤(k:Int)∧(k:Int)<x15.list.length∧iff x5 (K (((((x15.list.getD k []).drop 0).headD V.none).int) == (0:Int))) (K false)))
  (last:∀ (x5:Bool),J n x5→(iff x5 (True∧Q (.v (.int .u64) (y4_0)) []) (Zaz Q m0 x8 x9 (IntKind.i64.wrap (x10+(1:Int))))))
  (k:Nat) (x5:Bool) (le0:k≤n) (hj:J k x5):∃ m1,ZaA Q m0 m1 x5 x8 x9 x10 x15 (n:Int) ((k:Int)) y4_0 y4_1:=by
 exact rangeG1 n hb J (fun m1 i x5=>ZaA Q m0 m1 x5 x8 x9 x10 x15 (n:Int) i y4_0 y4_1) (fun m1 i x5=>ZiP Q m0 m1 x5 x8 x9 x10 x15 (n:Int) i y4_0 y4_1) (fun k x5 hl_ hj_ m_ ih_=>step k x5 hl_ hj_ _ ih_) last k x5 le0 hj
def ZkE (Q:QD) (m0:Nat) (x8:LL) (x9 x10:Int):Prop :=
 iff (decide (x10<x9)) (0≤x10∧x10<x8.length∧((((((x8.getD x10.toNat []).drop 0).tail).headD V.none).list).length≤big→∃ m1,ZaA Q m0 m1 true x8 x9 x10 ((((x8.getD x10.toNat []).drop 0).tail).headD V.none) (((((((x8.getD x10.toNat []).drop 0).tail).headD V.none).list).length:Int)) 0 (((x8.getD x10.toNat []).drop 0).headD V.none) ((((x8.getD x10.toNat []).drop 0).tail).headD V.none))) (True∧Q (.v (.int .u64) (V.i 0)) [])
theorem Zjd (Q:QD) (m0:Nat) (x8:LL) (x9 x10:Int):Zaz Q (m0+1) x8 x9 x10=ZkE Q m0 x8 x9 x10:=by kernel_rfl
theorem Zh1 (Q:QD) (x8:LL) (n:Nat) (hb:n≤big) (J:Nat→Prop)
  (step:∀ (k:Nat),k<n→J k→∀ m0:Nat,(J (k+1)→Zaz Q m0 x8 (n:Int) (IntKind.i64.wrap ((k:Int)+(1:Int))))→(0≤(k:Int)∧(k:Int)<x8.length∧((((((x8.getD k []).drop 0).tail).headD V.none).list).length≤big→∃ m1,ZaA Q m0 m1 true x8 (n:Int) (k:Int) ((((x8.getD k []).drop 0).tail).headD V.none) (((((((x8.getD k []).drop 0).tail).headD V.none).list).length:Int)) 0 (((x8.getD k []).drop 0).headD V.none) ((((x8.getD k []).drop 0).tail).headD V.none))))
  (last:J n→(True∧Q (.v (.int .u64) (V.i 0)) []))
  (k:Nat) (le0:k≤n) (hj:J k):∃ m0,Zaz Q m0 x8 (n:Int) ((k:Int)):=by
 exact rangeG0 n hb J (fun m0 i=>Zaz Q m0 x8 (n:Int) i) (fun m0 i=>Zjd Q m0 x8 (n:Int) i) (fun k hl_ hj_ m_ ih_=>step k hl_ hj_ m_ ih_) last k le0 hj
def ZmI (a0:LL) (Q:QD):Prop :=
 (a0.length≤big→∃ m0,Zaz Q m0 a0 ((a0.length:Int)) 0)
theorem Zne (a0:LL) (Q:QD) (h:ZmI a0 Q):cl Zf5 [.v (.sl Za) (V.l a0)] [] Q :=
 acalls2 (E:=Z5) (envOk _ _ _ _ _) 0 Tryz.func17 (by kernel_rfl) h
def ZlU:Env:=envA [] [] [6000007] [] []
def ZhR (a0:LL) (a1_0:ByteArray) (a1_1:Bool) (a1_2:LL) (a2_0:ByteArray) (a2_1:Bool) (a2_2:LL) (Q:QD):Prop :=
 cl Zc4 [.v (.sl Zf) (V.l a0)] [] fun r1 H2=>r1=(.v (.int .i64) (r1.V))∧H2=[]∧iff (r1.V.int != (0:Int)) ((True∧True∧True)∧Q (.tup [.v (.int .i64) (V.i 0),.v (.int .i64) (r1.V)]) []) (cl ZZ [.agg [.v .str (V.s a1_0),.v .bool (V.b a1_1),.v (.sl Zb) (V.l a1_2)]] [] fun r3 H4=>r3=(.v (.int .i64) (r3.V))∧H4=[]∧iff (r3.V.int != (0:Int)) ((True∧True∧True)∧Q (.tup [.v (.int .i64) (V.i 0),.v (.int .i64) (r3.V)]) []) ((cl Z3 [.v (.sl Zb) (V.l ([[V.s a1_0,V.b a1_1,V.l a1_2]]))] [] fun r5 H6=>r5=(.v (.sl Zc) (r5.V))∧H6=[]∧cl Zw [.v (.sl Zf) (V.l a0),.agg [.v .str (V.s a1_0),.v .bool (V.b a1_1),.v (.sl Zb) (V.l a1_2)],.v (.sl Zc) (r5.V)] [] fun r7 H8=>r7=(.tup [.v (.mp Ze) ((r7.parts.headD .undef).V),.v (.int .i64) ((r7.parts.tail.headD .undef).V)])∧H8=[]∧((iff ((((r7.parts.tail.headD .undef).V).int) != (0:Int)) ((True∧True∧True)∧Q (.tup [.v (.int .i64) (V.i 0),.v (.int .i64) ((r7.parts.tail.headD .undef).V)]) []) (cl ZZ [.agg [.v .str (V.s a2_0),.v .bool (V.b a2_1),.v (.sl Zb) (V.l a2_2)]] [] fun r9 H10=>r9=(.v (.int .i64) (r9.V))∧H10=[]∧iff (r9.V.int != (0:Int)) ((True∧True∧True)∧Q (.tup [.v (.int .i64) (V.i 0),.v (.int .i64) (r9.V)]) []) (cl ZV [.v (.sl Zf) (V.l a0),.agg [.v .str (V.s a1_0),.v .bool (V.b a1_1),.v (.sl Zb) (V.l a1_2)],.agg [.v .str (V.s a2_0),.v .bool (V.b a2_1),.v (.sl Zb) (V.l a2_2)]] [] fun r11 H12=>r11=(.tup [.v (.int .i64) ((r11.parts.headD .undef).V),.v (.int .i64) ((r11.parts.tail.headD .undef).V)])∧H12=[]∧(True∧True∧True)∧Q (.tup [.v (.int .i64) ((r11.parts.headD .undef).V),.v (.int .i64) ((r11.parts.tail.headD .undef).V)]) [])))∧(iff ((((r7.parts.tail.headD .undef).V).int) != (0:Int)) ((True∧True∧True)∧Q (.tup [.v (.int .i64) (V.i 0),.v (.int .i64) ((r7.parts.tail.headD .undef).V)]) []) (cl ZZ [.agg [.v .str (V.s a2_0),.v .bool (V.b a2_1),.v (.sl Zb) (V.l a2_2)]] [] fun r13 H14=>r13=(.v (.int .i64) (r13.V))∧H14=[]∧iff (r13.V.int != (0:Int)) ((True∧True∧True)∧Q (.tup [.v (.int .i64) (V.i 0),.v (.int .i64) (r13.V)]) []) (cl ZV [.v (.sl Zf) (V.l a0),.agg [.v .str (V.s a1_0),.v .bool (V.b a1_1),.v (.sl Zb) (V.l a1_2)],.agg [.v .str (V.s a2_0),.v .bool (V.b a2_1),.v (.sl Zb) (V.l a2_2)]] [] fun r15 H16=>r15=(.tup [.v (.int .i64) ((r15.parts.headD .undef).V),.v (.int .i64) ((r15.parts.tail.headD .undef).V)])∧H16=[]∧(True∧True∧True)∧Q (.tup [.v (.int .i64) ((r15.parts.headD .undef).V),.v (.int .i64) ((r15.parts.tail.headD .undef).V)]) [])))∧True)∧(iff ((((r7.parts.tail.headD .undef).V).int) != (0:Int)) ((True∧True∧True)∧Q (.tup [.v (.int .i64) (V.i 0),.v (.int .i64) ((r7.parts.tail.headD .undef).V)]) []) (cl ZZ [.agg [.v .str (V.s a2_0),.v .bool (V.b a2_1),.v (.sl Zb) (V.l a2_2)]] [] fun r17 H18=>r17=(.v (.int .i64) (r17.V))∧H18=[]∧iff (r17.V.int != (0:Int)) ((True∧True∧True)∧Q (.tup [.v (.int .i64) (V.i 0),.v (.int .i64) (r17.V)]) []) (cl ZV [.v (.sl Zf) (V.l a0),.agg [.v .str (V.s a1_0),.v .bool (V.b a1_1),.v (.sl Zb) (V.l a1_2)],.agg [.v .str (V.s a2_0),.v .bool (V.b a2_1),.v (.sl Zb) (V.l a2_2)]] [] fun r19 H20=>r19=(.tup [.v (.int .i64) ((r19.parts.headD .undef).V),.v (.int .i64) ((r19.parts.tail.headD .undef).V)])∧H20=[]∧(True∧True∧True)∧Q (.tup [.v (.int .i64) ((r19.parts.headD .undef).V),.v (.int .i64) ((r19.parts.tail.headD .undef).V)]) [])))∧True)∧((cl Z3 [.v (.sl Zb) (V.l ([[V.s a1_0,V.b a1_1,V.l a1_2]]))] [] fun r21 H22=>r21=(.v (.sl Zc) (r21.V))∧H22=[]∧cl Zw [.v (.sl Zf) (V.l a0),.agg [.v .str (V.s a1_0),.v .bool (V.b a1_1),.v (.sl Zb) (V.l a1_2)],.v (.sl Zc) (r21.V)] [] fun r23 H24=>r23=(.tup [.v (.mp Ze) ((r23.parts.headD .undef).V),.v (.int .i64) ((r23.parts.tail.headD .undef).V)])∧H24=[]∧((iff ((((r23.parts.tail.headD .undef).V).int) != (0:Int)) ((True∧True∧True)∧Q (.tup [.v (.int .i64) (V.i 0),.v (.int .i64) ((r23.parts.tail.headD .undef).V)]) []) (cl ZZ [.agg [.v .str (V.s a2_0),.v .bool (V.b a2_1),.v (.sl Zb) (V.l a2_2)]] [] fun r25 H26=>r25=(.v (.int .i64) (r25.V))∧H26=[]∧iff (r25.V.int != (0:Int)) ((True∧True∧True)∧Q (.tup [.v (.int .i64) (V.i 0),.v (.int .i64) (r25.V)]) []) (cl ZV [.v (.sl Zf) (V.l a0),.agg [.v .str (V.s a1_0),.v .bool (V.b a1_1),.v (.sl Zb) (V.l a1_2)],.agg [.v .str (V.s a2_0),.v .bool (V.b a2_1),.v (.sl Zb) (V.l a2_2)]] [] fun r27 H28=>r27=(.tup [.v (.int .i64) ((r27.parts.headD .undef).V),.v (.int .i64) ((r27.parts.tail.headD .undef).V)])∧H28=[]∧(True∧True∧True)∧Q (.tup [.v (.int .i64) ((r27.parts.headD .undef).V),.v (.int .i64) ((r27.parts.tail.headD .undef).V)]) [])))∧(iff ((((r23.parts.tail.headD .undef).V).int) != (0:Int)) ((True∧True∧True)∧Q (.tup [.v (.int .i64) (V.i 0),.v (.int .i64) ((r23.parts.tail.headD .undef).V)]) []) (cl ZZ [.agg [.v .str (V.s a2_0),.v .bool (V.b a2_1),.v (.sl Zb) (V.l a2_2)]] [] fun r29 H30=>r29=(.v (.int .i64) (r29.V))∧H30=[]∧iff (r29.V.int != (0:Int)) ((True∧True∧True)∧Q (.tup [.v (.int .i64) (V.i 0),.v (.int .i64) (r29.V)]) []) (cl ZV [.v (.sl Zf) (V.l a0),.agg [.v .str (V.s a1_0),.v .bool (V.b a1_1),.v (.sl Zb) (V.l a1_2)],.agg [.v .str (V.s a2_0),.v .bool (V.b a2_1),.v (.sl Zb) (V.l a2_2)]] [] fun r31 H32=>r31=(.tup [.v (.int .i64) ((r31.parts.headD .undef).V),.v (.int .i64) ((r31.parts.tail.headD .undef).V)])∧H32=[]∧(True∧True∧True)∧Q (.tup [.v (.int .i64) ((r31.parts.headD .undef).V),.v (.int .i64) ((r31.parts.tail.headD .undef).V)]) [])))∧True)∧(iff ((((r23.parts.tail.headD .undef).V).int) != (0:Int)) ((True∧True∧True)∧Q (.tup [.v (.int .i64) (V.i 0),.v (.int .i64) ((r23.parts.tail.headD .undef).V)]) []) (cl ZZ [.agg [.v .str (V.s a2_0),.v .bool (V.b a2_1),.v (.sl Zb) (V.l a2_2)]] [] fun r33 H34=>r33=(.v (.int .i64) (r33.V))∧H34=[]∧iff (r33.V.int != (0:Int)) ((True∧True∧True)∧Q (.tup [.v (.int .i64) (V.i 0),.v (.int .i64) (r33.V)]) []) (cl ZV [.v (.sl Zf) (V.l a0),.agg [.v .str (V.s a1_0),.v .bool (V.b a1_1),.v (.sl Zb) (V.l a1_2)],.agg [.v .str (V.s a2_0),.v .bool (V.b a2_1),.v (.sl Zb) (V.l a2_2)]] [] fun r35 H36=>r35=(.tup [.v (.int .i64) ((r35.parts.headD .undef).V),.v (.int .i64) ((r35.parts.tail.headD .undef).V)])∧H36=[]∧(True∧True∧True)∧Q (.tup [.v (.int .i64) ((r35.parts.headD .undef).V),.v (.int .i64) ((r35.parts.tail.headD .undef).V)]) [])))∧True)∧((cl Z3 [.v (.sl Zb) (V.l ([[V.s a1_0,V.b a1_1,V.l a1_2]]))] [] fun r37 H38=>r37=(.v (.sl Zc) (r37.V))∧H38=[]∧cl Zw [.v (.sl Zf) (V.l a0),.agg [.v .str (V.s a1_0),.v .bool (V.b a1_1),.v (.sl Zb) (V.l a1_2)],.v (.sl Zc) (r37.V)] [] fun r39 H40=>r39=(.tup [.v (.mp Ze) ((r39.parts.headD .undef).V),.v (.int .i64) ((r39.parts.tail.headD .undef).V)])∧H40=[]∧((iff ((((r39.parts.tail.headD .undef).V).int) != (0:Int)) ((True∧True∧True)∧Q (.tup [.v (.int .i64) (V.i 0),.v (.int .i64) ((r39.parts.tail.headD .undef).V)]) []) (cl ZZ [.agg [.v .str (V.s a2_0),.v .bool (V.b a2_1),.v (.sl Zb) (V.l a2_2)]] [] fun r41 H42=>r41=(.v (.int .i64) (r41.V))∧H42=[]∧iff (r41.V.int != (0:Int)) ((True∧True∧True)∧Q (.tup [.v (.int .i64) (V.i 0),.v (.int .i64) (r41.V)]) []) (cl ZV [.v (.sl Zf) (V.l a0),.agg [.v .str (V.s a1_0),.v .bool (V.b a1_1),.v (.sl Zb) (V.l a1_2)],.agg [.v .str (V.s a2_0),.v .bool (V.b a2_1),.v (.sl Zb) (V.l a2_2)]] [] fun r43 H44=>r43=(.tup [.v (.int .i64) ((r43.parts.headD .undef).V),.v (.int .i64) ((r43.parts.tail.headD .undef).V)])∧H44=[]∧(True∧True∧True)∧Q (.tup [.v (.int .i64) ((r43.parts.headD .undef).V),.v (.int .i64) ((r43.parts.tail.headD .undef).V)]) [])))∧(iff ((((r39.parts.tail.headD .undef).V).int) != (0:Int)) ((True∧True∧True)∧Q (.tup [.v (.int .i64) (V.i 0),.v (.int .i64) ((r39.parts.tail.headD .undef).V)]) []) (cl ZZ [.agg [.v .str (V.s a2_0),.v .bool (V.b a2_1),.v (.sl Zb) (V.l a2_2)]] [] fun r45 H46=>r45=(.v (.int .i64) (r45.V))∧H46=[]∧iff (r45.V.int != (0:Int)) ((True∧True∧True)∧Q (.tup [.v (.int .i64) (V.i 0),.v (.int .i64) (r45.V)]) []) (cl ZV [.v (.sl Zf) (V.l a0),.agg [.v .str (V.s a1_0),.v .bool (V.b a1_1),.v (.sl Zb) (V.l a1_2)],.agg [.v .str (V.s a2_0),.v .bool (V.b a2_1),.v (.sl Zb) (V.l a2_2)]] [] fun r47 H48=>r47=(.tup [.v (.int .i64) ((r47.parts.headD .undef).V),.v (.int .i64) ((r47.parts.tail.headD .undef).V)])∧H48=[]∧(True∧True∧True)∧Q (.tup [.v (.int .i64) ((r47.parts.headD .undef).V),.v (.int .i64) ((r47.parts.tail.headD .undef).V)]) [])))∧True)∧(iff ((((r39.parts.tail.headD .undef).V).int) != (0:Int)) ((True∧True∧True)∧Q (.tup [.v (.int .i64) (V.i 0),.v (.int .i64) ((r39.parts.tail.headD .undef).V)]) []) (cl ZZ [.agg [.v .str (V.s a2_0),.v .bool (V.b a2_1),.v (.sl Zb) (V.l a2_2)]] [] fun r49 H50=>r49=(.v (.int .i64) (r49.V))∧H50=[]∧iff (r49.V.int != (0:Int)) ((True∧True∧True)∧Q (.tup [.v (.int .i64) (V.i 0),.v (.int .i64) (r49.V)]) []) (cl ZV [.v (.sl Zf) (V.l a0),.agg [.v .str (V.s a1_0),.v .bool (V.b a1_1),.v (.sl Zb) (V.l a1_2)],.agg [.v .str (V.s a2_0),.v .bool (V.b a2_1),.v (.sl Zb) (V.l a2_2)]] [] fun r51 H52=>r51=(.tup [.v (.int .i64) ((r51.parts.headD .undef).V),.v (.int .i64) ((r51.parts.tail.headD .undef).V)])∧H52=[]∧(True∧True∧True)∧Q (.tup [.v (.int .i64) ((r51.parts.headD .undef).V),.v (.int .i64) ((r51.parts.tail.headD .undef).V)]) [])))∧True)∧(cl Z3 [.v (.sl Zb) (V.l ([[V.s a1_0,V.b a1_1,V.l a1_2]]))] [] fun r53 H54=>r53=(.v (.sl Zc) (r53.V))∧H54=[]∧cl Zw [.v (.sl Zf) (V.l a0),.agg [.v .str (V.s a1_0),.v .bool (V.b a1_1),.v (.sl Zb) (V.l a1_2)],.v (.sl Zc) (r53.V)] [] fun r55 H56=>r55=(.tup [.v (.mp Ze) ((r55.parts.headD .undef).V),.v (.int .i64) ((r55.parts.tail.headD .undef).V)])∧H56=[]∧((iff ((((r55.parts.tail.headD .undef).V).int) != (0:Int)) ((True∧True∧True)∧Q (.tup [.v (.int .i64) (V.i 0),.v (.int .i64) ((r55.parts.tail.headD .undef).V)]) []) (cl ZZ [.agg [.v .str (V.s a2_0),.v .bool (V.b a2_1),.v (.sl Zb) (V.l a2_2)]] [] fun r57 H58=>r57=(.v (.int .i64) (r57.V))∧H58=[]∧iff (r57.V.int != (0:Int)) ((True∧True∧True)∧Q (.tup [.v (.int .i64) (V.i 0),.v (.int .i64) (r57.V)]) []) (cl ZV [.v (.sl Zf) (V.l a0),.agg [.v .str (V.s a1_0),.v .bool (V.b a1_1),.v (.sl Zb) (V.l a1_2)],.agg [.v .str (V.s a2_0),.v .bool (V.b a2_1),.v (.sl Zb) (V.l a2_2)]] [] fun r59 H60=>r59=(.tup [.v (.int .i64) ((r59.parts.headD .undef).V),.v (.int .i64) ((r59.parts.tail.headD .undef).V)])∧H60=[]∧(True∧True∧True)∧Q (.tup [.v (.int .i64) ((r59.parts.headD .undef).V),.v (.int .i64) ((r59.parts.tail.headD .undef).V)]) [])))∧(iff ((((r55.parts.tail.headD .undef).V).int) != (0:Int)) ((True∧True∧True)∧Q (.tup [.v (.int .i64) (V.i 0),.v (.int .i64) ((r55.parts.tail.headD .undef).V)]) []) (cl ZZ [.agg [.v .str (V.s a2_0),.v .bool (V.b a2_1),.v (.sl Zb) (V.l a2_2)]] [] fun r61 H62=>r61=(.v (.int .i64) (r61.V))∧H62=[]∧iff (r61.V.int != (0:Int)) ((True∧True∧True)∧Q (.tup [.v (.int .i64) (V.i 0),.v (.int .i64) (r61.V)]) []) (cl ZV [.v (.sl Zf) (V.l a0),.agg [.v .str (V.s a1_0),.v .bool (V.b a1_1),.v (.sl Zb) (V.l a1_2)],.agg [.v .str (V.s a2_0),.v .bool (V.b a2_1),.v (.sl Zb) (V.l a2_2)]] [] fun r63 H64=>r63=(.tup [.v (.int .i64) ((r63.parts.headD .undef).V),.v (.int .i64) ((r63.parts.tail.headD .undef).V)])∧H64=[]∧(True∧True∧True)∧Q (.tup [.v (.int .i64) ((r63.parts.headD .undef).V),.v (.int .i64) ((r63.parts.tail.headD .undef).V)]) [])))∧True)∧(iff ((((r55.parts.tail.headD .undef).V).int) != (0:Int)) ((True∧True∧True)∧Q (.tup [.v (.int .i64) (V.i 0),.v (.int .i64) ((r55.parts.tail.headD .undef).V)]) []) (cl ZZ [.agg [.v .str (V.s a2_0),.v .bool (V.b a2_1),.v (.sl Zb) (V.l a2_2)]] [] fun r65 H66=>r65=(.v (.int .i64) (r65.V))∧H66=[]∧iff (r65.V.int != (0:Int)) ((True∧True∧True)∧Q (.tup [.v (.int .i64) (V.i 0),.v (.int .i64) (r65.V)]) []) (cl ZV [.v (.sl Zf) (V.l a0),.agg [.v .str (V.s a1_0),.v .bool (V.b a1_1),.v (.sl Zb) (V.l a1_2)],.agg [.v .str (V.s a2_0),.v .bool (V.b a2_1),.v (.sl Zb) (V.l a2_2)]] [] fun r67 H68=>r67=(.tup [.v (.int .i64) ((r67.parts.headD .undef).V),.v (.int .i64) ((r67.parts.tail.headD .undef).V)])∧H68=[]∧(True∧True∧True)∧Q (.tup [.v (.int .i64) ((r67.parts.headD .undef).V),.v (.int .i64) ((r67.parts.tail.headD .undef).V)]) [])))∧True)∧True)∧True)∧True))
theorem ZnP (a0:LL) (a1_0:ByteArray) (a1_1:Bool) (a1_2:LL) (a2_0:ByteArray) (a2_1:Bool) (a2_2:LL) (Q:QD) (h:ZhR a0 a1_0 a1_1 a1_2 a2_0 a2_1 a2_2 Q):cl ZfW [.v (.sl Zf) (V.l a0),.agg [.v .str (V.s a1_0),.v .bool (V.b a1_1),.v (.sl Zb) (V.l a1_2)],.agg [.v .str (V.s a2_0),.v .bool (V.b a2_1),.v (.sl Zb) (V.l a2_2)]] [] Q :=
 acalls2 (E:=ZlU) (envOk _ _ _ _ _) 0 Tryz.func18 (by kernel_rfl) h
def Zv:Env:=envA [(8,ua 4 4 (ua 9 3 (ua 17 4 (ua 22 4 (ua 30 12 ([.dead 9,.dead 36])))))),(15,(.undef 1)::ua 4 4 (ua 9 3 (ua 13 8 (ua 22 4 (ua 27 15 (ua 45 20 ([.dead 13,.dead 16,.dead 51,.dead 61]))))))),(19,(.undef 1)::ua 4 4 (ua 9 3 ((.undef 13)::ua 15 6 (ua 22 4 (ua 27 15 (ua 45 10 (ua 57 8 ([.dead 13,.dead 16,.dead 61]))))))))] [] [] [] []
def Zji (Q:QD):Post:=blockK 0 (seqJ Zv (fnAt [1,1,1,1] Tryz.f22) (endK Zv Tryz.f22 Q))
def ZeG (Q:QD):Post:=blockK 2 (seqJ Zv (fnAt [1,1,1,1,1] Tryz.f22) (endK Zv Tryz.f22 Q))
def ZjC (Q:QD) (m1:Nat):Post:=blockK 4 (blockK 3 (seqJ Zv (fnAt [1,1,1,1,0,1,0,0,1,1,1] Tryz.f22) (loopK (adj (Zv.adj 15)) (iter (adj (Zv.adj 15)) (evCode Zv (fnAt [1,1,1,1,0,1,0,0] Tryz.f22)) (ZeG Q) m1) (ZeG Q))))
@[irreducible] def ZbR (Q:QD) (m1 m2:Nat) (x0:LL) (x14:V) (x42:LL) (x43 x44:Int) (x55:V) (x56:Int):Prop :=
 iter (adj (Zv.adj 19)) (evCode Zv (fnAt [1,1,1,1,0,1,0,0,1,1,0,0,1,1,1,0,0] Tryz.f22)) (ZjC Q m1) m2 ⟨(.v (.sl Zf) (V.l x0))::.undef::sk 2 (un 4 (.skip::un 3 (.skip::.undef::(.v (.sl Za) (x14))::un 6 (.skip::un 4 (.skip::un 15 ((.v (.sl ZY) (V.l x42))::(.v (.int .i64) (V.i x43))::(.v (.int .i64) (V.i x44))::un 10 ((.v (.int .i64) (x55))::(.v (.int .i64) (V.i x56))::un 8 ([])))))))),dd 65 ([])⟩ []
@[irreducible] def ZaC (Q:QD) (m1:Nat) (x0 x42:LL) (x43 x44:Int):Prop :=
 iter (adj (Zv.adj 15)) (evCode Zv (fnAt [1,1,1,1,0,1,0,0] Tryz.f22)) (ZeG Q) m1 ⟨(.v (.sl Zf) (V.l x0))::.undef::sk 2 (un 4 (.skip::un 3 (.skip::un 8 (.skip::un 4 (.skip::un 15 ((.v (.sl ZY) (V.l x42))::(.v (.int .i64) (V.i x43))::(.v (.int .i64) (V.i x44))::un 20 ([]))))))),dd 65 ([])⟩ []
@[irreducible] def ZbO (Q:QD) (m0:Nat) (x0 x1 x27:LL) (x28 x29:Int):Prop :=
 iter (adj (Zv.adj 8)) (evCode Zv (fnAt [1,1,1,0,1,0,0] Tryz.f22)) (Zji Q) m0 ⟨(.v (.sl Zf) (V.l x0))::(.v (.sl ZY) (V.l x1))::sk 2 (un 4 (.skip::un 3 (sk 5 (un 4 (.skip::un 4 (.skip::(.v (.sl ZY) (V.l x27))::(.v (.int .i64) (V.i x28))::(.v (.int .i64) (V.i x29))::un 12 (sk 23 ([])))))))),dd 65 ([])⟩ []
def ZeH (Q:QD) (m1 m2:Nat) (x0:LL) (x14:V) (x42:LL) (x43 x44:Int) (x55:V) (x56:Int):Prop :=
 iff (decide (x56<x55.int)) (cl Zq [.v (.sl Za) (x14),.fn Z7 [.ptr (.own 0) 0]] [.cells [.v (.int .i64) (V.i x56)]] fun r1 H2=>r1=(.v .bool (r1.V))∧H2=[.cells [.v (.int .i64) ((((H2.headD .dead).cs).headD .undef).V)]]∧iff (!r1.V.bool) ((True∧True∧True)∧Q (.tup [.v .bool (V.b false),.v (.int .i64) (V.i 0)]) []) (ZbR Q m1 m2 x0 x14 x42 x43 x44 x55 (IntKind.i64.wrap (x56+(1:Int))))) (ZaC Q m1 x0 x42 x43 (IntKind.i64.wrap (x44+(1:Int))))
theorem Zik (Q:QD) (m1 m2:Nat) (x0:LL) (x14:V) (x42:LL) (x43 x44:Int) (x55:V) (x56:Int):ZbR Q m1 (m2+1) x0 x14 x42 x43 x44 x55 x56=ZeH Q m1 m2 x0 x14 x42 x43 x44 x55 x56:=by kernel_rfl
theorem Zir (Q:QD) (m1:Nat):RuleG7 (ZbR Q m1) (ZeH Q m1):=ruleG7 _ _ (Zik Q m1)
def ZjY (Q:QD) (m1:Nat) (x0 x42:LL) (x43 x44:Int):Prop :=
 iff (decide (x44<x43)) (0≤x44∧x44<x42.length∧cl ZB [.v (.sl Zf) (V.l x0),.agg [.v .str (((x42.getD x44.toNat []).drop 0).headD V.none),.v (.int .i64) ((((x42.getD x44.toNat []).drop 0).tail).headD V.none)]] [] fun r1 H2=>r1=(.tup [.v (.sl Za) ((r1.parts.headD .undef).V),.v .bool ((r1.parts.tail.headD .undef).V)])∧H2=[]∧∃ m2,ZbR Q m1 m2 x0 ((r1.parts.headD .undef).V) x42 x43 x44 ((((x42.getD x44.toNat []).drop 0).tail).headD V.none) 0) ((True∧True∧True)∧Q (.tup [.v .bool (V.b true),.v (.int .i64) (V.i 0)]) [])
theorem ZhZ (Q:QD) (m1:Nat) (x0 x42:LL) (x43 x44:Int):ZaC Q (m1+1) x0 x42 x43 x44=ZjY Q m1 x0 x42 x43 x44:=by kernel_rfl
theorem Zhi (Q:QD) (x0 x42:LL) (n:Nat) (hb:n≤big) (J:Nat→Prop)
  (step:∀ (k:Nat),k<n→J k→∀ m1:Nat,(J (k+1)→ZaC Q m1 x0 x42 (n:Int) (IntKind.i64.wrap ((k:Int)+(1:Int))))→(0≤(k:Int)∧(k:Int)<x42.length∧cl ZB [.v (.sl Zf) (V.l x0),.agg [.v .str (((x42.getD k []).drop 0).headD V.none),.v (.int .i64) ((((x42.getD k []).drop 0).tail).headD V.none)]] [] fun r1 H2=>r1=(.tup [.v (.sl Za) ((r1.parts.headD .undef).V),.v .bool ((r1.parts.tail.headD .undef).V)])∧H2=[]∧∃ m2,ZbR Q m1 m2 x0 ((r1.parts.headD .undef).V) x42 (n:Int) (k:Int) ((((x42.getD k []).drop 0).tail).headD V.none) 0))
  (last:J n→((True∧True∧True)∧Q (.tup [.v .bool (V.b true),.v (.int .i64) (V.i 0)]) []))
  (k:Nat) (le0:k≤n) (hj:J k):∃ m1,ZaC Q m1 x0 x42 (n:Int) ((k:Int)):=by
 exact rangeG0 n hb J (fun m1 i=>ZaC Q m1 x0 x42 (n:Int) i) (fun m1 i=>ZhZ Q m1 x0 x42 (n:Int) i) (fun k hl_ hj_ m_ ih_=>step k hl_ hj_ m_ ih_) last k le0 hj
def ZjJ (Q:QD) (m0:Nat) (x0 x1 x27:LL) (x28 x29:Int):Prop :=
 iff (decide (x29<x28)) (0≤x29∧x29<x27.length∧cl ZB [.v (.sl Zf) (V.l x0),.agg [.v .str (((x27.getD x29.toNat []).drop 0).headD V.none),.v (.int .i64) ((((x27.getD x29.toNat []).drop 0).tail).headD V.none)]] [] fun r1 H2=>r1=(.tup [.v (.sl Za) ((r1.parts.headD .undef).V),.v .bool ((r1.parts.tail.headD .undef).V)])∧H2=[]∧iff (!(((r1.parts.tail.headD .undef).V).bool)) ((True∧True∧True)∧Q (.tup [.v .bool (V.b false),.v (.int .i64) (V.i 10)]) []) (ZbO Q m0 x0 x1 x27 x28 (IntKind.i64.wrap (x29+(1:Int))))) ((x1.length≤big→∃ m1,ZaC Q m1 x0 x1 ((x1.length:Int)) 0))
theorem Zii (Q:QD) (m0:Nat) (x0 x1 x27:LL) (x28 x29:Int):ZbO Q (m0+1) x0 x1 x27 x28 x29=ZjJ Q m0 x0 x1 x27 x28 x29:=by kernel_rfl
theorem ZhE (Q:QD) (x0 x1 x27:LL) (n:Nat) (hb:n≤big) (J:Nat→Prop)
  (step:∀ (k:Nat),k<n→J k→∀ K:Prop,(J (k+1)→K)→(0≤(k:Int)∧(k:Int)<x27.length∧cl ZB [.v (.sl Zf) (V.l x0),.agg [.v .str (((x27.getD k []).drop 0).headD V.none),.v (.int .i64) ((((x27.getD k []).drop 0).tail).headD V.none)]] [] fun r1 H2=>r1=(.tup [.v (.sl Za) ((r1.parts.headD .undef).V),.v .bool ((r1.parts.tail.headD .undef).V)])∧H2=[]∧iff (!(((r1.parts.tail.headD .undef).V).bool)) ((True∧True∧True)∧Q (.tup [.v .bool (V.b false),.v (.int .i64) (V.i 10)]) []) (K)))
  (last:J n→((x1.length≤big→∃ m1,ZaC Q m1 x0 x1 ((x1.length:Int)) 0)))
  (k:Nat) (le0:k≤n) (hj:J k):∃ m0,ZbO Q m0 x0 x1 x27 (n:Int) ((k:Int)):=by
 exact rangeG0 n hb J (fun m0 i=>ZbO Q m0 x0 x1 x27 (n:Int) i) (fun m0 i=>Zii Q m0 x0 x1 x27 (n:Int) i) (fun k hl_ hj_ m_ ih_=>step k hl_ hj_ _ ih_) last k le0 hj
def ZgU (a0 a1:LL) (Q:QD):Prop :=
 cl Zc4 [.v (.sl Zf) (V.l a0)] [] fun r1 H2=>r1=(.v (.int .i64) (r1.V))∧H2=[]∧iff (r1.V.int != (0:Int)) ((True∧True∧True)∧Q (.tup [.v .bool (V.b false),.v (.int .i64) (r1.V)]) []) (cl Zf4 [.v (.sl ZY) (V.l a1)] [] fun r3 H4=>r3=(.v (.int .i64) (r3.V))∧H4=[]∧iff (r3.V.int != (0:Int)) ((True∧True∧True)∧Q (.tup [.v .bool (V.b false),.v (.int .i64) (r3.V)]) []) ((a1.length≤big→∃ m0,ZbO Q m0 a0 a1 a1 ((a1.length:Int)) 0)))
theorem ZmW (a0 a1:LL) (Q:QD) (h:ZgU a0 a1 Q):cl ZfF [.v (.sl Zf) (V.l a0),.v (.sl ZY) (V.l a1)] [] Q :=
 acalls2 (E:=Zv) (envOk _ _ _ _ _) 0 Tryz.func22 (by kernel_rfl) h
def ZdR:Env:=envA [(5,(.undef 0)::ua 2 2 (ua 5 6 (ua 15 10 ([.dead 5,.dead 20]))))] [] [] [] []
def ZmS (Q:QD):Post:=blockK 0 (seqJ ZdR (fnAt [1,1,1] Tryz.f23) (endK ZdR Tryz.f23 Q))
@[irreducible] def Zc7 (Q:QD) (m0:Nat) (x12:LL) (x13 x14:Int):Prop :=
 iter (adj (ZdR.adj 5)) (evCode ZdR (fnAt [1,1,0,1,0,0] Tryz.f23)) (ZmS Q) m0 ⟨.undef::.skip::un 2 (.skip::un 6 (.skip::(.v (.sl Zf) (V.l x12))::(.v (.int .i64) (V.i x13))::(.v (.int .i64) (V.i x14))::un 10 ([]))),dd 25 ([])⟩ []
def ZmE (Q:QD) (m0:Nat) (x12:LL) (x13 x14:Int):Prop :=
 iff (decide (x14<x13)) (0≤x14∧x14<x12.length∧cl Zes [.v (.sl Za) ((((x12.getD x14.toNat []).drop 0).tail).headD V.none)] [] fun r1 H2=>r1=(.v (.int .i64) (r1.V))∧H2=[]∧iff (r1.V.int != (0:Int)) (True∧Q (.v (.int .i64) (r1.V)) []) (Zc7 Q m0 x12 x13 (IntKind.i64.wrap (x14+(1:Int))))) (True∧Q (.v (.int .i64) (V.i 0)) [])
theorem Zkq (Q:QD) (m0:Nat) (x12:LL) (x13 x14:Int):Zc7 Q (m0+1) x12 x13 x14=ZmE Q m0 x12 x13 x14:=by kernel_rfl
theorem Zjo (Q:QD) (x12:LL) (n:Nat) (hb:n≤big) (J:Nat→Prop)
  (step:∀ (k:Nat),k<n→J k→∀ K:Prop,(J (k+1)→K)→(0≤(k:Int)∧(k:Int)<x12.length∧cl Zes [.v (.sl Za) ((((x12.getD k []).drop 0).tail).headD V.none)] [] fun r1 H2=>r1=(.v (.int .i64) (r1.V))∧H2=[]∧iff (r1.V.int != (0:Int)) (True∧Q (.v (.int .i64) (r1.V)) []) (K)))
  (last:J n→(True∧Q (.v (.int .i64) (V.i 0)) []))
  (k:Nat) (le0:k≤n) (hj:J k):∃ m0,Zc7 Q m0 x12 (n:Int) ((k:Int)):=by
 exact rangeG0 n hb J (fun m0 i=>Zc7 Q m0 x12 (n:Int) i) (fun m0 i=>Zkq Q m0 x12 (n:Int) i) (fun k hl_ hj_ m_ ih_=>step k hl_ hj_ _ ih_) last k le0 hj
def ZjG (a0:LL) (Q:QD):Prop :=
 cl Ze5 [.v (.sl Zf) (V.l a0),.fn Zao []] [] fun r1 H2=>r1=(.v (.int .i64) (r1.V))∧H2=[]∧iff (r1.V.int != (0:Int)) (True∧Q (.v (.int .i64) (r1.V)) []) ((a0.length≤big→∃ m0,Zc7 Q m0 a0 ((a0.length:Int)) 0))
theorem Zoy (a0:LL) (Q:QD) (h:ZjG a0 Q):cl Zc4 [.v (.sl Zf) (V.l a0)] [] Q :=
 acalls2 (E:=ZdR) (envOk _ _ _ _ _) 0 Tryz.func23 (by kernel_rfl) h
def Zac:Env:=envA [(6,(.undef 1)::ua 4 3 (ua 9 8 (ua 21 27 ([.dead 9,.dead 30,.dead 44])))),(12,(.undef 1)::ua 4 3 ((.undef 9)::ua 11 6 (ua 21 15 (ua 38 10 ([.dead 9,.dead 44])))))] [] [] [] []
def ZeU (Q:QD):Post:=blockK 0 (seqJ Zac (fnAt [1,1,1,1] Tryz.f24) (endK Zac Tryz.f24 Q))
def ZkZ (Q:QD) (m0:Nat):Post:=blockK 2 (blockK 1 (seqJ Zac (fnAt [1,1,1,0,1,0,0,1,1,1] Tryz.f24) (loopK (adj (Zac.adj 6)) (iter (adj (Zac.adj 6)) (evCode Zac (fnAt [1,1,1,0,1,0,0] Tryz.f24)) (ZeU Q) m0) (ZeU Q))))
@[irreducible] def Zbv (Q:QD) (m0 m1:Nat) (x0:LL) (x7 x10:V) (x18:LL) (x19 x20:Int) (x36:V) (x37:Int):Prop :=
 iter (adj (Zac.adj 12)) (evCode Zac (fnAt [1,1,1,0,1,0,0,1,1,0,0,1,1,1,1,0,0] Tryz.f24)) (ZkZ Q m0) m1 ⟨(.v (.sl Zf) (V.l x0))::.undef::sk 2 (un 3 ((.v .bool (x7))::.skip::.undef::(.v (.sl Za) (x10))::un 6 (.skip::(.v (.sl ZY) (V.l x18))::(.v (.int .i64) (V.i x19))::(.v (.int .i64) (V.i x20))::un 15 ((.v (.int .i64) (x36))::(.v (.int .i64) (V.i x37))::un 10 ([.skip]))))),dd 49 ([])⟩ []
@[irreducible] def Zbw (Q:QD) (m0:Nat) (x0:LL) (x7:V) (x18:LL) (x19 x20:Int):Prop :=
 iter (adj (Zac.adj 6)) (evCode Zac (fnAt [1,1,1,0,1,0,0] Tryz.f24)) (ZeU Q) m0 ⟨(.v (.sl Zf) (V.l x0))::.undef::sk 2 (un 3 ((.v .bool (x7))::.skip::un 8 (.skip::(.v (.sl ZY) (V.l x18))::(.v (.int .i64) (V.i x19))::(.v (.int .i64) (V.i x20))::un 27 ([.skip])))),dd 49 ([])⟩ []
def Ze4 (Q:QD) (m0 m1:Nat) (x0:LL) (x7 x10:V) (x18:LL) (x19 x20:Int) (x36:V) (x37:Int):Prop :=
 iff (decide (x37<x36.int)) (iff x7.bool (cl Zjf [.v (.sl Za) (x10),.v (.int .i64) (V.i x37)] [] fun r1 H2=>r1=(.v .bool (r1.V))∧H2=[]∧Zbv Q m0 m1 x0 r1.V x10 x18 x19 x20 x36 (IntKind.i64.wrap (x37+(1:Int)))) (Zbv Q m0 m1 x0 (V.b false) x10 x18 x19 x20 x36 (IntKind.i64.wrap (x37+(1:Int))))) (Zbw Q m0 x0 x7 x18 x19 (IntKind.i64.wrap (x20+(1:Int))))
theorem Zjg (Q:QD) (m0 m1:Nat) (x0:LL) (x7 x10:V) (x18:LL) (x19 x20:Int) (x36:V) (x37:Int):Zbv Q m0 (m1+1) x0 x7 x10 x18 x19 x20 x36 x37=Ze4 Q m0 m1 x0 x7 x10 x18 x19 x20 x36 x37:=by kernel_rfl
theorem Zi9 (Q:QD) (m0:Nat):RuleG8 (Zbv Q m0) (Ze4 Q m0):=ruleG8 _ _ (Zjg Q m0)
def ZkP (Q:QD) (m0:Nat) (x0:LL) (x7:V) (x18:LL) (x19 x20:Int):Prop :=
 iff (decide (x20<x19)) (0≤x20∧x20<x18.length∧cl Zd8 [.v (.sl Zf) (V.l x0),.v .str (((x18.getD x20.toNat []).drop 0).headD V.none),.v (.int .i64) ((((x18.getD x20.toNat []).drop 0).tail).headD V.none)] [] fun r1 H2=>r1=(.tup [.v (.sl Za) ((r1.parts.headD .undef).V),.v .bool ((r1.parts.tail.headD .undef).V)])∧H2=[]∧iff (!(((r1.parts.tail.headD .undef).V).bool)) ((True∧True∧True)∧Q (.tup [.v .bool (V.b false),.v (.int .i64) (V.i 10)]) []) (∃ m1,Zbv Q m0 m1 x0 x7 ((r1.parts.headD .undef).V) x18 x19 x20 ((((x18.getD x20.toNat []).drop 0).tail).headD V.none) 0)) ((True∧True∧True)∧Q (.tup [.v .bool (x7),.v (.int .i64) (V.i 0)]) [])
theorem ZiO (Q:QD) (m0:Nat) (x0:LL) (x7:V) (x18:LL) (x19 x20:Int):Zbw Q (m0+1) x0 x7 x18 x19 x20=ZkP Q m0 x0 x7 x18 x19 x20:=by kernel_rfl
theorem Zh2 (Q:QD) (x0 x18:LL) (n:Nat) (hb:n≤big) (J:Nat→V→Prop)
  (step:∀ (k:Nat) (x7:V),k<n→J k x7→∀ m0:Nat,(∀ (x7':V),J (k+1) x7'→Zbw Q m0 x0 x7' x18 (n:Int) (IntKind.i64.wrap ((k:Int)+(1:Int))))→(0≤(k:Int)∧(k:Int)<x18.length∧cl Zd8 [.v (.sl Zf) (V.l x0),.v .str (((x18.getD k []).drop 0).headD V.none),.v (.int .i64) ((((x18.getD k []).drop 0).tail).headD V.none)] [] fun r1 H2=>r1=(.tup [.v (.sl Za) ((r1.parts.headD .undef).V),.v .bool ((r1.parts.tail.headD .undef).V)])∧H2=[]∧iff (!(((r1.parts.tail.headD .undef).V).bool)) ((True∧True∧True)∧Q (.tup [.v .bool (V.b false),.v (.int .i64) (V.i 10)]) []) (∃ m1,Zbv Q m0 m1 x0 x7 ((r1.parts.headD .undef).V) x18 (n:Int) (k:Int) ((((x18.getD k []).drop 0).tail).headD V.none) 0)))
  (last:∀ (x7:V),J n x7→((True∧True∧True)∧Q (.tup [.v .bool (x7),.v (.int .i64) (V.i 0)]) []))
  (k:Nat) (x7:V) (le0:k≤n) (hj:J k x7):∃ m0,Zbw Q m0 x0 x7 x18 (n:Int) ((k:Int)):=by
 exact rangeG1 n hb J (fun m0 i x7=>Zbw Q m0 x0 x7 x18 (n:Int) i) (fun m0 i x7=>ZiO Q m0 x0 x7 x18 (n:Int) i) (fun k x7 hl_ hj_ m_ ih_=>step k x7 hl_ hj_ m_ ih_) last k x7 le0 hj
def Zhb (a0 a1:LL) (Q:QD):Prop :=
 cl ZeI [.v (.sl ZY) (V.l a1)] [] fun r1 H2=>r1=(.v (.int .i64) (r1.V))∧H2=[]∧iff (r1.V.int != (0:Int)) ((True∧True∧True)∧Q (.tup [.v .bool (V.b false),.v (.int .i64) (r1.V)]) []) ((a1.length≤big→∃ m0,Zbw Q m0 a0 (V.b true) a1 ((a1.length:Int)) 0))
theorem Znk (a0 a1:LL) (Q:QD) (h:Zhb a0 a1 Q):cl Zf7 [.v (.sl Zf) (V.l a0),.v (.sl ZY) (V.l a1)] [] Q :=
 acalls2 (E:=Zac) (envOk _ _ _ _ _) 0 Tryz.func24 (by kernel_rfl) h
def Zj:Env:=envA [(10,ua 0 2 (ua 4 2 (ua 9 22 (ua 34 65 ([.dead 9,.dead 41,.dead 59,.dead 77,.dead 84,.dead 96]))))),(14,ua 0 2 (ua 4 2 (ua 12 19 (ua 34 6 (ua 43 56 ([])))))),(20,ua 0 2 (ua 4 2 ((.undef 9)::ua 12 19 (ua 34 24 (ua 61 38 ([.dead 9,.dead 77,.dead 84])))))),(3000008,(.undef 1)::ua 4 2 (ua 17 14 ([.dead 25,.dead 29]))),(3000028,ua 0 2 (ua 4 2 ((.undef 9)::ua 12 19 (ua 34 65 ([.dead 59,.dead 77,.dead 84]))))),(3000023,ua 0 2 (ua 4 2 ((.undef 9)::ua 11 3 (ua 16 15 (ua 34 24 (ua 61 38 ([])))))))] [] [] [] [8,28,23]
def ZbZ (Q:QD):Post:=blockK 0 (seqJ Zj (fnAt [1,1,1,1,1,1,1] Tryz.f25) (endK Zj Tryz.f25 Q))
def Znr (Q:QD) (m0:Nat):Post:=blockK 2 (seqJ Zj (fnAt [1,1,1,1,1,1,0,1,0,0,1,1,0,0,1,1,1] Tryz.f25) (blockK 1 (seqJ Zj (fnAt [1,1,1,1,1,1,0,1,0,0,1,1,1] Tryz.f25) (loopK (adj (Zj.adj 10)) (iter (adj (Zj.adj 10)) (evCode Zj (fnAt [1,1,1,1,1,1,0,1,0,0] Tryz.f25)) (ZbZ Q) m0) (ZbZ Q)))))
def ZfZ (Q:QD) (m0:Nat):Post:=blockK 4 (seqJ Zj (fnAt [1,1,1,1,1,1,0,1,0,0,1,1,0,0,1,1,1,1] Tryz.f25) (blockK 1 (seqJ Zj (fnAt [1,1,1,1,1,1,0,1,0,0,1,1,1] Tryz.f25) (loopK (adj (Zj.adj 10)) (iter (adj (Zj.adj 10)) (evCode Zj (fnAt [1,1,1,1,1,1,0,1,0,0] Tryz.f25)) (ZbZ Q) m0) (ZbZ Q)))))
@[irreducible] def Zbo (Q:QD) (m0:Nat) (x7:Int) (x10 x11:V) (x31:LL) (x32 x33:Int) (y3_0:V):Prop :=
 joinM (evCode Zj (fnAt [1,1,1,1,1,1,0,1,0,0,1,1,0,0,1,1,1,1] Tryz.f25)) ⟨un 2 (.skip::(.ptr (.loc 3) 0)::un 2 ((.ptr (.loc 6) 0)::(.v (.int .u64) (V.i x7))::.skip::.undef::(.v (.int .u64) (x10))::(.v .bool (x11))::un 19 ((.v (.sl Za) (V.l x31))::(.v (.int .i64) (V.i x32))::(.v (.int .i64) (V.i x33))::un 65 ([.skip])))),dd 3 ((.cells [.v (.sl Zp) (y3_0)])::dd 2 ((.cells [.fn Zd []])::dd 93 ([])))⟩ [] (blockK 1 (seqJ Zj (fnAt [1,1,1,1,1,1,0,1,0,0,1,1,1] Tryz.f25) (loopK (adj (Zj.adj 10)) (iter (adj (Zj.adj 10)) (evCode Zj (fnAt [1,1,1,1,1,1,0,1,0,0] Tryz.f25)) (ZbZ Q) m0) (ZbZ Q))))
@[irreducible] def Zf6 (Q:QD) (m0 m2:Nat) (x7:Int) (x10:V) (x14:Int) (x15:V) (x31:LL) (x32 x33:Int) (x58:V) (x59 x60:Int) (y3_0:V):Prop :=
 joinM (evCode Zj (fnAt [1,1,1,1,1,1,0,1,0,0,1,1,0,0,1,1,1,0,1,0,0,1,1,0,0,1,1] Tryz.f25)) ⟨un 2 (.skip::(.ptr (.loc 3) 0)::un 2 ((.ptr (.loc 6) 0)::(.v (.int .u64) (V.i x7))::.skip::.undef::(.v (.int .u64) (x10))::un 3 ((.v (.int .i64) (V.i x14))::(.v (.int .i64) (x15))::un 15 ((.v (.sl Za) (V.l x31))::(.v (.int .i64) (V.i x32))::(.v (.int .i64) (V.i x33))::un 24 ((.v (.sl ZA) (x58))::(.v (.int .i64) (V.i x59))::(.v (.int .i64) (V.i x60))::un 38 ([.skip])))))),dd 3 ((.cells [.v (.sl Zp) (y3_0)])::dd 2 ((.cells [.fn Zd []])::dd 93 ([])))⟩ [] (blockK 5 (seqJ Zj (fnAt [1,1,1,1,1,1,0,1,0,0,1,1,0,0,1,1,1,0,1,0,0,1,1,1] Tryz.f25) (loopK (adj (Zj.adj 20)) (iter (adj (Zj.adj 20)) (evCode Zj (fnAt [1,1,1,1,1,1,0,1,0,0,1,1,0,0,1,1,1,0,1,0,0] Tryz.f25)) (ZfZ Q m0) m2) (ZfZ Q m0))))
@[irreducible] def Zbr (Q:QD) (m0 m2:Nat) (x7:Int) (x10 x11:V) (x31:LL) (x32 x33:Int) (x58:V) (x59 x60:Int) (y3_0:V):Prop :=
 iter (adj (Zj.adj 20)) (evCode Zj (fnAt [1,1,1,1,1,1,0,1,0,0,1,1,0,0,1,1,1,0,1,0,0] Tryz.f25)) (ZfZ Q m0) m2 ⟨un 2 (.skip::(.ptr (.loc 3) 0)::un 2 ((.ptr (.loc 6) 0)::(.v (.int .u64) (V.i x7))::.skip::.undef::(.v (.int .u64) (x10))::(.v .bool (x11))::un 19 ((.v (.sl Za) (V.l x31))::(.v (.int .i64) (V.i x32))::(.v (.int .i64) (V.i x33))::un 24 ((.v (.sl ZA) (x58))::(.v (.int .i64) (V.i x59))::(.v (.int .i64) (V.i x60))::un 38 ([.skip]))))),dd 3 ((.cells [.v (.sl Zp) (y3_0)])::dd 2 ((.cells [.fn Zd []])::dd 93 ([])))⟩ []
@[irreducible] def ZaX (Q:QD) (m0 m1:Nat) (x7:Int) (x10:V) (x31:LL) (x32 x33:Int) (x40:V) (x41 x42:Int) (y3_0 y9_0 y9_1:V):Prop :=
 iter (adj (Zj.adj 14)) (evCode Zj (fnAt [1,1,1,1,1,1,0,1,0,0,1,1,0,0,1,1,0,1,0,0] Tryz.f25)) (Znr Q m0) m1 ⟨un 2 (.skip::(.ptr (.loc 3) 0)::un 2 ((.ptr (.loc 6) 0)::(.v (.int .u64) (V.i x7))::.skip::(.ptr (.loc 9) 0)::(.v (.int .u64) (x10))::(.v .bool (V.b true))::un 19 ((.v (.sl Za) (V.l x31))::(.v (.int .i64) (V.i x32))::(.v (.int .i64) (V.i x33))::un 6 ((.v (.sl ZA) (x40))::(.v (.int .i64) (V.i x41))::(.v (.int .i64) (V.i x42))::un 56 ([.skip]))))),dd 3 ((.cells [.v (.sl Zp) (y3_0)])::dd 2 ((.cells [.fn Zd []])::dd 2 ((.cells [.v (.int .u64) (y9_0),.v (.sl ZA) (y9_1)])::dd 90 ([]))))⟩ []
@[irreducible] def Zcz (Q:QD) (m0:Nat) (x7:Int) (x31:LL) (x32 x33:Int) (y3_0:V):Prop :=
 iter (adj (Zj.adj 10)) (evCode Zj (fnAt [1,1,1,1,1,1,0,1,0,0] Tryz.f25)) (ZbZ Q) m0 ⟨un 2 (.skip::(.ptr (.loc 3) 0)::un 2 ((.ptr (.loc 6) 0)::(.v (.int .u64) (V.i x7))::.skip::un 22 ((.v (.sl Za) (V.l x31))::(.v (.int .i64) (V.i x32))::(.v (.int .i64) (V.i x33))::un 65 ([.skip])))),dd 3 ((.cells [.v (.sl Zp) (y3_0)])::dd 2 ((.cells [.fn Zd []])::dd 93 ([])))⟩ []
@[irreducible] def ZiC (Q:QD) (x0:LL) (y3_0:V):Prop :=
 joinM (evCode Zj (fnAt [1,1,1,1,1] Tryz.f25)) ⟨(.v (.sl Za) (V.l x0))::.undef::.skip::(.ptr (.loc 3) 0)::un 2 ((.ptr (.loc 6) 0)::sk 10 (un 14 (sk 69 ([])))),dd 3 ((.cells [.v (.sl Zp) (y3_0)])::dd 2 ((.cells [.fn Zd []])::dd 93 ([])))⟩ [] (endK Zj Tryz.f25 Q)
def ZiI (Q:QD) (m0:Nat) (x7:Int) (x10 x11:V) (x31:LL) (x32 x33:Int) (y3_0:V):Prop :=
 iff (!x11.bool) ((True∧True∧True)∧Q (.tup [.v (.int .u64) (V.i 0),.v (.int .i64) (V.i 3)]) []) (cl Zd [.v (.int .u64) (V.i (IntKind.u64.wrap (x7+x10.int)))] [] fun r1 H2=>r1=(.v .bool (r1.V))∧H2=[]∧iff r1.V.bool ((True∧True∧True)∧Q (.tup [.v (.int .u64) (V.i 0),.v (.int .i64) (V.i 3)]) []) (Zcz Q m0 (IntKind.u64.wrap (x7+x10.int)) x31 x32 (IntKind.i64.wrap (x33+(1:Int))) y3_0))
theorem ZlV (Q:QD) (m0:Nat) (x7:Int) (x10 x11:V) (x31:LL) (x32 x33:Int) (y3_0:V):Zbo Q m0 x7 x10 x11 x31 x32 x33 y3_0=ZiI Q m0 x7 x10 x11 x31 x32 x33 y3_0:=by kernel_rfl
def ZiF (Q:QD) (m0 m2:Nat) (x7:Int) (x10:V) (x14:Int) (x15:V) (x31:LL) (x32 x33:Int) (x58:V) (x59 x60:Int) (y3_0:V):Prop :=
 0≤x14∧x14<y3_0.list.length∧cl Zhz [.v (.int .u64) (((y3_0.list.getD x14.toNat []).drop 0).headD V.none),.v (.int .i64) (x15)] [] fun r1 H2=>r1=(.tup [.v (.int .u64) ((r1.parts.headD .undef).V),.v .bool ((r1.parts.tail.headD .undef).V)])∧H2=[]∧iff (((r1.parts.tail.headD .undef).V).bool) (cl Zfq [.v (.int .u64) (x10),.v (.int .u64) ((r1.parts.headD .undef).V)] [] fun r3 H4=>r3=(.tup [.v (.int .u64) ((r3.parts.headD .undef).V),.v .bool ((r3.parts.tail.headD .undef).V)])∧H4=[]∧Zbr Q m0 m2 x7 ((r3.parts.headD .undef).V) ((r3.parts.tail.headD .undef).V) x31 x32 x33 x58 x59 (IntKind.i64.wrap (x60+(1:Int))) y3_0) (Zbr Q m0 m2 x7 x10 ((r1.parts.tail.headD .undef).V) x31 x32 x33 x58 x59 (IntKind.i64.wrap (x60+(1:Int))) y3_0)
theorem ZlT (Q:QD) (m0 m2:Nat) (x7:Int) (x10:V) (x14:Int) (x15:V) (x31:LL) (x32 x33:Int) (x58:V) (x59 x60:Int) (y3_0:V):Zf6 Q m0 m2 x7 x10 x14 x15 x31 x32 x33 x58 x59 x60 y3_0=ZiF Q m0 m2 x7 x10 x14 x15 x31 x32 x33 x58 x59 x60 y3_0:=by kernel_rfl
def Znl (Q:QD) (m0 m2:Nat) (x7:Int) (x10 x11:V) (x31:LL) (x32 x33:Int) (x58:V) (x59 x60:Int) (y3_0:V):Prop :=
 iff (decide (x60<x59)) (0≤x60∧x60<x58.list.length∧iff (x10.int == (0:Int)) (Zbo Q m0 x7 x10 x11 x31 x32 x33 y3_0) (iff (!x11.bool) (Zbo Q m0 x7 x10 x11 x31 x32 x33 y3_0) (Zf6 Q m0 m2 x7 x10 x60 (((x58.list.getD x60.toNat []).drop 0).headD V.none) x31 x32 x33 x58 x59 x60 y3_0))) (Zbo Q m0 x7 x10 x11 x31 x32 x33 y3_0)
theorem ZlZ (Q:QD) (m0 m2:Nat) (x7:Int) (x10 x11:V) (x31:LL) (x32 x33:Int) (x58:V) (x59 x60:Int) (y3_0:V):Zbr Q m0 (m2+1) x7 x10 x11 x31 x32 x33 x58 x59 x60 y3_0=Znl Q m0 m2 x7 x10 x11 x31 x32 x33 x58 x59 x60 y3_0:=by kernel_rfl
theorem Zkm (Q:QD) (m0:Nat) (x7:Int) (x31:LL) (x32 x33:Int) (x58 y3_0:V) (n:Nat) (hb:n≤big) (J:Nat→V→V→Prop)
  (step:∀ (k:Nat) (x10 x11:V),k<n→J k x10 x11→∀ m2:Nat,(∀ (x10' x11':V),J (k+1) x10' x11'→Zbr Q m0 m2 x7 x10' x11' x31 x32 x33 x58 (n:Int) (IntKind.i64.wrap ((k:Int)+(1:Int))) y3_0)→(0≤(k:Int)∧(k:Int)<x58.list.length∧iff (x10.int == (0:Int)) (Zbo Q m0 x7 x10 x11 x31 x32 x33 y3_0) (iff (!x11.bool) (Zbo Q m0 x7 x10 x11 x31 x32 x33 y3_0) (Zf6 Q m0 m2 x7 x10 (k:Int) (((x58.list.getD k []).drop 0).headD V.none) x31 x32 x33 x58 (n:Int) (k:Int) y3_0))))
  (last:∀ (x10 x11:V),J n x10 x11→(Zbo Q m0 x7 x10 x11 x31 x32 x33 y3_0))
  (k:Nat) (x10 x11:V) (le0:k≤n) (hj:J k x10 x11):∃ m2,Zbr Q m0 m2 x7 x10 x11 x31 x32 x33 x58 (n:Int) ((k:Int)) y3_0:=by
 exact rangeG2 n hb J (fun m2 i x10 x11=>Zbr Q m0 m2 x7 x10 x11 x31 x32 x33 x58 (n:Int) i y3_0) (fun m2 i x10 x11=>ZlZ Q m0 m2 x7 x10 x11 x31 x32 x33 x58 (n:Int) i y3_0) (fun k x10 x11 hl_ hj_ m_ ih_=>step k x10 x11 hl_ hj_ m_ ih_) last k x10 x11 le0 hj
def Znb (Q:QD) (m0 m1:Nat) (x7:Int) (x10:V) (x31:LL) (x32 x33:Int) (x40:V) (x41 x42:Int) (y3_0 y9_0 y9_1:V):Prop :=
 iff (decide (x42<x41)) (0≤x42∧x42<x40.list.length∧iff (decide (((((x40.list.getD x42.toNat []).drop 0).headD V.none).int) > (0:Int))) (0≤x42∧x42<y3_0.list.length∧iff (((((y3_0.list.getD x42.toNat []).drop 0).headD V.none).int) == (0:Int)) (ZaX Q m0 m1 x7 (V.i 0) x31 x32 x33 x40 x41 (IntKind.i64.wrap (x42+(1:Int))) y3_0 y9_0 y9_1) (ZaX Q m0 m1 x7 x10 x31 x32 x33 x40 x41 (IntKind.i64.wrap (x42+(1:Int))) y3_0 y9_0 y9_1)) (ZaX Q m0 m1 x7 x10 x31 x32 x33 x40 x41 (IntKind.i64.wrap (x42+(1:Int))) y3_0 y9_0 y9_1)) ((y9_1.list.length≤big→∃ m2,Zbr Q m0 m2 x7 x10 (V.b true) x31 x32 x33 y9_1 ((y9_1.list.length:Int)) 0 y3_0))
theorem Zlp (Q:QD) (m0 m1:Nat) (x7:Int) (x10:V) (x31:LL) (x32 x33:Int) (x40:V) (x41 x42:Int) (y3_0 y9_0 y9_1:V):ZaX Q m0 (m1+1) x7 x10 x31 x32 x33 x40 x41 x42 y3_0 y9_0 y9_1=Znb Q m0 m1 x7 x10 x31 x32 x33 x40 x41 x42 y3_0 y9_0 y9_1:=by kernel_rfl
theorem ZkK (Q:QD) (m0:Nat) (x7:Int) (x31:LL) (x32 x33:Int) (x40 y3_0 y9_0 y9_1:V) (n:Nat) (hb:n≤big) (J:Nat→V→Prop)
  (step:∀ (k:Nat) (x10:V),k<n→J k x10→∀ K:V→Prop,(∀ (x10':V),J (k+1) x10'→K x10')→(0≤(k:Int)∧(k:Int)<x40.list.length∧iff (decide (((((x40.list.getD k []).drop 0).headD V.none).int) > (0:Int))) (0≤(k:Int)∧(k:Int)<y3_0.list.length∧iff (((((y3_0.list.getD k []).drop 0).headD V.none).int) == (0:Int)) (K (V.i 0)) (K x10)) (K x10)))
  (last:∀ (x10:V),J n x10→((y9_1.list.length≤big→∃ m2,Zbr Q m0 m2 x7 x10 (V.b true) x31 x32 x33 y9_1 ((y9_1.list.length:Int)) 0 y3_0)))
  (k:Nat) (x10:V) (le0:k≤n) (hj:J k x10):∃ m1,ZaX Q m0 m1 x7 x10 x31 x32 x33 x40 (n:Int) ((k:Int)) y3_0 y9_0 y9_1:=by
 exact rangeG1 n hb J (fun m1 i x10=>ZaX Q m0 m1 x7 x10 x31 x32 x33 x40 (n:Int) i y3_0 y9_0 y9_1) (fun m1 i x10=>Zlp Q m0 m1 x7 x10 x31 x32 x33 x40 (n:Int) i y3_0 y9_0 y9_1) (fun k x10 hl_ hj_ m_ ih_=>step k x10 hl_ hj_ _ ih_) last k x10 le0 hj
def Znu (Q:QD) (m0:Nat) (x7:Int) (x31:LL) (x32 x33:Int) (y3_0:V):Prop :=
 iff (decide (x33<x32)) (0≤x33∧x33<x31.length∧((((((x31.getD x33.toNat []).drop 0).tail).headD V.none).list).length≤big→∃ m1,ZaX Q m0 m1 x7 (((x31.getD x33.toNat []).drop 0).headD V.none) x31 x32 x33 ((((x31.getD x33.toNat []).drop 0).tail).headD V.none) (((((((x31.getD x33.toNat []).drop 0).tail).headD V.none).list).length:Int)) 0 y3_0 (((x31.getD x33.toNat []).drop 0).headD V.none) ((((x31.getD x33.toNat []).drop 0).tail).headD V.none))) ((True∧True∧True)∧Q (.tup [.v (.int .u64) (V.i x7),.v (.int .i64) (V.i 0)]) [])
theorem Zlr (Q:QD) (m0:Nat) (x7:Int) (x31:LL) (x32 x33:Int) (y3_0:V):Zcz Q (m0+1) x7 x31 x32 x33 y3_0=Znu Q m0 x7 x31 x32 x33 y3_0:=by kernel_rfl
theorem Zld (Q:QD) (x31:LL) (y3_0:V) (n:Nat) (hb:n≤big) (J:Nat→Int→Prop)
  (step:∀ (k:Nat) (x7:Int),k<n→J k x7→∀ m0:Nat,(∀ (x7':Int),J (k+1) x7'→Zcz Q m0 x7' x31 (n:Int) (IntKind.i64.wrap ((k:Int)+(1:Int))) y3_0)→(0≤(k:Int)∧(k:Int)<x31.length∧((((((x31.getD k []).drop 0).tail).headD V.none).list).length≤big→∃ m1,ZaX Q m0 m1 x7 (((x31.getD k []).drop 0).headD V.none) x31 (n:Int) (k:Int) ((((x31.getD k []).drop 0).tail).headD V.none) (((((((x31.getD k []).drop 0).tail).headD V.none).list).length:Int)) 0 y3_0 (((x31.getD k []).drop 0).headD V.none) ((((x31.getD k []).drop 0).tail).headD V.none))))
  (last:∀ (x7:Int),J n x7→((True∧True∧True)∧Q (.tup [.v (.int .u64) (V.i x7),.v (.int .i64) (V.i 0)]) []))
  (k:Nat) (x7:Int) (le0:k≤n) (hj:J k x7):∃ m0,Zcz Q m0 x7 x31 (n:Int) ((k:Int)) y3_0:=by
 exact rangeG1 n hb J (fun m0 i x7=>Zcz Q m0 x7 x31 (n:Int) i y3_0) (fun m0 i x7=>Zlr Q m0 x7 x31 (n:Int) i y3_0) (fun k x7 hl_ hj_ m_ ih_=>step k x7 hl_ hj_ m_ ih_) last k x7 le0 hj
def ZnJ (Q:QD) (x0:LL) (y3_0:V):Prop :=
 (x0.length≤big→∃ m0,Zcz Q m0 0 x0 ((x0.length:Int)) 0 y3_0)
theorem Zl0 (Q:QD) (x0:LL) (y3_0:V):ZiC Q x0 y3_0=ZnJ Q x0 y3_0:=by kernel_rfl
def ZoJ (a0 a1:LL) (Q:QD):Prop :=
 (a0.length≤big→iff (decide (((a0.length:Int)) > (4096:Int))) ((True∧True∧True)∧Q (.tup [.v (.int .u64) (V.i 0),.v (.int .i64) (V.i 3)]) []) (cl Zq [.v (.sl Za) (V.l a0),.fn ZaE [.ptr (.own 0) 0]] [.cells [.v (.sl Zp) (V.l a1)]] fun r1 H2=>r1=(.v .bool (r1.V))∧H2=[.cells [.v (.sl Zp) ((((H2.headD .dead).cs).headD .undef).V)]]∧iff r1.V.bool ((True∧True∧True)∧Q (.tup [.v (.int .u64) (V.i 0),.v (.int .i64) (V.i 4)]) []) (cl Zbl [.v (.sl Zp) ((((H2.headD .dead).cs).headD .undef).V),.fn Zd []] [] fun r3 H4=>r3=(.v .bool (r3.V))∧H4=[]∧iff r3.V.bool ((True∧True∧True)∧Q (.tup [.v (.int .u64) (V.i 0),.v (.int .i64) (V.i 2)]) []) (cl Zq [.v (.sl Za) (V.l a0),.fn ZaF [.ptr (.own 0) 0]] [.cells [.fn Zd []]] fun r5 H6=>r5=(.v .bool (r5.V))∧H6=[.cells [.fn Zd []]]∧iff r5.V.bool ((True∧True∧True)∧Q (.tup [.v (.int .u64) (V.i 0),.v (.int .i64) (V.i 2)]) []) (ZiC Q a0 ((((H2.headD .dead).cs).headD .undef).V))))))
theorem Zo2 (a0 a1:LL) (Q:QD) (h:ZoJ a0 a1 Q):cl ZiZ [.v (.sl Za) (V.l a0),.v (.sl Zp) (V.l a1)] [] Q :=
 acalls2 (E:=Zj) (envOk _ _ _ _ _) 0 Tryz.func25 (by kernel_rfl) h
end Go.Proofs.YthhnadeoioeniaaGreat
