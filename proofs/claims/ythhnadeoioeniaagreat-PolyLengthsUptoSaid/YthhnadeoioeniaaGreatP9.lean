/-
  Texts SortL, AbsS, SortA, PolC, KitB, PolD, PolE, AbsK, V0, V1 of this proof, joined.
-/
import Derived.Shelf.Sort.Plain
import Derived.Shelf.Slices.Clone
import Derived.Shelf.Slices.In.SortNone
import Derived.Test.YthhnadeoioeniaaGreatProg
import Derived.Test.YthhnadeoioeniaaGreatP8
namespace Go.Proofs.YthhnadeoioeniaaGreat
open Go.Shelf
def lays190_ren:Go.Shelf.Ren:=⟨fun | 190=>87 | 125=>90 | 258=>132 | 128=>145 | 129=>146 | 302=>172 | 303=>173 | 304=>174 | 305=>175 | 306=>176 | 307=>177 | 308=>178 | 309=>179 | 310=>180 | 333=>195 | 329=>184 | 330=>185 | 334=>196 | 335=>197 | 336=>198 | 344=>204 | n=>n,fun | 31=>26 | 9=>9 | 3=>3 | 46=>139 | 0=>0 | 51=>193 | 53=>31 | 4=>4 | 183=>187 | 182=>186 | 131=>155 | 5=>5 | 218=>222 | 222=>226 | 228=>236 | 229=>83 | n=>n,fun | n=>n⟩
theorem lays190:Go.Proofs.Lays.n190 Tryz.prog lays190_ren:={
 mixed:=by kernel_rfl
 f125:=Tryz.func90.trans (congrArg some (by kernel_rfl))
 f128:=Tryz.func145.trans (congrArg some (by kernel_rfl))
 f129:=Tryz.func146.trans (congrArg some (by kernel_rfl))
 f190:=Tryz.func87.trans (congrArg some (by kernel_rfl))
 f258:=Tryz.func132.trans (congrArg some (by kernel_rfl))
 f302:=Tryz.func172.trans (congrArg some (by kernel_rfl))
 f303:=Tryz.func173.trans (congrArg some (by kernel_rfl))
 f304:=Tryz.func174.trans (congrArg some (by kernel_rfl))
 f305:=Tryz.func175.trans (congrArg some (by kernel_rfl))
 f306:=Tryz.func176.trans (congrArg some (by kernel_rfl))
 f307:=Tryz.func177.trans (congrArg some (by kernel_rfl))
 f308:=Tryz.func178.trans (congrArg some (by kernel_rfl))
 f309:=Tryz.func179.trans (congrArg some (by kernel_rfl))
 f310:=Tryz.func180.trans (congrArg some (by kernel_rfl))
 f329:=Tryz.func184.trans (congrArg some (by kernel_rfl))
 f330:=Tryz.func185.trans (congrArg some (by kernel_rfl))
 f333:=Tryz.func195.trans (congrArg some (by kernel_rfl))
 f334:=Tryz.func196.trans (congrArg some (by kernel_rfl))
 f335:=Tryz.func197.trans (congrArg some (by kernel_rfl))
 f336:=Tryz.func198.trans (congrArg some (by kernel_rfl))
 f344:=Tryz.func204.trans (congrArg some (by kernel_rfl))
 t0:=Tryz.underlying0
 a0:=Tryz.isAgg0
 z0:=Tryz.sizeOf0
 v0:=Tryz.zeroValue0
 t3:=Tryz.underlying3
 a3:=Tryz.isAgg3
 z3:=Tryz.sizeOf3
 v3:=Tryz.zeroValue3
 t4:=Tryz.underlying4
 a4:=Tryz.isAgg4
 z4:=Tryz.sizeOf4
 v4:=Tryz.zeroValue4
 t5:=Tryz.underlying5
 a5:=Tryz.isAgg5
 z5:=Tryz.sizeOf5
 v5:=Tryz.zeroValue5
 t9:=Tryz.underlying9
 a9:=Tryz.isAgg9
 z9:=Tryz.sizeOf9
 v9:=Tryz.zeroValue9
 t31:=Tryz.underlying26
 a31:=Tryz.isAgg26
 z31:=Tryz.sizeOf26
 v31:=Tryz.zeroValue26
 t46:=Tryz.underlying139
 a46:=Tryz.isAgg139
 z46:=Tryz.sizeOf139
 v46:=Tryz.zeroValue139
 t51:=Tryz.underlying193
 a51:=Tryz.isAgg193
 z51:=Tryz.sizeOf193
 v51:=Tryz.zeroValue193
 t53:=Tryz.underlying31
 a53:=Tryz.isAgg31
 z53:=Tryz.sizeOf31
 v53:=Tryz.zeroValue31
 t131:=Tryz.underlying155
 a131:=Tryz.isAgg155
 z131:=Tryz.sizeOf155
 v131:=Tryz.zeroValue155
 t182:=Tryz.underlying186
 a182:=Tryz.isAgg186
 z182:=Tryz.sizeOf186
 v182:=Tryz.zeroValue186
 t183:=Tryz.underlying187
 a183:=Tryz.isAgg187
 z183:=Tryz.sizeOf187
 v183:=Tryz.zeroValue187
 t218:=Tryz.underlying222
 a218:=Tryz.isAgg222
 z218:=Tryz.sizeOf222
 v218:=Tryz.zeroValue222
 t222:=Tryz.underlying226
 a222:=Tryz.isAgg226
 z222:=Tryz.sizeOf226
 v222:=Tryz.zeroValue226
 t228:=Tryz.underlying236
 a228:=Tryz.isAgg236
 z228:=Tryz.sizeOf236
 v228:=Tryz.zeroValue236
 t229:=Tryz.underlying83
 a229:=Tryz.isAgg83
 z229:=Tryz.sizeOf83
 v229:=Tryz.zeroValue83 }
def laysNm215_ren:Go.Shelf.Ren:=⟨fun | 15=>171 | n=>n,fun | 22=>60 | 3=>3 | 4=>4 | n=>n,fun | n=>n⟩
theorem laysNm215:Go.Proofs.Lays2.n15 Tryz.prog laysNm215_ren:={
 mixed:=by kernel_rfl
 f15:=Tryz.func171.trans (congrArg some (by kernel_rfl))
 t3:=Tryz.underlying3
 a3:=Tryz.isAgg3
 z3:=Tryz.sizeOf3
 v3:=Tryz.zeroValue3
 t4:=Tryz.underlying4
 a4:=Tryz.isAgg4
 z4:=Tryz.sizeOf4
 v4:=Tryz.zeroValue4
 t22:=Tryz.underlying60
 a22:=Tryz.isAgg60
 z22:=Tryz.sizeOf60
 v22:=Tryz.zeroValue60
 i3:=by kernel_rfl }
end Go.Proofs.YthhnadeoioeniaaGreat
set_option linter.unusedVariables false
set_option linter.unusedSimpArgs false
namespace Go.Abs
variable {P:Program} {lf:TypeId→List K}
def encV (l:List UInt8):List V:=[V.s ⟨l.toArray⟩]
theorem putCells_get {α:Type} [Inhabited α] (enc:α→Value) (d:Array α) (c:Array Value) (k:Nat) (hk:k<d.size) (hc:d.size≤c.size):(Sort.putCells enc 0 d c).getD k undef=enc d[k]!:=by
 unfold Sort.putCells
 rw [Array.getD_eq_getD_getElem?,Array.getElem?_mapIdx,Array.getElem?_eq_getElem (by omega)]
 simp [hk]
theorem acalls_sort {f:FuncId} {e:TypeId} (T:Tab) (he:lfs T e=[.str])
  (hsort:∀ (blk off cap:Nat) (ss:List (List UInt8)) (w:World),Sort.Holds Proofs.encStr w blk off ss.toArray→blk<w.heap.size→ss.length<4611686018427387904→Calls P f #[.slice (some ⟨blk,off,none⟩) ss.length cap] w fun en w'=>en=.returned (.tuple #[])∧∃ n os,w'=Sort.grow (Sort.putRow Proofs.encStr (Sort.ahead w n) blk off (ss.mergeSort fun x y=>decide (x≤y)).toArray) os)
  (hnil:∀ (p:Option Addr) (cap:Nat) (w:World),Calls P f #[.slice p 0 cap] w fun e w'=>e=.returned (.tuple #[])∧w'=w)
  (ss:List (List UInt8)) (n:Nat) (hn:n=ss.length) (hlim:n≤lim) {Q:D→Heap→Prop} (hQ:Q (.tup []) [.row e ((ss.mergeSort fun x y=>decide (x≤y)).map encV)]) :
  ACalls P (lfs T) f [.osl (.own 0) n] [.row e (ss.map encV)] Q:=by
 intro S vs hH hL hla hmks hwf hlen hrep hloc
 obtain ⟨u0,rfl⟩:∃ u0,vs=[u0]:=by
  match vs,hlen with
  | [u0],_=>exact ⟨u0,rfl⟩
 have h0:RepD (lfs T) S (.osl (.own 0) n) u0:=hrep 0
 have hobj:S.obj (.own 0)=.row e (ss.map encV):=by show S.H.getD 0 .dead=_; rw [hH]; rfl
 have e0:u0=rowVal n (S.blk (.own 0)):=by
  cases h0 with
  | osl _ _ _ _ h=>exact (h e _ hobj).2 (by simp [hn])
 subst e0
 have hss:(ss.mergeSort fun x y=>decide (x≤y)).length=ss.length:=List.length_mergeSort _
 rcases hwf.row hobj with ⟨hb0,hxs0⟩ | ⟨b,c,arr,hb0,hheap,hsz,hnc,hcm,hxl,hrp⟩
 ·have hs0:ss=[]:=by simpa using hxs0
  subst hs0
  rw [hb0]
  have hn0:n=0:=by simpa using hn
  subst hn0
  refine (hnil none 0 S.w).mono ?_
  rintro en w' ⟨rfl,rfl⟩
  refine ⟨_,.tup [],S,rfl,rfl,hL,hla,hmks,hwf,.tup [] [] rfl (repD_of_list rfl fun j hj=>by simp at hj),rfl,Ext.refl S,?_⟩
  rw [hH]
  simpa using hQ
 ·rw [hb0]
  rw [he] at hsz hxl hrp
  have hnc':ss.length≤c:=by simpa using hnc
  have hblt:b<S.w.heap.size:=hwf.lt (.own 0) (b,c) hb0
  have hcell:∀ j,j<ss.length→arr.getD j undef=.string ⟨(ss[j]!).toArray⟩∧(ByteArray.mk (ss[j]!).toArray).size≤big:=fun j hj=>by
   have h1:=hrp j 0 (by simpa using hj) (by simp)
   have h2:((ss.map encV).getD j []).getD 0 V.none=V.s ⟨(ss[j]!).toArray⟩:=by
    have e5:(ss.map encV).getD j []=encV ss[j]!:=by
     rw [List.getD_eq_getElem?_getD,List.getElem?_map,List.getElem?_eq_getElem hj,getElem!_pos ss j hj]; rfl
    rw [e5]; rfl
   rw [h2] at h1
   simp only [List.length_singleton,Nat.mul_one,Nat.add_zero] at h1
   have h3:(([K.str]:List K).getD 0 .oth)=.str:=rfl
   rw [h3] at h1
   generalize arr.getD j undef=u at h1
   generalize hy:V.s ⟨(ss[j]!).toArray⟩=y at h1
   cases h1 with
   | str x hx=>subst hy; exact ⟨rfl,hx⟩
  have hH1:Sort.Holds Proofs.encStr S.w b 0 ss.toArray:=fun j hj=>by
   have hj':j<ss.length:=by simpa using hj
   have hja:j<arr.size:=by rw [hsz]; simp; omega
   refine ⟨?_,?_⟩
   ·rw [Nat.zero_add,cell_of hheap hja,(hcell j hj').1]
    simp [Proofs.encStr,getElem!_pos,hj']
   ·simp [World.frozen?,hheap]
  rw [hn]
  refine (hsort b 0 c ss S.w hH1 hblt (by unfold lim at hlim; omega)).mono ?_
  rintro en w' ⟨rfl,k,os,rfl⟩
  have hin:∀ x,x∈(ss.mergeSort fun x y=>decide (x≤y))→x∈ss:=fun x hx=>List.mem_mergeSort.1 hx
  generalize (ss.mergeSort fun x y=>decide (x≤y))=d at hQ hss hin
  have hheap':∀ i,i<S.w.heap.size→(Sort.grow (Sort.putRow Proofs.encStr (Sort.ahead S.w k) b 0 d.toArray) os).heap[i]?=if i=b then some (.cells (Sort.putCells Proofs.encStr 0 d.toArray arr) e (0,0)) else S.w.heap[i]?:=fun i hi=>by
   simp only [Sort.grow,Sort.putRow,Sort.mapBlock,Sort.ahead]
   rw [Array.getElem?_append_left (by simpa using hi),Array.getElem?_modify]
   by_cases h:b=i
   ·subst h; rw [if_pos rfl,if_pos rfl,hheap]; rfl
   ·rw [if_neg h,if_neg (fun h'=>h h'.symm)]
  generalize hw:Sort.grow (Sort.putRow Proofs.encStr (Sort.ahead S.w k) b 0 d.toArray) os=w' at hheap'
  have hwsz:S.w.heap.size≤w'.heap.size:=by
   rw [← hw]; simp [Sort.grow,Sort.putRow,Sort.mapBlock,Sort.ahead]
  have hpsz:(Sort.putCells Proofs.encStr 0 d.toArray arr).size=arr.size:=by simp [Sort.putCells]
  have hblkl:∀ i,S.blk (.loc i)=none:=fun i=>by show S.la.getD i none=none; rw [hla]; rfl
  have hrel:Rel (lfs T) ⟨[],[]⟩ S.H { tmps:=#[],defers:=[] } S:=⟨rfl,hL,rfl,by unfold marks; rw [hmks]; rfl,fun j=>by
   show RepD _ S (([]:List D).getD j .undef) _
   rw [List.getD_nil]; exact .undef _,hwf⟩
  have hinv:Inv S S:=⟨Ext.refl S,fun i bc h=>(by rw [hblkl] at h; cases h),fun d hd=>by rw [hmks] at hd; cases hd⟩
  have hhas:S.has (.own 0):=by show 0<S.H.length; rw [hH]; simp
  obtain ⟨j1,j2⟩:=S.upd_at hwf hhas (.row e (d.map encV)) (some (b,c)) w'
  obtain ⟨g1,g2,g3⟩:=Rel.upd hrel hinv (.own 0) (.row e (d.map encV)) (some (b,c)) w' hhas hwsz (fun i hi hne=>by
    rw [hheap' i hi,if_neg (fun h=>hne _ hb0 h.symm)]) (by rw [← hw]; rfl) (by rw [← hw]; rfl) (by rw [← hw]; rfl)
   (fun x hx=>by
    cases hx
    exact ⟨.inl ⟨_,hb0,rfl⟩,Nat.lt_of_lt_of_le hblt hwsz⟩)
   (by
    refine ⟨fun bc j3 _=>?_,fun e' xs' j3=>?_,fun e' xs' j3=>(by rw [j1] at j3; cases j3)⟩
    ·rw [j1] at j3; cases j3
    ·rw [j1] at j3; cases j3
     exact ⟨ss.map encV,hobj,by simp [hss],fun _=>by rw [j2,hb0]⟩)
   (fun _ _=>trivial)
   (fun mD mK=>.inr ⟨b,c,Sort.putCells Proofs.encStr 0 d.toArray arr,rfl,by rw [Sig.upd_w,hheap' b hblt,if_pos rfl],by rw [hpsz,he]; exact hsz,by simpa [hss] using hnc',hcm,fun i hi=>by
     rw [he,List.getD_eq_getElem?_getD,List.getElem?_map,List.getElem?_eq_getElem (by simpa using hi)]; rfl,
    fun i j hi hj=>by
     rw [Sig.upd_w,Sig.upd_F]
     rw [he] at hj ⊢
     have hi':i<d.length:=by simpa using hi
     have hj0:j=0:=by simpa using hj
     subst hj0
     have hmem:d[i]∈ss:=hin _ (List.getElem_mem hi')
     obtain ⟨q,hq,hqe⟩:=List.mem_iff_getElem.1 hmem
     have hb:=(hcell q hq).2
     rw [getElem!_pos ss q hq,hqe] at hb
     rw [show i*([K.str]:List K).length+0=i by simp,putCells_get _ _ _ _ (by simpa using hi') (by rw [hsz]; simp; omega)]
     have e6:(d.map encV).getD i []=encV d[i]:=by
      rw [List.getD_eq_getElem?_getD,List.getElem?_map,List.getElem?_eq_getElem hi']; rfl
     rw [e6]
     have:(encV d[i]).getD 0 V.none=V.s ⟨d[i].toArray⟩:=rfl
     rw [this]
     have e3:Proofs.encStr d.toArray[i]! = .string (V.s ⟨d[i].toArray⟩).str:=by
      simp [Proofs.encStr,getElem!_pos,hi',V.str]
     rw [e3]
     exact .str _ hb⟩)
  refine ⟨_,.tup [],S.upd (.own 0) (.row e (d.map encV)) (some (b,c)) w',rfl,Sig.upd_w _ _ _ _ _,hL,hla,hmks,g1.wf,.tup [] [] rfl (repD_of_list rfl fun j hj=>by simp at hj),rfl,g2.ext,?_⟩
  have:(S.upd (.own 0) (.row e (d.map encV)) (some (b,c)) w').H=[.row e (d.map encV)]:=by show S.H.set 0 _=_; rw [hH]; rfl
  rw [this]; exact hQ
end Go.Abs
namespace Go.Proofs.YthhnadeoioeniaaGreat
open Go Go.Abs
def bleL (x y:List UInt8):Bool:=decide (x≤y)
def sortL (l:List (List UInt8)):List (List UInt8):=l.mergeSort bleL
def byL (l:List UInt8):ByteArray:=⟨l.toArray⟩
theorem byL_data (x:ByteArray):byL x.data.toList=x:=by cases x; simp [byL]
theorem sort_len (l:List ByteArray):(sortL (l.map fun x=>x.data.toList)).length=l.length:=by simp [sortL,List.length_mergeSort]
theorem slices_Sort_ok (l:List ByteArray) (n:Nat) (hn:n=l.length) (hlim:n≤lim) {Q:D→Heap→Prop}
  (hQ:Q (.tup []) [.row Zb ((sortL (l.map fun x=>x.data.toList)).map fun x=>[V.s (byL x)])]):cl ZcX [.osl (.own 0) n] [.row Zb (l.map fun x=>[V.s x])] Q:=by
 have hQ':Q (.tup []) [.row Zb (List.map encV ((l.map fun x=>x.data.toList).mergeSort fun x y=>decide (x≤y)))]:=hQ
 have h:=acalls_sort (f:=ZcX) (e:=Zb) tab (by kernel_rfl)
  (fun blk off cap ss w h1 h2 h3=>Any.slices_Sort_string lays190 blk off cap ss w h1 h2 h3) (fun p cap w=>Any.slices_Sort_string_none lays190 p cap w)
  (l.map fun x=>x.data.toList) n (by simp [hn]) hlim (Q:=Q) hQ'
 have e:(l.map fun x=>x.data.toList).map encV=l.map fun x=>[V.s x]:=by
  rw [List.map_map]
  refine List.map_congr_left fun x _=>?_
  show [V.s (byL x.data.toList)]=_
  rw [byL_data]
 rw [e] at h
 exact h
end Go.Proofs.YthhnadeoioeniaaGreat
namespace Go.Proofs.YthhnadeoioeniaaGreat
abbrev Pm:=List (ByteArray×Nat)
def lookP (m:Pm) (k:ByteArray):Nat:=((m.find? fun p=>decide (k=p.1)).map (·.2)).getD 0
def setP:Pm→ByteArray→Nat→Pm
 | [],k,w=>[(k,w)]
 | p::m,k,w=>if k=p.1 then (k,w)::m else p::setP m k w
theorem lookP_cons (p:ByteArray×Nat) (m:Pm) (k:ByteArray):lookP (p::m) k=if k=p.1 then p.2 else lookP m k:=by
 unfold lookP
 rw [List.find?_cons]
 by_cases h:k=p.1
 ·rw [if_pos h,decide_eq_true h]; rfl
 ·rw [if_neg h,decide_eq_false h]
theorem lookP_none {m:Pm} {k:ByteArray} (h:∀ p∈m,p.1≠k):lookP m k=0:=by
 induction m with
 | nil=>rfl
 | cons p m ih=>rw [lookP_cons,if_neg fun e=>h p (by simp) e.symm,ih fun q hq=>h q (by simp [hq])]
theorem setP_none {m:Pm} {k:ByteArray} {w:Nat} (h:∀ p∈m,p.1≠k):setP m k w=m++[(k,w)]:=by
 induction m with
 | nil=>rfl
 | cons p m ih=>rw [setP,if_neg fun e=>h p (by simp) e.symm,ih fun q hq=>h q (by simp [hq])]; rfl
theorem look_set {m m':Pm} {k:ByteArray} {v:Nat} (hp:m.Perm ((k,v)::m')) (hn:∀ p∈m',p.1≠k) (w:Nat):lookP m k=v∧(setP m k w).Perm ((k,w)::m'):=by
 induction m generalizing m' with
 | nil=>have:=hp.length_eq; simp at this
 | cons p m ih =>
  rw [lookP_cons,setP]
  have hpin:p∈(k,v)::m':=hp.mem_iff.1 (by simp)
  by_cases h:k=p.1
  ·rw [if_pos h,if_pos h]
   rcases List.mem_cons.1 hpin with e | e
   ·subst e
    exact ⟨rfl,(hp.cons_inv).cons _⟩
   ·exact absurd h.symm (hn p e)
  ·rw [if_neg h,if_neg h]
   rcases List.mem_cons.1 hpin with e | e
   ·rw [e] at h; exact absurd rfl h
   ·obtain ⟨a,b,hab⟩:=List.append_of_mem e
    have hp2:m.Perm ((k,v)::(a++b)):=by
     refine List.Perm.cons_inv (a:=p) (hp.trans ?_)
     rw [hab]
     exact (List.perm_middle.cons _).trans (.swap _ _ _)
    obtain ⟨i1,i2⟩:=ih hp2 fun q hq=>hn q (by rw [hab]; simp only [List.mem_append,List.mem_cons] at hq ⊢; exact hq.elim .inl fun h=>.inr (.inr h))
    refine ⟨i1,?_⟩
    rw [hab]
    refine (i2.cons p).trans ((List.Perm.swap _ _ _).trans ?_)
    exact List.perm_middle.symm.cons _
def keyB (e:List Int):ByteArray:=byL (keyL 0 e)
theorem keyB_inj {n:Nat} {l m:List Int} (hn:n≤65536) (hl:ValidE n l) (hm:ValidE n m) (h:keyB l=keyB m):l=m:=by
 have h2:keyL 0 l=keyL 0 m:=by
  have:=congrArg (fun b:ByteArray=>b.data.toList) h
  simpa [keyB,byL] using this
 exact keyL_inj l m 0 (by rw [hl.1,hm.1]) hl.2 hm.2 (by rw [hl.1]; omega) h2
def entP (x:Mo):ByteArray×Nat:=(keyB x.exps,x.coef)
def RepM (m:Pm) (l:Mos):Prop:=m.Perm (l.map entP)
theorem RepM.length {m:Pm} {l:Mos} (h:RepM m l):m.length=l.length:=by have:=List.Perm.length_eq h; simpa using this
def SmallP (n:Nat) (l:Mos):Prop:=∀ x∈l,ValidE n x.exps∧x.coef≤maxV∧∀ e∈x.exps,e≤1048576
theorem any_perm {α:Type} {p:α→Bool} {l m:List α} (h:l.Perm m):l.any p=m.any p:=by
 rw [Bool.eq_iff_iff,List.any_eq_true,List.any_eq_true]
 exact ⟨fun ⟨x,hx,hp⟩=>⟨x,h.mem_iff.1 hx,hp⟩,fun ⟨x,hx,hp⟩=>⟨x,h.mem_iff.2 hx,hp⟩⟩
theorem largeP_perm {l m:Mos} (h:l.Perm m):largeP l=largeP m:=by
 unfold largeP
 rw [h.length_eq,any_perm h]
theorem bigMo_small {x:Mo} (h:x.coef≤maxV) (h2:∀ e∈x.exps,e≤1048576):bigMo x=false:=by
 unfold bigMo
 rw [Bool.or_eq_false_iff]
 refine ⟨decide_eq_false (by omega),?_⟩
 rw [List.any_eq_false]
 intro e he
 have:=h2 e he
 simpa using this
theorem small_any {n:Nat} {l:Mos} (h:SmallP n l):l.any bigMo=false:=by
 rw [List.any_eq_false]
 intro x hx
 obtain ⟨_,h2,h3⟩:=h x hx
 rw [bigMo_small h2 h3]; simp
theorem rep_add {n:Nat} (hn:n≤65536) {m:Pm} {l:Mos} {x:Mo} (hs:SortP l) (hr:RepM m l) (hl:SmallP n l) (hx:SmallP n [x]) :
  largeP (addP l x)=!(decide (lookP m (keyB x.exps)+x.coef≤maxV)&&decide ((setP m (keyB x.exps) (lookP m (keyB x.exps)+x.coef)).length≤4096)) ∧
  (lookP m (keyB x.exps)+x.coef≤maxV→RepM (setP m (keyB x.exps) (lookP m (keyB x.exps)+x.coef)) (addP l x)∧SmallP n (addP l x)):=by
 obtain ⟨v1,v2,v3⟩:=hx x (by simp)
 by_cases hin:∃ y∈l,y.exps=x.exps
 ·obtain ⟨y,hy,e⟩:=hin
  obtain ⟨l',p1,p2⟩:=addP_old hs y hy e
  have hyc:=(hl y hy).2.1
  have hl':∀ z∈l',z∈l:=fun z hz=>p1.mem_iff.2 (by simp [hz])
  have hnd:∀ z∈l',z.exps≠x.exps:=fun z hz he=>by
   have hp3:(y::l').Pairwise fun a b=>a.exps≠b.exps:=by
    refine (p1.pairwise_iff (fun {a b} h=>h.symm)).1 (hs.imp fun {a b} h he=>?_)
    rw [he,cmpE_self] at h; cases h
   exact (List.pairwise_cons.1 hp3).1 z hz (by rw [e,he])
  have hm:m.Perm ((keyB x.exps,y.coef)::l'.map entP):=by
   have:=List.Perm.trans hr (p1.map entP)
   rw [List.map_cons] at this
   have ey:entP y=(keyB x.exps,y.coef):=by unfold entP; rw [e]
   rw [ey] at this; exact this
  have hk:∀ p∈l'.map entP,p.1≠keyB x.exps:=fun p hp he=>by
   obtain ⟨z,hz,rfl⟩:=List.mem_map.1 hp
   exact hnd z hz (keyB_inj hn (hl z (hl' z hz)).1 v1 he)
  have hlk:lookP m (keyB x.exps)=y.coef:=(look_set hm hk 0).1
  rw [hlk]
  have hset:=(look_set hm hk (y.coef+x.coef)).2
  have hlen:(setP m (keyB x.exps) (y.coef+x.coef)).length=l'.length+1:=by rw [hset.length_eq]; simp
  have hpl:plusP y.coef x.coef=if y.coef+x.coef≤maxV then y.coef+x.coef else plusP y.coef x.coef:=by
   split
   ·unfold plusP; show min _ 4611686018427387905=_
    rename_i h
    have h:y.coef+x.coef≤4611686018427387904:=h
    omega
   ·rfl
  have hl'b:l'.any bigMo=false:=by
   rw [List.any_eq_false]
   intro z hz
   obtain ⟨_,h2,h3⟩:=hl z (hl' z hz)
   rw [bigMo_small h2 h3]; simp
  refine ⟨?_,fun hle=>⟨?_,?_⟩⟩
  ·rw [largeP_perm p2,hlen]
   unfold largeP
   rw [List.any_cons,hl'b,Bool.or_false,List.length_cons]
   by_cases hle:y.coef+x.coef≤maxV
   ·rw [decide_eq_true hle,Bool.true_and]
    rw [if_pos hle] at hpl
    rw [bigMo_small (x:=⟨plusP y.coef x.coef,x.exps⟩) (by show plusP _ _≤_; rw [hpl]; exact hle) v3,Bool.or_false,← decide_not]
    exact decide_eq_decide.2 (by omega)
   ·rw [decide_eq_false hle,Bool.false_and,Bool.not_false]
    have:bigMo ⟨plusP y.coef x.coef,x.exps⟩=true:=by
     unfold bigMo
     rw [Bool.or_eq_true]
     refine .inl (decide_eq_true ?_)
     show maxV<min (y.coef+x.coef) 4611686018427387905
     have h9:¬ y.coef+x.coef≤4611686018427387904:=hle
     show 4611686018427387904<_
     omega
    rw [this,Bool.or_true]
  ·rw [if_pos hle] at hpl
   refine hset.trans (List.Perm.symm ?_)
   have:=p2.map entP
   rw [List.map_cons,hpl] at this
   exact this
  ·rw [if_pos hle] at hpl
   intro z hz
   rcases List.mem_cons.1 (p2.mem_iff.1 hz) with rfl | hz
   ·exact ⟨v1,by show plusP _ _≤_; rw [hpl]; exact hle,v3⟩
   ·exact hl z (hl' z hz)
 ·have hne:∀ y∈l,y.exps≠x.exps:=fun y hy e=>hin ⟨y,hy,e⟩
  have p2:=addP_new hne
  have hk:∀ p∈m,p.1≠keyB x.exps:=fun p hp he=>by
   obtain ⟨z,hz,rfl⟩:=List.mem_map.1 (List.Perm.mem_iff hr |>.1 hp)
   exact hne z hz (keyB_inj hn (hl z hz).1 v1 he)
  rw [lookP_none hk,setP_none hk,Nat.zero_add]
  refine ⟨?_,fun hle=>⟨?_,?_⟩⟩
  ·rw [largeP_perm p2,decide_eq_true v2,Bool.true_and]
   unfold largeP
   rw [List.any_cons,small_any hl,bigMo_small v2 v3,Bool.or_false,Bool.or_false,← decide_not,List.length_cons,List.length_append,hr.length]
   exact decide_eq_decide.2 (by simp only [List.length_cons,List.length_nil]; omega)
  ·have h1:(m++[(keyB x.exps,x.coef)]).Perm ((keyB x.exps,x.coef)::m):=List.perm_append_singleton _ _
   refine h1.trans ((hr.cons _).trans ?_)
   have:=(p2.map entP).symm
   rw [List.map_cons] at this
   exact this
  ·intro z hz
   rcases List.mem_cons.1 (p2.mem_iff.1 hz) with rfl | hz
   ·exact ⟨v1,v2,v3⟩
   ·exact hl z hz
end Go.Proofs.YthhnadeoioeniaaGreat
namespace Go.Proofs.YthhnadeoioeniaaGreat
open Go.Abs
inductive Tm where
 | mk (name:ByteArray) (var:Bool) (args:List Tm)
namespace Tm
def name:Tm→ByteArray | mk n _ _=>n
def var:Tm→Bool | mk _ v _=>v
def args:Tm→List Tm | mk _ _ xs=>xs
theorem eta:∀ t:Tm,t=mk t.name t.var t.args | mk _ _ _=>rfl
theorem ext {s t:Tm} (h1:s.name=t.name) (h2:s.var=t.var) (h3:s.args=t.args):s=t:=by
 rw [eta s,eta t,h1,h2,h3]
mutual
def enc:Tm→List V | mk n v xs=>[.s n,.b v,.l (encL xs)]
def encL:List Tm→List (List V) | []=>[] | t::r=>t.enc::encL r
end
mutual
def size:Tm→Nat | mk _ _ xs=>1+sizeL xs
def sizeL:List Tm→Nat | []=>0 | t::r=>t.size+sizeL r
end
mutual
def depth:Tm→Nat | mk _ _ xs=>depthL xs+1
def depthL:List Tm→Nat | []=>0 | t::r=>max t.depth (depthL r)
end
mutual
def formed:Tm→Bool | mk n v xs=>if v then nameOk n false&&xs.isEmpty else nameOk n true&&decide (xs.length≤8)&&formedL xs
def formedL:List Tm→Bool | []=>true | t::r=>t.formed&&formedL r
end
theorem enc_eq:∀ t:Tm,t.enc=[.s t.name,.b t.var,.l (encL t.args)] | mk _ _ _=>rfl
theorem size_eq:∀ t:Tm,t.size=1+sizeL t.args | mk _ _ _=>rfl
theorem depth_eq:∀ t:Tm,t.depth=depthL t.args+1 | mk _ _ _=>rfl
theorem encL_eq:∀ (l:List Tm),encL l=l.map enc
 | []=>rfl
 | t::r=>by simp [encL,encL_eq r]
theorem encL_length (l:List Tm):(encL l).length=l.length:=by simp [encL_eq]
theorem encL_getD (l:List Tm) (k:Nat) (h:k<l.length):(encL l).getD k []=(l[k]).enc:=by
 rw [encL_eq,List.getD_eq_getElem?_getD,List.getElem?_map,List.getElem?_eq_getElem h]; rfl
theorem ind {p:Tm→Prop} (h:∀ t:Tm,(∀ a∈t.args,p a)→p t):∀ t,p t
 | mk n v xs=>h (mk n v xs) fun a ha=>ind h a
termination_by t=>SizeOf.sizeOf t
decreasing_by
 have:=List.sizeOf_lt_of_mem (show a∈xs from ha)
 simp; omega
theorem size_pos (t:Tm):1≤t.size:=by rw [size_eq]; omega
theorem sizeL_mem:∀ {l:List Tm} {a:Tm},a∈l→a.size≤sizeL l
 | t::r,a,h=>by
  rcases List.mem_cons.1 h with rfl | h
  ·simp [sizeL]
  ·have:=sizeL_mem h; simp [sizeL]; omega
theorem size_mem {t a:Tm} (h:a∈t.args):a.size<t.size:=by have:=sizeL_mem h; rw [size_eq t]; omega
theorem sizeL_append:∀ (l r:List Tm),sizeL (l++r)=sizeL l+sizeL r
 | [],r=>by simp [sizeL]
 | t::l,r=>by simp [sizeL,sizeL_append l r]; omega
theorem sizeL_take (l:List Tm) (k:Nat) (h:k<l.length):sizeL (l.take (k+1))=sizeL (l.take k)+l[k].size:=by
 rw [List.take_succ_eq_append_getElem h,sizeL_append]; simp [sizeL]
theorem sizeL_take_le (l:List Tm) (k:Nat):sizeL (l.take k)≤sizeL l:=by
 have:=sizeL_append (l.take k) (l.drop k)
 rw [List.take_append_drop] at this; omega
theorem length_sizeL:∀ (l:List Tm),l.length≤sizeL l
 | []=>by simp [sizeL]
 | t::r=>by have:=length_sizeL r; have:=size_pos t; simp [sizeL]; omega
theorem depthL_append:∀ (l r:List Tm),depthL (l++r)=max (depthL l) (depthL r)
 | [],r=>by simp [depthL]
 | t::l,r=>by simp [depthL,depthL_append l r,Nat.max_assoc]
theorem depthL_take (l:List Tm) (k:Nat) (h:k<l.length):depthL (l.take (k+1))=max (depthL (l.take k)) l[k].depth:=by
 rw [List.take_succ_eq_append_getElem h,depthL_append]; simp [depthL]
theorem depthL_le_sizeL {l:List Tm} (h:∀ a∈l,a.depth≤a.size):depthL l≤sizeL l:=by
 induction l with
 | nil=>simp [depthL]
 | cons t r ih =>
  have h1:=h t (by simp)
  have h2:=ih fun a ha=>h a (by simp [ha])
  simp [depthL,sizeL]; omega
theorem depth_le_size:∀ t:Tm,t.depth≤t.size:=ind fun t ih=>by
 have:=depthL_le_sizeL ih
 rw [depth_eq,size_eq]; omega
theorem formedL_eq:∀ (l:List Tm),formedL l=l.all formed
 | []=>rfl
 | t::r=>by simp [formedL,formedL_eq r]
theorem formed_eq:∀ t:Tm,t.formed=if t.var then nameOk t.name false&&t.args.isEmpty else nameOk t.name true&&decide (t.args.length≤8)&&t.args.all formed
 | mk n v xs=>by
  simp only [formed,name,var,args,formedL_eq]
  try rfl
def check (t:Tm):Int:=if t.formed then (if t.size≤4000∧t.depth≤200 then 0 else 3) else 4
def checkAll:List Tm→Int
 | []=>0
 | t::r=>if t.check=0 then checkAll r else t.check
theorem check_zero {t:Tm}:t.check=0↔t.formed=true∧t.size≤4000∧t.depth≤200:=by
 unfold check
 cases t.formed with
 | false=>simp
 | true=>by_cases h:t.size≤4000∧t.depth≤200 <;> simp [h]
theorem checkAll_zero:∀ {l:List Tm},checkAll l=0↔∀ t∈l,t.check=0
 | []=>by simp [checkAll]
 | t::r=>by
  simp only [checkAll]
  by_cases h:t.check=0
  ·simp [h,checkAll_zero (l:=r)]
  ·simp [h]
def cmpI (a b:Int):Int:=if a<b then -1 else if b<a then 1 else 0
mutual
def cmp:Tm→Tm→Int
 | mk n v xs,mk m w ys =>
  if v≠w then (if v then -1 else 1)
  else if cmpN n m≠0 then cmpN n m
  else if cmpI xs.length ys.length≠0 then cmpI xs.length ys.length
  else cmpL xs ys
def cmpL:List Tm→List Tm→Int
 | t::r,s::q=>if cmp t s≠0 then cmp t s else cmpL r q
 | _,_=>0
end
theorem cmp_eq:∀ a b:Tm,cmp a b=if a.var≠b.var then (if a.var then -1 else 1)
  else if cmpN a.name b.name≠0 then cmpN a.name b.name
  else if cmpI a.args.length b.args.length≠0 then cmpI a.args.length b.args.length
  else cmpL a.args b.args
 | mk _ _ _,mk _ _ _=>rfl
theorem cmpI_zero {a b:Int}:cmpI a b=0↔a=b:=by unfold cmpI; split <;> (try split) <;> omega
theorem cmpL_zero:∀ {l r:List Tm},l.length=r.length→(∀ a∈l,∀ b,cmp a b=0↔a=b)→(cmpL l r=0↔l=r)
 | [],[],_,_=>by simp [cmpL]
 | [],_::_,h,_=>by simp at h
 | _::_,[],h,_=>by simp at h
 | t::l,s::r,h,ih=>by
  have h1:=ih t (by simp) s
  have h2:=cmpL_zero (l:=l) (r:=r) (by simpa using h) fun a ha=>ih a (by simp [ha])
  simp only [cmpL]
  by_cases h3:cmp t s=0
  ·rw [if_neg (by simp [h3]),h2]
   have:=h1.1 h3
   subst this
   simp
  ·simp [h3]
   intro h4; exact absurd (h1.2 h4) h3
theorem cmp_zero:∀ {a b:Tm},cmp a b=0↔a=b:=fun {a b}=>ind (p:=fun a=>∀ b,cmp a b=0↔a=b) (fun a ih b=>by
 rw [cmp_eq]
 by_cases h1:a.var=b.var
 ·rw [if_neg (by simp [h1])]
  by_cases h2:cmpN a.name b.name=0
  ·rw [if_neg (by simp [h2])]
   by_cases h3:cmpI a.args.length b.args.length=0
   ·rw [if_neg (by simp [h3])]
    have h4:=cmpI_zero.1 h3
    rw [cmpL_zero (by omega) ih]
    exact ⟨fun h=>ext (cmpN_zero.1 h2) h1 h,fun h=>by rw [h]⟩
   ·rw [if_pos h3]
    exact ⟨fun h=>absurd h h3,fun h=>by rw [h] at h3; exact absurd (cmpI_zero.2 rfl) h3⟩
  ·rw [if_pos h2]
   exact ⟨fun h=>absurd h h2,fun h=>by rw [h] at h2; exact absurd (cmpN_self _) h2⟩
 ·rw [if_pos h1]
  constructor
  ·intro h; exfalso; revert h; cases a.var <;> simp
  ·intro h; exact absurd (by rw [h]) h1) a b
def eqB (a b:Tm):Bool:=decide (cmp a b=0)
theorem eqB_iff {a b:Tm}:eqB a b=true↔a=b:=by unfold eqB; rw [decide_eq_true_iff,cmp_zero]
end Tm
abbrev tD (t:Tm):D:=.agg [.v .str (.s t.name),.v .bool (.b t.var),.v (.sl Za) (.l (Tm.encL t.args))]
abbrev tsD (l:List Tm):D:=.v (.sl Za) (.l (Tm.encL l))
end Go.Proofs.YthhnadeoioeniaaGreat
namespace Go.Proofs.YthhnadeoioeniaaGreat
theorem addP_bigm {m:Mo} (hb:bigMo m=true):∀ l:Mos,(addP l m).any bigMo=true
 | []=>by simp [addP,hb]
 | x::l=>by
  rcases cmpE_cases x.exps m.exps with g | g | g
  ·rw [addP_lt g,List.any_cons,addP_bigm hb l,Bool.or_true]
  ·rw [addP_eq g,List.any_cons,Bool.or_eq_true]
   left
   unfold bigMo at hb ⊢
   rw [Bool.or_eq_true] at hb ⊢
   refine hb.imp (fun h=>decide_eq_true ?_) (fun h=>by rw [cmpE_zero.1 g]; exact h)
   have h:4611686018427387904<m.coef:=of_decide_eq_true h
   show 4611686018427387904<min (x.coef+m.coef) 4611686018427387905
   omega
  ·rw [addP_gt g,List.any_cons,hb]; rfl
theorem addP_largem {m:Mo} (hb:bigMo m=true) (l:Mos):largeP (addP l m)=true:=by
 unfold largeP; rw [addP_bigm hb l,Bool.or_true]
theorem addsP_append (l a b:Mos):addsP l (a++b)=addsP (addsP l a) b:=List.foldl_append
theorem addsP_snoc (l a:Mos) (m:Mo):addsP l (a++[m])=addP (addsP l a) m:=by rw [addsP_append]; rfl
theorem mul_fail {a b pre rest:Mos} (hp:(pre++rest).Perm (pairsP a b)) (h:largeP (addsP [] pre)=true):mulP a b=none:=by
 unfold mulP
 rw [← addsP_perm hp [] (fun x hx=>pairsP_coef a b x (hp.mem_iff.1 hx)) (fun x hx=>by simp at hx),addsP_append,addsP_large h]; rfl
theorem mul_done {a b pre:Mos} (hp:pre.Perm (pairsP a b)) (h:largeP (addsP [] pre)=false):mulP a b=some (addsP [] pre):=by
 unfold mulP
 rw [← addsP_perm hp [] (fun x hx=>pairsP_coef a b x (hp.mem_iff.1 hx)) (fun x hx=>by simp at hx),h]; rfl
def expsOk (l:List Int):Bool:=l.all fun e=>decide (e≤1048576)
theorem expsOk_any (l:List Int):(l.any fun n=>decide (1048576<n))=!(expsOk l):=by
 unfold expsOk
 rw [List.all_eq_not_any_not,Bool.not_not]
 congr 1
 funext n
 rw [← decide_not]
 exact decide_eq_decide.2 (by omega)
theorem mulMo_big (x y:Mo):bigMo (mulMo x y)=!(expsOk (addE x.exps y.exps)&&decide (x.coef*y.coef≤maxV)):=by
 unfold bigMo
 show (decide (maxV<min (x.coef*y.coef) 4611686018427387905)||(addE x.exps y.exps).any _)=_
 rw [expsOk_any,Bool.not_and,Bool.or_comm]
 congr 1
 rw [← decide_not]
 refine decide_eq_decide.2 ?_
 show 4611686018427387904<min (x.coef*y.coef) 4611686018427387905↔¬ x.coef*y.coef≤4611686018427387904
 omega
theorem addE_valid {n:Nat}:∀ {l m:List Int},l.length=m.length→(∀ e∈l,0≤e∧e≤1048576)→(∀ e∈m,0≤e∧e≤1048576)→∀ e∈addE l m,0≤e∧e≤2097152
 | [],[],_,_,_,e,he=>by simp [addE] at he
 | [],_::_,h,_,_,_,_=>by simp at h
 | _::_,[],h,_,_,_,_=>by simp at h
 | a::l,b::m,h,h1,h2,e,he=>by
  simp only [addE,List.mem_cons] at he
  rcases he with rfl | he
  ·have:=h1 a (by simp)
   have:=h2 b (by simp)
   omega
  ·exact addE_valid (n:=n) (by simpa using h) (fun e he=>h1 e (by simp [he])) (fun e he=>h2 e (by simp [he])) e he
theorem mulMo_small {n:Nat} {x y:Mo} (hx:SmallP n [x]) (hy:SmallP n [y]) (h:bigMo (mulMo x y)=false):SmallP n [mulMo x y]∧(mulMo x y).coef=x.coef*y.coef:=by
 obtain ⟨x1,x2,x3⟩:=hx x (by simp)
 obtain ⟨y1,y2,y3⟩:=hy y (by simp)
 rw [mulMo_big] at h
 simp only [Bool.not_eq_false',Bool.and_eq_true,decide_eq_true_iff] at h
 have hc:(mulMo x y).coef=x.coef*y.coef:=by
  show min _ 4611686018427387905=_
  have h2:x.coef*y.coef≤4611686018427387904:=h.2
  omega
 refine ⟨fun z hz=>?_,hc⟩
 have hz:z=mulMo x y:=by simpa using hz
 subst hz
 have hlen:x.exps.length=y.exps.length:=by rw [x1.1,y1.1]
 have hv:=addE_valid (n:=n) hlen (fun e he=>⟨(x1.2 e he).1,x3 e he⟩) (fun e he=>⟨(y1.2 e he).1,y3 e he⟩)
 refine ⟨⟨by show (addE _ _).length=n; rw [addE_length _ _ hlen]; exact x1.1,fun e he=>?_⟩,by rw [hc]; exact h.2,fun e he=>?_⟩
 ·have:=hv e he; omega
 ·have:=List.all_eq_true.1 h.1 e he
  simpa using this
theorem keyL_nil:∀ (l:List Int) (i:Nat),(∀ e∈l,0≤e)→keyL i l=[]→∀ e∈l,e=0
 | [],_,_,_,e,he=>by simp at he
 | a::l,i,h,hk,e,he=>by
  rw [keyL] at hk
  have ha:=h a (by simp)
  by_cases a0:0<a
  ·rw [if_pos a0] at hk; simp [powL] at hk
  ·rw [if_neg a0,List.nil_append] at hk
   rcases List.mem_cons.1 he with rfl | he
   ·omega
   ·exact keyL_nil l (i+1) (fun e he=>h e (by simp [he])) hk e he
theorem addE_zero_left:∀ (l m:List Int),l.length=m.length→(∀ e∈l,e=0)→addE l m=m
 | [],[],_,_=>rfl
 | [],_::_,h,_=>by simp at h
 | _::_,[],h,_=>by simp at h
 | a::l,b::m,h,h0=>by
  have:=h0 a (by simp)
  rw [addE,addE_zero_left l m (by simpa using h) fun e he=>h0 e (by simp [he]),this]; simp
theorem addE_comm:∀ l m:List Int,addE l m=addE m l
 | [],[]=>rfl
 | [],_::_=>rfl
 | _::_,[]=>rfl
 | a::l,b::m=>by rw [addE,addE,addE_comm l m,Int.add_comm]
theorem skip0:∀ (l m:List Int) (i:Nat),l.length=m.length→(∀ e∈l,0≤e)→(∀ e∈m,0≤e)→keyL i l≠[] →
  ∃ j a l' b m',(0<a∨0<b)∧0≤a∧0≤b∧i≤j∧j+(l'.length+1)=i+l.length∧l'.length=m'.length∧(∀ e∈l',e∈l)∧(∀ e∈m',e∈m)∧a∈l∧b∈m ∧
   keyL i l=keyL j (a::l')∧keyL i m=keyL j (b::m')∧keyL i (addE l m)=keyL j (addE (a::l') (b::m'))∧expsOk (addE l m)=expsOk (addE (a::l') (b::m'))
 | [],_,_,_,_,_,h=>absurd rfl h
 | _::_,[],_,h,_,_,_=>by simp at h
 | a::l,b::m,i,hl,h1,h2,hk=>by
  have ha:=h1 a (by simp)
  have hb:=h2 b (by simp)
  by_cases h0:0<a∨0<b
  ·exact ⟨i,a,l,b,m,h0,ha,hb,Nat.le_refl _,by simp,by simpa using hl,fun e he=>by simp [he],fun e he=>by simp [he],by simp,by simp,rfl,rfl,rfl,rfl⟩
  ·have a0:a=0:=by omega
   have b0:b=0:=by omega
   subst a0 b0
   have e1:∀ r:List Int,keyL i (0::r)=keyL (i+1) r:=fun r=>by rw [keyL,if_neg (by omega),List.nil_append]
   rw [e1] at hk
   obtain ⟨j,a',l',b',m',g1,g2,g3,g4,g5,g6,g7,g8,g9,g10,g11,g12,g13,g14⟩:=skip0 l m (i+1) (by simpa using hl) (fun e he=>h1 e (by simp [he])) (fun e he=>h2 e (by simp [he])) hk
   refine ⟨j,a',l',b',m',g1,g2,g3,by omega,by rw [List.length_cons]; omega,g6,fun e he=>by simp [g7 e he],fun e he=>by simp [g8 e he],by simp [g9],by simp [g10],by rw [e1]; exact g11,by rw [e1]; exact g12,?_,?_⟩
   ·rw [addE]
    show keyL i (0::addE l m)=_
    rw [e1]; exact g13
   ·rw [← g14,addE]
    unfold expsOk
    rw [List.all_cons]; rfl
def zerosE (n:Nat):List Int:=List.replicate n 0
def unitE (n i:Nat):List Int:=(List.range n).map fun j=>if j=i then 1 else 0
def uV (vars:List ByteArray) (x:ByteArray):List Int:=vars.map fun y=>if y=x then 1 else 0
def vanP:List Int→List Mos→Bool
 | e::es,p::ps=>(decide (0<e)&&p.isEmpty)||vanP es ps
 | _,_=>false
def powP (p:Mos):Nat→Mos→Option Mos
 | 0,x=>some x
 | k+1,x=>(mulP x p).bind (powP p k)
def chainP:List Int→List Mos→Mos→Option Mos
 | e::es,p::ps,x=>(powP p e.toNat x).bind (chainP es ps)
 | _,_,x=>some x
def monoP (n:Nat) (m:Mo) (args:List Mos):Option Mos:=if vanP m.exps args then some [] else chainP m.exps args [⟨m.coef,zerosE n⟩]
def insertP (n:Nat) (args:List Mos):Mos→Mos→Option Mos
 | [],out=>some out
 | m::ms,out=>match monoP n m args with
  | none=>none
  | some x=>if largeP (addsP out x) then none else insertP n args ms (addsP out x)
structure Pl where
 name:ByteArray
 monos:Mos
abbrev Pls:=List Pl
def entPl (l:Pls) (x:ByteArray) (n:Nat):Mos×Bool:=match l.find? fun y=>decide (y.name=x) with
 | some y=>(y.monos,y.monos.isEmpty||decide ((y.monos.headD ⟨0,[]⟩).exps.length=n))
 | none=>((List.range n).reverse.map fun i=>⟨1,unitE n i⟩,true)
mutual
def polyT (l:Pls) (vars:List ByteArray):Tm→Option Mos
 | .mk x v xs=>if v then some [⟨1,uV vars x⟩] else match polyL l vars xs with
  | none=>none
  | some ps=>insertP vars.length ps (entPl l x xs.length).1 []
def polyL (l:Pls) (vars:List ByteArray):List Tm→Option (List Mos)
 | []=>some []
 | t::r=>match polyT l vars t with
  | none=>none
  | some p=>match polyL l vars r with
   | none=>none
   | some ps=>some (p::ps)
end
end Go.Proofs.YthhnadeoioeniaaGreat
set_option linter.unusedSectionVars false
namespace Go.Proofs.YthhnadeoioeniaaGreat
def monV:List Nat→List Int→Nat
 | v::vs,e::es=>v ^ e.toNat*monV vs es
 | _,_=>1
def moV (vs:List Nat) (x:Mo):Nat:=x.coef*monV vs x.exps
def evalP (vs:List Nat) (l:Mos):Nat:=(l.map (moV vs)).sum
theorem evalP_cons (vs:List Nat) (x:Mo) (l:Mos):evalP vs (x::l)=moV vs x+evalP vs l:=by unfold evalP; rw [List.map_cons,List.sum_cons]
theorem evalP_perm (vs:List Nat) {l m:Mos} (h:l.Perm m):evalP vs l=evalP vs m:=(h.map _).sum_nat
theorem monV_addE:∀ (vs:List Nat) (l m:List Int),l.length=m.length→(∀ e∈l,0≤e)→(∀ e∈m,0≤e)→monV vs (addE l m)=monV vs l*monV vs m
 | [],l,m,_,_,_=>by cases l <;> cases m <;> rfl
 | v::vs,[],[],_,_,_=>rfl
 | _::_,[],_::_,h,_,_=>by simp at h
 | _::_,_::_,[],h,_,_=>by simp at h
 | v::vs,a::l,b::m,h,h1,h2=>by
  have ha:=h1 a (by simp)
  have hb:=h2 b (by simp)
  rw [addE,monV,monV,monV,monV_addE vs l m (by simpa using h) (fun e he=>h1 e (by simp [he])) (fun e he=>h2 e (by simp [he])),show (a+b).toNat=a.toNat+b.toNat by omega,Nat.pow_add]
  ac_rfl
theorem not_large_any {l:Mos} (h:largeP l=false):l.any bigMo=false:=by
 unfold largeP at h
 rw [Bool.or_eq_false_iff] at h
 exact h.2
theorem evalP_add (vs:List Nat) (m:Mo):∀ l:Mos,(addP l m).any bigMo=false→evalP vs (addP l m)=evalP vs l+moV vs m
 | [],_=>by show evalP vs [m]=evalP vs []+_; rw [evalP_cons]; simp [evalP]
 | x::l,h=>by
  rcases cmpE_cases x.exps m.exps with g | g | g
  ·rw [addP_lt g] at h ⊢
   rw [List.any_cons,Bool.or_eq_false_iff] at h
   rw [evalP_cons,evalP_cons,evalP_add vs m l h.2]; omega
  ·rw [addP_eq g] at h ⊢
   rw [List.any_cons,Bool.or_eq_false_iff] at h
   have h1:=h.1
   unfold bigMo at h1
   rw [Bool.or_eq_false_iff] at h1
   have h1:¬ 4611686018427387904<min (x.coef+m.coef) 4611686018427387905:=of_decide_eq_false h1.1
   have hc:plusP x.coef m.coef=x.coef+m.coef:=by show min _ 4611686018427387905=_; omega
   rw [evalP_cons,evalP_cons,hc]
   show (x.coef+m.coef)*monV vs x.exps+_=x.coef*monV vs x.exps+evalP vs l+m.coef*monV vs m.exps
   rw [cmpE_zero.1 g,Nat.add_mul]; omega
  ·rw [addP_gt g,evalP_cons]; omega
theorem evalP_adds (vs:List Nat):∀ (ms l:Mos),largeP (addsP l ms)=false→evalP vs (addsP l ms)=evalP vs l+evalP vs ms
 | [],l,_=>by show evalP vs l=_; simp [evalP]
 | m::ms,l,h=>by
  have h1:largeP (addP l m)=false:=by
   cases hl:largeP (addP l m) with
   | false=>rfl
   | true=>rw [show addsP l (m::ms)=addsP (addP l m) ms from rfl,addsP_large hl] at h; cases h
  show evalP vs (addsP (addP l m) ms)=_
  rw [evalP_adds vs ms _ h,evalP_add vs m l (not_large_any h1),evalP_cons]; omega
theorem adds_small:∀ (ms l:Mos),largeP (addsP l ms)=false→∀ x∈ms,bigMo x=false
 | [],_,_,x,hx=>by simp at hx
 | m::ms,l,h,x,hx=>by
  rcases List.mem_cons.1 hx with rfl | hx
  ·cases hb:bigMo x with
   | false=>rfl
   | true=>rw [show addsP l (x::ms)=addsP (addP l x) ms from rfl,addsP_large (addP_largem hb l)] at h; cases h
  ·exact adds_small ms _ h x hx
theorem evalP_flat (vs:List Nat) (f:Mo→Mos) (w:Mo→Nat):∀ l:Mos,(∀ x∈l,evalP vs (f x)=w x)→evalP vs (l.flatMap f)=(l.map w).sum
 | [],_=>rfl
 | x::l,h=>by
  rw [List.flatMap_cons,List.map_cons,List.sum_cons,← h x (by simp),← evalP_flat vs f w l fun y hy=>h y (by simp [hy])]
  unfold evalP
  rw [List.map_append,List.sum_append]
theorem sum_mul (c:Nat) (l:List Nat):(l.map fun x=>c*x).sum=c*l.sum:=by
 induction l with
 | nil=>rfl
 | cons a l ih=>rw [List.map_cons,List.sum_cons,List.sum_cons,ih,Nat.mul_add]
theorem evalP_mul {n:Nat} (vs:List Nat) {a b c:Mos} (ha:SmallP n a) (hb:SmallP n b) (h:mulP a b=some c):evalP vs c=evalP vs a*evalP vs b:=by
 unfold mulP at h
 split at h
 ·cases h
 ·rename_i hl
  cases h
  have hl:largeP (addsP [] (pairsP a b))=false:=by simpa using hl
  have hbig:=adds_small _ _ hl
  rw [evalP_adds vs _ _ hl]
  have h0:evalP vs []=0:=rfl
  rw [h0,Nat.zero_add]
  have hp:∀ x∈a,evalP vs (b.map (mulMo x))=evalP vs b*moV vs x:=fun x hx=>by
   have hxv:=ha x hx
   have e1:evalP vs (b.map (mulMo x))=((b.map (moV vs)).map fun y=>moV vs x*y).sum:=by
    unfold evalP
    rw [List.map_map,List.map_map]
    congr 1
    refine List.map_congr_left fun y hy=>?_
    have hyv:=hb y hy
    have hin:mulMo x y∈pairsP a b:=List.mem_flatMap.2 ⟨x,hx,List.mem_map.2 ⟨y,hy,rfl⟩⟩
    have hc:=(mulMo_small (n:=n) (x:=x) (y:=y) (fun z hz=>by have:z=x:=(by simpa using hz); rw [this]; exact hxv) (fun z hz=>by have:z=y:=(by simpa using hz); rw [this]; exact hyv) (hbig _ hin)).2
    show (mulMo x y).coef*monV vs (addE x.exps y.exps)=x.coef*monV vs x.exps*(y.coef*monV vs y.exps)
    rw [hc,monV_addE vs _ _ (by rw [hxv.1.1,hyv.1.1]) (fun e he=>(hxv.1.2 e he).1) fun e he=>(hyv.1.2 e he).1]
    ac_rfl
   rw [e1,sum_mul,Nat.mul_comm]; rfl
  unfold pairsP
  rw [evalP_flat vs _ (fun x=>evalP vs b*moV vs x) a hp]
  have e2:(a.map fun x=>evalP vs b*moV vs x)=(a.map (moV vs)).map fun y=>evalP vs b*y:=by rw [List.map_map]; rfl
  rw [e2,sum_mul,Nat.mul_comm]; rfl
structure HomE (n:Nat) (φ:List Int→List Int):Prop where
 cmp:∀ a b:List Int,a.length=n→b.length=n→cmpE (φ a) (φ b)=cmpE a b
 add:∀ a b:List Int,a.length=n→b.length=n→φ (addE a b)=addE (φ a) (φ b)
 ok:∀ a:List Int,a.length=n→((φ a).any fun e=>decide (1048576<e))=a.any fun e=>decide (1048576<e)
def mapMo (φ:List Int→List Int) (x:Mo):Mo:=⟨x.coef,φ x.exps⟩
def LenP (n:Nat) (l:Mos):Prop:=∀ x∈l,x.exps.length=n
section
variable {n:Nat} {φ:List Int→List Int} (H:HomE n φ)
include H
theorem hom_add {m:Mo} (hm:m.exps.length=n):∀ l:Mos,LenP n l→(addP l m).map (mapMo φ)=addP (l.map (mapMo φ)) (mapMo φ m)
 | [],_=>rfl
 | x::l,h=>by
  have hx:=h x (by simp)
  have hl:LenP n l:=fun y hy=>h y (by simp [hy])
  have hc:cmpE (mapMo φ x).exps (mapMo φ m).exps=cmpE x.exps m.exps:=H.cmp _ _ hx hm
  rw [List.map_cons]
  rcases cmpE_cases x.exps m.exps with g | g | g
  ·rw [addP_lt g,addP_lt (by rw [hc]; exact g),List.map_cons,hom_add hm l hl]
  ·rw [addP_eq g,addP_eq (by rw [hc]; exact g),List.map_cons]; rfl
  ·rw [addP_gt g,addP_gt (by rw [hc]; exact g),List.map_cons,List.map_cons]
theorem len_add {m:Mo} (hm:m.exps.length=n) {l:Mos} (hl:LenP n l):LenP n (addP l m):=fun x hx=>by
 rcases addP_mem x hx with h | ⟨y,hy,h⟩
 ·rw [h]; exact hm
 ·rw [← h]; exact hl y hy
theorem hom_adds:∀ (ms l:Mos),LenP n ms→LenP n l→(addsP l ms).map (mapMo φ)=addsP (l.map (mapMo φ)) (ms.map (mapMo φ))
 | [],_,_,_=>rfl
 | m::ms,l,h,hl=>by
  have hm:=h m (by simp)
  show (addsP (addP l m) ms).map _=addsP (addP (l.map _) (mapMo φ m)) (ms.map _)
  rw [hom_adds ms _ (fun y hy=>h y (by simp [hy])) (len_add H hm hl),hom_add H hm l hl]
theorem hom_large {l:Mos} (hl:LenP n l):largeP (l.map (mapMo φ))=largeP l:=by
 unfold largeP
 rw [List.length_map,List.any_map]
 congr 1
 rw [Bool.eq_iff_iff,List.any_eq_true,List.any_eq_true]
 have e:∀ x∈l,(bigMo ∘ mapMo φ) x=bigMo x:=fun x hx=>by
  show (decide (maxV<x.coef)||(φ x.exps).any _)=_
  rw [H.ok _ (hl x hx)]; rfl
 exact ⟨fun ⟨x,hx,h⟩=>⟨x,hx,by rw [← e x hx]; exact h⟩,fun ⟨x,hx,h⟩=>⟨x,hx,by rw [e x hx]; exact h⟩⟩
theorem hom_pairs {a b:Mos} (ha:LenP n a) (hb:LenP n b):(pairsP a b).map (mapMo φ)=pairsP (a.map (mapMo φ)) (b.map (mapMo φ))∧LenP n (pairsP a b):=by
 constructor
 ·unfold pairsP
  rw [List.map_flatMap,List.flatMap_map]
  have:∀ l:Mos,(∀ x∈l,x.exps.length=n)→(l.flatMap fun x=>(b.map (mulMo x)).map (mapMo φ))=l.flatMap fun x=>(b.map (mapMo φ)).map (mulMo (mapMo φ x)):=by
   intro l
   induction l with
   | nil=>intro _; rfl
   | cons x l ih =>
    intro h
    rw [List.flatMap_cons,List.flatMap_cons,ih fun y hy=>h y (by simp [hy]),List.map_map,List.map_map]
    congr 1
    refine List.map_congr_left fun y hy=>?_
    show (⟨_,φ (addE x.exps y.exps)⟩:Mo)=⟨_,addE (φ x.exps) (φ y.exps)⟩
    rw [H.add _ _ (h x (by simp)) (hb y hy)]; rfl
  exact this a ha
 ·intro x hx
  obtain ⟨y,hy,hx⟩:=List.mem_flatMap.1 hx
  obtain ⟨z,hz,rfl⟩:=List.mem_map.1 hx
  show (addE y.exps z.exps).length=n
  rw [addE_length _ _ (by rw [ha y hy,hb z hz]),ha y hy]
theorem hom_mul {a b:Mos} (ha:LenP n a) (hb:LenP n b):mulP (a.map (mapMo φ)) (b.map (mapMo φ))=(mulP a b).map (List.map (mapMo φ)):=by
 obtain ⟨h1,h2⟩:=hom_pairs H ha hb
 have h3:=hom_adds H (pairsP a b) [] h2 (fun x hx=>by simp at hx)
 have h4:LenP n (addsP [] (pairsP a b)):=by
  have:∀ (ms l:Mos),LenP n ms→LenP n l→LenP n (addsP l ms):=by
   intro ms
   induction ms with
   | nil=>intro l _ h; exact h
   | cons m ms ih=>intro l hm h; exact ih _ (fun x hx=>hm x (by simp [hx])) (len_add H (hm m (by simp)) h)
  exact this _ _ h2 fun x hx=>by simp at hx
 unfold mulP
 rw [← h1]
 have h3:addsP [] ((pairsP a b).map (mapMo φ))=(addsP [] (pairsP a b)).map (mapMo φ):=h3.symm
 rw [h3,hom_large H h4]
 cases largeP (addsP [] (pairsP a b)) <;> rfl
end
end Go.Proofs.YthhnadeoioeniaaGreat
namespace Go.Abs
inductive As:D→D→Prop
 | refl (d:D):As d d
 | nil (e:TypeId) (x:V):x.list=[]→As .nil (.v (.sl e) x)
 | agg (cs ds:List D):cs.length=ds.length→(∀ j,As (cs.getD j .undef) (ds.getD j .undef))→As (.agg cs) (.agg ds)
 | tup (cs ds:List D):cs.length=ds.length→(∀ j,As (cs.getD j .undef) (ds.getD j .undef))→As (.tup cs) (.tup ds)
theorem anyL_iff (p:Ref→Bool):∀ l:List D,D.anyL p l=false↔∀ j,D.anyR p (l.getD j .undef)=false
 | []=>by simp [D.anyL,D.anyR]
 | d::r=>by
  have ih:=anyL_iff p r
  constructor
  ·intro h j
   unfold D.anyL at h
   cases hd:D.anyR p d with
   | true=>rw [hd] at h; cases h
   | false =>
    rw [hd] at h
    cases j with
    | zero=>exact hd
    | succ j=>exact ih.1 h j
  ·intro h
   have h0:D.anyR p d=false:=h 0
   unfold D.anyL
   rw [h0]
   exact ih.2 fun j=>h (j+1)
theorem As.rep {lf:TypeId→List K} {S:Sig} {d d':D} (h:As d d'):∀ v,RepD lf S d v→D.local d=false→RepD lf S d' v∧D.local d'=false:=by
 induction h with
 | refl d=>exact fun v h h'=>⟨h,h'⟩
 | nil e x hx =>
  intro v h _
  cases h
  exact ⟨.v _ _ _ (.sl0 e x none 0 hx),rfl⟩
 | agg cs ds hl _ ih =>
  intro v h hn
  have hn:=(anyL_iff _ cs).1 hn
  cases h with
  | agg _ us h1 h2=>exact ⟨.agg ds us (hl▸h1) fun j=>(ih j _ (h2 j) (hn j)).1,(anyL_iff _ ds).2 fun j=>(ih j _ (h2 j) (hn j)).2⟩
 | tup cs ds hl _ ih =>
  intro v h hn
  have hn:=(anyL_iff _ cs).1 hn
  cases h with
  | tup _ us h1 h2=>exact ⟨.tup ds us (hl▸h1) fun j=>(ih j _ (h2 j) (hn j)).1,(anyL_iff _ ds).2 fun j=>(ih j _ (h2 j) (hn j)).2⟩
theorem ACalls.as {P:Program} {lf:TypeId→List K} {f:FuncId} {args:List D} {H:Heap} {Q:D→Heap→Prop} (h:ACalls P lf f args H (fun r H'=>∃ r',As r r'∧Q r' H')):ACalls P lf f args H Q :=
 fun S vs h1 h2 h3 h4 h5 h6 h7 h8=>(h S vs h1 h2 h3 h4 h5 h6 h7 h8).mono fun _ _ ⟨v,r,S',a,b,c,d,e0,e,f,g,i,r',j,k⟩=>⟨v,r',S',a,b,c,d,e0,e,(j.rep v f g).1,(j.rep v f g).2,i,k⟩
theorem As.last3 (a b:D) (e:TypeId):As (.agg [a,b,.nil]) (.agg [a,b,.v (.sl e) (.l [])]) :=
 .agg _ _ rfl fun j=>match j with
  | 0=>.refl _ | 1=>.refl _ | 2=>.nil e _ rfl | _+3=>.refl _
theorem As.pair {a a' b b':D} (h:As a a') (h':As b b'):As (.tup [a,b]) (.tup [a',b']) :=
 .tup _ _ rfl fun j=>match j with
  | 0=>h | 1=>h' | _+2=>.refl _
end Go.Abs
set_option maxRecDepth 100000
namespace Go.Proofs.YthhnadeoioeniaaGreat
open Go.Abs
def Zf:Env:=envA [(6,(.undef 2)::ua 6 3 ((.undef 10)::(.undef 12)::ua 25 19 (ua 47 7 ([.dead 52])))),(13,ua 1 2 (ua 6 3 ((.undef 10)::(.undef 12)::(.undef 15)::ua 25 31 (ua 59 12 ((.dead 15)::da 67 3 ([])))))),(24,ua 1 2 (ua 5 4 ((.undef 10)::ua 12 2 (ua 15 5 (ua 21 116 ([.dead 103,.dead 114,.dead 123])))))),(3000005,(.undef 2)::(.undef 6)::(.undef 8)::(.undef 10)::ua 25 19 ([.dead 43])),(3000020,ua 1 2 (ua 6 3 ((.undef 10)::ua 12 2 (ua 15 3 (ua 25 59 ([.dead 74,.dead 83])))))),(3000023,ua 1 2 (ua 5 4 ((.undef 10)::ua 12 2 (ua 15 5 (ua 25 76 ([.dead 5,.dead 96]))))))] [] [] [(17,[⟨13,999999,0⟩])] [5,20,23]
def Zg5 (Q:QD):Post:=blockK 0 (seqJ Zf (fnAt [1,1,1,1,1] Tryz.f9) (endK Zf Tryz.f9 Q))
def Zhl (Q:QD):Post:=blockK 2 (seqJ Zf (fnAt [1,1,1,1,1,1,1] Tryz.f9) (endK Zf Tryz.f9 Q))
def Zhd (Q:QD):Post:=blockK 4 (seqJ Zf (fnAt [1,1,1,1,1,1,1,1,1,1,1] Tryz.f9) (endK Zf Tryz.f9 Q))
@[irreducible] def Zaa (Q:QD) (m2:Nat) (x0:LL) (x9:V) (x20:Int):Prop :=
 iter (adj (Zf.adj 24)) (evCode Zf (fnAt [1,1,1,1,1,1,1,1,1,1,0,1,0,0] Tryz.f9)) (Zhd Q) m2 ⟨(.v (.sl Zg) (V.l x0))::un 2 (sk 2 (un 4 ((.v (.sl Za) (x9))::.undef::.skip::un 2 (.skip::un 5 ((.v (.int .i64) (V.i x20))::un 116 ([.skip])))))),dd 138 ([])⟩ []
@[irreducible] def Zbl (Q:QD) (x0:LL) (x9:V):Prop :=
 joinM (evCode Zf (fnAt [1,1,1,1,1,1,1,1,1,1] Tryz.f9)) ⟨(.v (.sl Zg) (V.l x0))::un 2 (sk 2 (un 4 ((.v (.sl Za) (x9))::.undef::.skip::un 2 (.skip::un 5 (sk 5 (un 76 (sk 37 ([])))))))),dd 138 ([])⟩ [] (endK Zf Tryz.f9 Q)
@[irreducible] def ZcY (Q:QD) (x0:LL) (x9:V) (y5_0:ByteArray) (y5_1:Bool) (y5_2 y5_3:LL):Prop :=
 joinM (evCode Zf (fnAt [1,1,1,1,1,1,1,1] Tryz.f9)) ⟨(.v (.sl Zg) (V.l x0))::un 2 (sk 2 ((.ptr (.loc 5) 0)::un 3 ((.v (.sl Za) (x9))::.undef::.skip::un 2 (.skip::un 3 (sk 7 (un 59 (sk 54 ([])))))))),dd 5 ((.cells [.v .str (V.s y5_0),.v .bool (V.b y5_1),.v (.sl Za) (V.l y5_2),.v (.sl Zfc) (V.l y5_3)])::dd 132 ([]))⟩ [] (endK Zf Tryz.f9 Q)
@[irreducible] def Zal (Q:QD) (m1:Nat) (x0:LL) (x9:V) (x13n:Nat) (x56:LL) (x57 x58:Int) (y5_0:ByteArray) (y5_1:Bool) (y5_2 y5_3 y55:LL):Prop :=
 iter (adj (Zf.adj 13)) (evCode Zf (fnAt [1,1,1,1,1,1,0,1,0,0] Tryz.f9)) (Zhl Q) m1 ⟨(.v (.sl Zg) (V.l x0))::un 2 (sk 2 ((.ptr (.loc 5) 0)::un 3 ((.v (.sl Za) (x9))::.undef::.skip::.undef::(.osl (.loc 55) x13n)::.skip::.undef::sk 9 (un 31 ((.v (.sl Zap) (V.l x56))::(.v (.int .i64) (V.i x57))::(.v (.int .i64) (V.i x58))::un 12 (sk 67 ([]))))))),dd 5 ((.cells [.v .str (V.s y5_0),.v .bool (V.b y5_1),.v (.sl Za) (V.l y5_2),.v (.sl Zfc) (V.l y5_3)])::dd 49 ((.row ZY y55)::dd 82 ([])))⟩ []
@[irreducible] def ZaQ (Q:QD) (m0:Nat) (x0 x1:LL) (x9 x44:V) (x45 x46:Int) (y5_0:ByteArray) (y5_1:Bool) (y5_2 y5_3:LL):Prop :=
 iter (adj (Zf.adj 6)) (evCode Zf (fnAt [1,1,1,1,0,1,0,0] Tryz.f9)) (Zg5 Q) m0 ⟨(.v (.sl Zg) (V.l x0))::(.v (.sl Zap) (V.l x1))::.undef::sk 2 ((.ptr (.loc 5) 0)::un 3 ((.v (.sl Za) (x9))::.undef::.skip::.undef::sk 12 (un 19 ((.v (.sl ZT) (x44))::(.v (.int .i64) (V.i x45))::(.v (.int .i64) (V.i x46))::un 7 (sk 84 ([])))))),dd 5 ((.cells [.v .str (V.s y5_0),.v .bool (V.b y5_1),.v (.sl Za) (V.l y5_2),.v (.sl Zfc) (V.l y5_3)])::dd 132 ([]))⟩ []
@[irreducible] def ZcQ (Q:QD) (x0 x1:LL) (x7 x9:V) (y5_0:ByteArray) (y5_1:Bool) (y5_2 y5_3:LL):Prop :=
 joinM (evCode Zf (fnAt [1,1,1,1] Tryz.f9)) ⟨(.v (.sl Zg) (V.l x0))::(.v (.sl Zap) (V.l x1))::.undef::sk 2 ((.ptr (.loc 5) 0)::.undef::(.v (.sl ZT) (x7))::.undef::(.v (.sl Za) (x9))::.undef::sk 14 (un 19 (sk 94 ([])))),dd 5 ((.cells [.v .str (V.s y5_0),.v .bool (V.b y5_1),.v (.sl Za) (V.l y5_2),.v (.sl Zfc) (V.l y5_3)])::dd 132 ([]))⟩ [] (endK Zf Tryz.f9 Q)
def ZcV (Q:QD) (m2:Nat) (x0:LL) (x9:V) (x20:Int):Prop :=
 (x9.list.length≤big→iff (decide (x20<((x9.list.length:Int)))) (0≤(IntKind.i64.wrap (x20 - (1:Int)))∧(IntKind.i64.wrap (x20 - (1:Int)))<x9.list.length∧cl Zen [.v (.sl Zg) (V.l x0),.agg [.v .str (((x9.list.getD ((IntKind.i64.wrap (x20 - (1:Int)))).toNat []).drop 0).headD V.none),.v .bool ((((x9.list.getD ((IntKind.i64.wrap (x20 - (1:Int)))).toNat []).drop 0).tail).headD V.none),.v (.sl Za) (((((x9.list.getD ((IntKind.i64.wrap (x20 - (1:Int)))).toNat []).drop 0).tail).tail).headD V.none)]] [] fun r1 H2=>r1=(.tup [.v (.int .u64) ((r1.parts.headD .undef).V),.v (.int .i64) ((r1.parts.tail.headD .undef).V)])∧H2=[]∧0≤x20∧x20<x9.list.length∧cl Zen [.v (.sl Zg) (V.l x0),.agg [.v .str (((x9.list.getD x20.toNat []).drop 0).headD V.none),.v .bool ((((x9.list.getD x20.toNat []).drop 0).tail).headD V.none),.v (.sl Za) (((((x9.list.getD x20.toNat []).drop 0).tail).tail).headD V.none)]] [] fun r3 H4=>r3=(.tup [.v (.int .u64) ((r3.parts.headD .undef).V),.v (.int .i64) ((r3.parts.tail.headD .undef).V)])∧H4=[]∧iff ((((r1.parts.tail.headD .undef).V).int) == (0:Int)) (iff ((((r3.parts.tail.headD .undef).V).int) == (0:Int)) (iff (decide ((((r1.parts.headD .undef).V).int)≤(((r3.parts.headD .undef).V).int))) (True∧Q (.v .bool (V.b false)) []) (Zaa Q m2 x0 x9 (IntKind.i64.wrap (x20+(1:Int))))) (Zaa Q m2 x0 x9 (IntKind.i64.wrap (x20+(1:Int))))) (Zaa Q m2 x0 x9 (IntKind.i64.wrap (x20+(1:Int))))) (cl ZaJ [] [] fun r5 H6=>r5=(.v .bool (r5.V))∧H6=[]∧True∧Q (.v .bool (r5.V)) []))
theorem Zf2 (Q:QD) (m2:Nat) (x0:LL) (x9:V) (x20:Int):Zaa Q (m2+1) x0 x9 x20=ZcV Q m2 x0 x9 x20:=by kernel_rfl
theorem Zga (Q:QD):RuleG3 (Zaa Q) (ZcV Q):=ruleG3 _ _ (Zf2 Q)
def Zew (Q:QD) (x0:LL) (x9:V):Prop :=
 ∃ m2,Zaa Q m2 x0 x9 1
theorem Zf9 (Q:QD) (x0:LL) (x9:V):Zbl Q x0 x9=Zew Q x0 x9:=by kernel_rfl
def Zey (Q:QD) (x0:LL) (x9:V) (y5_0:ByteArray) (y5_1:Bool) (y5_2 y5_3:LL):Prop :=
 cl Zen [.v (.sl Zg) (V.l x0),.agg [.v .str (V.s y5_0),.v .bool (V.b y5_1),.v (.sl Za) (V.l y5_2)]] [] fun r1 H2=>r1=(.tup [.v (.int .u64) ((r1.parts.headD .undef).V),.v (.int .i64) ((r1.parts.tail.headD .undef).V)])∧H2=[]∧iff ((((r1.parts.tail.headD .undef).V).int) == (0:Int)) ((y5_3.length≤big→iff (decide ((IntKind.u64.wrap ((y5_3.length:Int))) > (((r1.parts.headD .undef).V).int))) (True∧Q (.v .bool (V.b false)) []) (Zbl Q x0 x9))) (Zbl Q x0 x9)
theorem Zgg (Q:QD) (x0:LL) (x9:V) (y5_0:ByteArray) (y5_1:Bool) (y5_2 y5_3:LL):ZcY Q x0 x9 y5_0 y5_1 y5_2 y5_3=Zey Q x0 x9 y5_0 y5_1 y5_2 y5_3:=by kernel_rfl
def Zg4 (Q:QD) (m1:Nat) (x0:LL) (x9:V) (x13n:Nat) (x56:LL) (x57 x58:Int) (y5_0:ByteArray) (y5_1:Bool) (y5_2 y5_3 y55:LL):Prop :=
 iff (decide (x58<x57)) (0≤x58∧x58<x56.length∧∃ x1:LL,frA Zdk [.v (.sl Za) (V.l ([[((x56.getD x58.toNat []).drop 0).headD V.none,(((x56.getD x58.toNat []).drop 0).tail).headD V.none,((((x56.getD x58.toNat []).drop 0).tail).tail).headD V.none],[(((((x56.getD x58.toNat []).drop 0).tail).tail).tail).headD V.none,((((((x56.getD x58.toNat []).drop 0).tail).tail).tail).tail).headD V.none,(((((((x56.getD x58.toNat []).drop 0).tail).tail).tail).tail).tail).headD V.none]]))] x1∧y55.length=x13n∧x1.length=x1.length∧x13n+x1.length≤lim∧Zal Q m1 x0 x9 (x13n+x1.length) x56 x57 (IntKind.i64.wrap (x58+(1:Int))) y5_0 y5_1 y5_2 y5_3 (y55++x1)) (x13n=y55.length∧cl ZdN [.v (.sl Zg) (V.l x0),.v (.sl ZY) (V.l y55)] [] fun r2 H3=>r2=(.tup [.v .bool ((r2.parts.headD .undef).V),.v (.int .i64) ((r2.parts.tail.headD .undef).V)])∧H3=[]∧iff ((((r2.parts.tail.headD .undef).V).int) != (0:Int)) (cl ZaJ [] [] fun r4 H5=>r4=(.v .bool (r4.V))∧H5=[]∧True∧Q (.v .bool (r4.V)) []) (iff (!(((r2.parts.headD .undef).V).bool)) (cl ZaJ [] [] fun r6 H7=>r6=(.v .bool (r6.V))∧H7=[]∧True∧Q (.v .bool (r6.V)) []) (ZcY Q x0 x9 y5_0 y5_1 y5_2 y5_3)))
theorem Zf6 (Q:QD) (m1:Nat) (x0:LL) (x9:V) (x13n:Nat) (x56:LL) (x57 x58:Int) (y5_0:ByteArray) (y5_1:Bool) (y5_2 y5_3 y55:LL):Zal Q (m1+1) x0 x9 x13n x56 x57 x58 y5_0 y5_1 y5_2 y5_3 y55=Zg4 Q m1 x0 x9 x13n x56 x57 x58 y5_0 y5_1 y5_2 y5_3 y55:=by kernel_rfl
theorem ZfK (Q:QD) (x0:LL) (x9:V) (x56:LL) (y5_0:ByteArray) (y5_1:Bool) (y5_2 y5_3:LL) (n:Nat) (hb:n≤big) (J:Nat→Nat→LL→Prop)
  (step:∀ (k:Nat) (x13n:Nat) (y55:LL),k<n→J k x13n y55→∀ K:Nat→LL→Prop,(∀ (x13n':Nat) (y55':LL),J (k+1) x13n' y55'→K x13n' y55')→(0≤(k:Int)∧(k:Int)<x56.length∧∃ x1:LL,frA Zdk [.v (.sl Za) (V.l ([[((x56.getD k []).drop 0).headD V.none,(((x56.getD k []).drop 0).tail).headD V.none,((((x56.getD k []).drop 0).tail).tail).headD V.none],[(((((x56.getD k []).drop 0).tail).tail).tail).headD V.none,((((((x56.getD k []).drop 0).tail).tail).tail).tail).headD V.none,(((((((x56.getD k []).drop 0).tail).tail).tail).tail).tail).headD V.none]]))] x1∧y55.length=x13n∧x1.length=x1.length∧x13n+x1.length≤lim∧K (x13n+x1.length) (y55++x1)))
  (last:∀ (x13n:Nat) (y55:LL),J n x13n y55→(x13n=y55.length∧cl ZdN [.v (.sl Zg) (V.l x0),.v (.sl ZY) (V.l y55)] [] fun r2 H3=>r2=(.tup [.v .bool ((r2.parts.headD .undef).V),.v (.int .i64) ((r2.parts.tail.headD .undef).V)])∧H3=[]∧iff ((((r2.parts.tail.headD .undef).V).int) != (0:Int)) (cl ZaJ [] [] fun r4 H5=>r4=(.v .bool (r4.V))∧H5=[]∧True∧Q (.v .bool (r4.V)) []) (iff (!(((r2.parts.headD .undef).V).bool)) (cl ZaJ [] [] fun r6 H7=>r6=(.v .bool (r6.V))∧H7=[]∧True∧Q (.v .bool (r6.V)) []) (ZcY Q x0 x9 y5_0 y5_1 y5_2 y5_3))))
  (k:Nat) (x13n:Nat) (y55:LL) (le0:k≤n) (hj:J k x13n y55):∃ m1,Zal Q m1 x0 x9 x13n x56 (n:Int) ((k:Int)) y5_0 y5_1 y5_2 y5_3 y55:=by
 exact rangeG2 n hb J (fun m1 i x13n y55=>Zal Q m1 x0 x9 x13n x56 (n:Int) i y5_0 y5_1 y5_2 y5_3 y55) (fun m1 i x13n y55=>Zf6 Q m1 x0 x9 x13n x56 (n:Int) i y5_0 y5_1 y5_2 y5_3 y55) (fun k x13n y55 hl_ hj_ m_ ih_=>step k x13n y55 hl_ hj_ _ ih_) last k x13n y55 le0 hj
def ZgY (Q:QD) (m0:Nat) (x0 x1:LL) (x9 x44:V) (x45 x46:Int) (y5_0:ByteArray) (y5_1:Bool) (y5_2 y5_3:LL):Prop :=
 iff (decide (x46<x45)) (0≤x46∧x46<x44.list.length∧iff (((((x44.list.getD x46.toNat []).drop 0).headD V.none).int) != (2:Int)) (cl ZaJ [] [] fun r1 H2=>r1=(.v .bool (r1.V))∧H2=[]∧True∧Q (.v .bool (r1.V)) []) (ZaQ Q m0 x0 x1 x9 x44 x45 (IntKind.i64.wrap (x46+(1:Int))) y5_0 y5_1 y5_2 y5_3)) (∃ x3:LL,frA Zdk [.v (.sl Za) (x9)] x3∧(x1.length≤big→∃ m1,Zal Q m1 x0 x9 x3.length x1 ((x1.length:Int)) 0 y5_0 y5_1 y5_2 y5_3 x3))
theorem Zf3 (Q:QD) (m0:Nat) (x0 x1:LL) (x9 x44:V) (x45 x46:Int) (y5_0:ByteArray) (y5_1:Bool) (y5_2 y5_3:LL):ZaQ Q (m0+1) x0 x1 x9 x44 x45 x46 y5_0 y5_1 y5_2 y5_3=ZgY Q m0 x0 x1 x9 x44 x45 x46 y5_0 y5_1 y5_2 y5_3:=by kernel_rfl
theorem ZfH (Q:QD) (x0 x1:LL) (x9 x44:V) (y5_0:ByteArray) (y5_1:Bool) (y5_2 y5_3:LL) (n:Nat) (hb:n≤big) (J:Nat→Prop)
  (step:∀ (k:Nat),k<n→J k→∀ K:Prop,(J (k+1)→K)→(0≤(k:Int)∧(k:Int)<x44.list.length∧iff (((((x44.list.getD k []).drop 0).headD V.none).int) != (2:Int)) (cl ZaJ [] [] fun r1 H2=>r1=(.v .bool (r1.V))∧H2=[]∧True∧Q (.v .bool (r1.V)) []) (K)))
  (last:J n→(∃ x3:LL,frA Zdk [.v (.sl Za) (x9)] x3∧(x1.length≤big→∃ m1,Zal Q m1 x0 x9 x3.length x1 ((x1.length:Int)) 0 y5_0 y5_1 y5_2 y5_3 x3)))
  (k:Nat) (le0:k≤n) (hj:J k):∃ m0,ZaQ Q m0 x0 x1 x9 x44 (n:Int) ((k:Int)) y5_0 y5_1 y5_2 y5_3:=by
 exact rangeG0 n hb J (fun m0 i=>ZaQ Q m0 x0 x1 x9 x44 (n:Int) i y5_0 y5_1 y5_2 y5_3) (fun m0 i=>Zf3 Q m0 x0 x1 x9 x44 (n:Int) i y5_0 y5_1 y5_2 y5_3) (fun k hl_ hj_ m_ ih_=>step k hl_ hj_ _ ih_) last k le0 hj
def Zex (Q:QD) (x0 x1:LL) (x7 x9:V) (y5_0:ByteArray) (y5_1:Bool) (y5_2 y5_3:LL):Prop :=
 (x7.list.length≤big→∃ m0,ZaQ Q m0 x0 x1 x9 x7 ((x7.list.length:Int)) 0 y5_0 y5_1 y5_2 y5_3)
theorem Zgd (Q:QD) (x0 x1:LL) (x7 x9:V) (y5_0:ByteArray) (y5_1:Bool) (y5_2 y5_3:LL):ZcQ Q x0 x1 x7 x9 y5_0 y5_1 y5_2 y5_3=Zex Q x0 x1 x7 x9 y5_0 y5_1 y5_2 y5_3:=by kernel_rfl
def Zff (a0 a1:LL) (a2_0:ByteArray) (a2_1:Bool) (a2_2 a2_3:LL) (Q:QD):Prop :=
 cl Zfi [.v (.sl Zg) (V.l a0),.v (.sl Zap) (V.l a1)] [] fun r1 H2=>r1=(.tup [.v (.sl ZT) ((r1.parts.headD .undef).V),.v (.int .i64) ((r1.parts.tail.headD .undef).V)])∧H2=[]∧cl ZhJ [.v (.sl Zap) (V.l a1),.agg [.v .str (V.s a2_0),.v .bool (V.b a2_1),.v (.sl Za) (V.l a2_2),.v (.sl Zfc) (V.l a2_3)]] [] fun r3 H4=>r3=(.tup [.v (.sl Za) ((r3.parts.headD .undef).V),.v (.int .i64) ((r3.parts.tail.headD .undef).V)])∧H4=[]∧iff ((((r1.parts.tail.headD .undef).V).int) != (0:Int)) (cl ZaJ [] [] fun r5 H6=>r5=(.v .bool (r5.V))∧H6=[]∧True∧Q (.v .bool (r5.V)) []) (iff ((((r3.parts.tail.headD .undef).V).int) != (0:Int)) (cl ZaJ [] [] fun r7 H8=>r7=(.v .bool (r7.V))∧H8=[]∧True∧Q (.v .bool (r7.V)) []) (ZcQ Q a0 a1 ((r1.parts.headD .undef).V) ((r3.parts.headD .undef).V) a2_0 a2_1 a2_2 a2_3))
theorem Zjd (a0 a1:LL) (a2_0:ByteArray) (a2_1:Bool) (a2_2 a2_3:LL) (Q:QD) (h:Zff a0 a1 a2_0 a2_1 a2_2 a2_3 Q):cl Zfy [.v (.sl Zg) (V.l a0),.v (.sl Zap) (V.l a1),.agg [.v .str (V.s a2_0),.v .bool (V.b a2_1),.v (.sl Za) (V.l a2_2),.v (.sl Zfc) (V.l a2_3)]] [] Q :=
 acalls2 (E:=Zf) (envOk _ _ _ _ _) 0 Tryz.func9 (by kernel_rfl) h
def Za0:Env:=envA [(13,ua 0 2 (ua 3 6 (ua 10 2 (ua 13 9 (ua 23 4 (ua 28 12 ((.undef 41)::ua 43 28 ((.dead 3)::(.dead 15)::da 50 2 ((.dead 59)::da 69 2 ([.ownT 12 75 Zk])))))))))),(16,ua 0 2 (ua 3 6 (ua 10 2 ((.undef 14)::ua 16 6 (ua 23 4 (ua 28 12 ((.undef 41)::ua 43 28 ([.dead 59]))))))))] [] [] [(20,[⟨15,1,51⟩])] []
def ZgC (Q:QD):Post:=blockK 0 (seqJ Za0 (fnAt [1,1,1,1,1,1,1,1] Tryz.f10) (endK Za0 Tryz.f10 Q))
def Zl7 (Q:QD) (m0:Nat):Post:=blockK 2 (seqJ Za0 (fnAt [1,1,1,1,1,1,1,0,1,0,0,1,1,0,1,1,1] Tryz.f10) (blockK 1 (loopK (adj (Za0.adj 13)) (iter (adj (Za0.adj 13)) (evCode Za0 (fnAt [1,1,1,1,1,1,1,0,1,0,0] Tryz.f10)) (ZgC Q) m0) (ZgC Q))))
@[irreducible] def Ze7 (Q:QD) (m0 m1:Nat) (x9:V) (x12n:Nat) (x13 y15_0:V) (y15_1n:Nat) (y42_x:V) (y42n:Nat) (y42s:List Nat) (y51 y75:LL):Prop :=
 iter (adj (Za0.adj 16)) (evCode Za0 (fnAt [1,1,1,1,1,1,1,0,1,0,0,1,1,0,1,1,0,0,0] Tryz.f10)) (Zl7 Q m0) m1 ⟨un 2 (.skip::un 6 ((.v (.sl Zb) (x9))::un 2 ((.osl (.loc 75) x12n)::(.v .str (x13))::.undef::(.ptr (.loc 15) 0)::un 6 (.skip::un 4 (.skip::un 12 (.skip::.undef::(.ptr (.loc 42) 0)::un 28 (sk 4 ([])))))))),dd 15 ((.cells [.v (.int .u64) (y15_0),.osl (.loc 51) y15_1n])::dd 26 ((.iter Zc (.v (.mp Zc) (y42_x)) y42n y42s)::dd 8 ((.row ZT y51)::dd 23 ([.row Zk y75]))))⟩ []
@[irreducible] def Zdr (Q:QD) (m0:Nat) (x9:V) (x12n:Nat) (y42_x:V) (y42n:Nat) (y42s:List Nat) (y75:LL):Prop :=
 iter (adj (Za0.adj 13)) (evCode Za0 (fnAt [1,1,1,1,1,1,1,0,1,0,0] Tryz.f10)) (ZgC Q) m0 ⟨un 2 (.skip::un 6 ((.v (.sl Zb) (x9))::un 2 ((.osl (.loc 75) x12n)::un 9 (.skip::un 4 (.skip::un 12 (.skip::.undef::(.ptr (.loc 42) 0)::un 28 (sk 4 ([])))))))),dd 42 ((.iter Zc (.v (.mp Zc) (y42_x)) y42n y42s)::dd 32 ([.row Zk y75]))⟩ []
def Zgo (Q:QD) (m0 m1:Nat) (x9:V) (x12n:Nat) (x13 y15_0:V) (y15_1n:Nat) (y42_x:V) (y42n:Nat) (y42s:List Nat) (y51 y75:LL):Prop :=
 iff (!(x13.str.toList == (ByteArray.mk #[]).toList)) (cl Zeh [.v .str (x13)] [] fun r1 H2=>r1=(.tup [.v (.int .i64) ((r1.parts.headD .undef).V),.v (.int .i64) ((r1.parts.tail.headD .undef).V)])∧H2=[]∧y51.length=y15_1n∧0≤(((r1.parts.headD .undef).V).int)∧(((r1.parts.headD .undef).V).int)<y15_1n∧y51.length=y15_1n∧((((r1.parts.headD .undef).V).int)).toNat<y15_1n∧0≤(6:Int)∧(6:Int)≤(x13.str.size:Int)∧(x13.str.size:Int)≤x13.str.size∧Ze7 Q m0 m1 x9 x12n (V.s (x13.str.extract (6:Int).toNat ((x13.str.size:Int)).toNat)) y15_0 y15_1n y42_x y42n y42s (y51.set (((((r1.parts.headD .undef).V).int)).toNat) (setV (y51.getD (((((r1.parts.headD .undef).V).int)).toNat) []) 0 [(r1.parts.tail.headD .undef).V])) y75) (y15_1n=y51.length∧y75.length=x12n∧x12n+([[y15_0,V.l y51]]).length≤lim∧Zdr Q m0 x9 (x12n+([[y15_0,V.l y51]]).length) y42_x y42n y42s (y75++([[y15_0,V.l y51]])))
theorem Zk8 (Q:QD) (m0 m1:Nat) (x9:V) (x12n:Nat) (x13 y15_0:V) (y15_1n:Nat) (y42_x:V) (y42n:Nat) (y42s:List Nat) (y51 y75:LL):Ze7 Q m0 (m1+1) x9 x12n x13 y15_0 y15_1n y42_x y42n y42s y51 y75=Zgo Q m0 m1 x9 x12n x13 y15_0 y15_1n y42_x y42n y42s y51 y75:=by kernel_rfl
theorem Zk7 (Q:QD) (m0:Nat):RuleG10 (Ze7 Q m0) (Zgo Q m0):=ruleG10 _ _ (Zk8 Q m0)
def Zgu (Q:QD) (m0:Nat) (x9:V) (x12n:Nat) (y42_x:V) (y42n:Nat) (y42s:List Nat) (y75:LL):Prop :=
 y42_x.list.length=y42n∧((∀ j:Nat,j<y42n→j∈y42s)→cl Zb3 [.osl (.own 0) x12n,.fn ZfL []] [.row Zk y75] fun r2 H3=>r2=(.tup [])∧H3=[.row Zk ((H3.headD .dead).xs)]∧(True∧(x12n=((H3.headD .dead).xs).length)∧True∧True)∧Q (.tup [.v (.sl Zb) (x9),.v (.sl Zk) (V.l ((H3.headD .dead).xs)),.v (.int .i64) (V.i 0)]) [])∧(∀ j1:Nat,j1<y42n→j1 ∉ y42s→y42s.length<y42n→y42_x.list.length=y42n∧(x9.list.length≤big→0≤((x9.list.length:Int))∧((x9.list.length:Int))=((x9.list.length:Int))∧((x9.list.length:Int))≤lim∧∃ m1,Ze7 Q m0 m1 x9 x12n ((y42_x.list.getD j1 []).headD V.none) (((y42_x.list.getD j1 []).drop 1).headD V.none) ((((x9.list.length:Int))).toNat) y42_x y42n (j1::y42s) (zeroRow [.int .i64] (((x9.list.length:Int))).toNat) y75))
theorem ZkU (Q:QD) (m0:Nat) (x9:V) (x12n:Nat) (y42_x:V) (y42n:Nat) (y42s:List Nat) (y75:LL):Zdr Q (m0+1) x9 x12n y42_x y42n y42s y75=Zgu Q m0 x9 x12n y42_x y42n y42s y75:=by kernel_rfl
theorem Zli (Q:QD):RuleG6 (Zdr Q) (Zgu Q):=ruleG6 _ _ (ZkU Q)
def ZlB (a0:LL) (a1_0:ByteArray) (a1_1:Bool) (a1_2:LL) (Q:QD):Prop :=
 cl Zcl [.v (.sl Zg) (V.l a0)] [] fun r1 H2=>r1=(.v (.int .i64) (r1.V))∧H2=[]∧iff (r1.V.int != (0:Int)) ((True∧True∧True∧True)∧Q (.tup [.nil,.nil,.v (.int .i64) (r1.V)]) []) (cl ZI [.agg [.v .str (V.s a1_0),.v .bool (V.b a1_1),.v (.sl Za) (V.l a1_2)]] [] fun r3 H4=>r3=(.v (.int .i64) (r3.V))∧H4=[]∧iff (r3.V.int != (0:Int)) ((True∧True∧True∧True)∧Q (.tup [.nil,.nil,.v (.int .i64) (r3.V)]) []) (cl ZM [.v (.sl Za) (V.l ([[V.s a1_0,V.b a1_1,V.l a1_2]]))] [] fun r5 H6=>r5=(.v (.sl Zb) (r5.V))∧H6=[]∧cl Zp [.v (.sl Zg) (V.l a0),.agg [.v .str (V.s a1_0),.v .bool (V.b a1_1),.v (.sl Za) (V.l a1_2)],.v (.sl Zb) (r5.V)] [] fun r7 H8=>r7=(.tup [.v (.mp Zc) ((r7.parts.headD .undef).V),.v (.int .i64) ((r7.parts.tail.headD .undef).V)])∧H8=[]∧iff ((((r7.parts.tail.headD .undef).V).int) != (0:Int)) ((True∧True∧True∧True)∧Q (.tup [.nil,.nil,.v (.int .i64) ((r7.parts.tail.headD .undef).V)]) []) (∃ m0,Zdr Q m0 r5.V 0 ((r7.parts.headD .undef).V) ((((r7.parts.headD .undef).V).list).length) (([]:List Nat)) (([]:List (List V))))))
theorem ZmS (a0:LL) (a1_0:ByteArray) (a1_1:Bool) (a1_2:LL) (Q:QD) (h:ZlB a0 a1_0 a1_1 a1_2 Q):cl Zkq [.v (.sl Zg) (V.l a0),.agg [.v .str (V.s a1_0),.v .bool (V.b a1_1),.v (.sl Za) (V.l a1_2)]] [] Q :=
 acalls2 (E:=Za0) (envOk _ _ _ _ _) 1 Tryz.func10 (by kernel_rfl) h
def Zlp:Env:=envA [] [] [6000007] [] []
def Zis (a0:LL) (a1_0:ByteArray) (a1_1:Bool) (a1_2:LL) (Q:QD):Prop :=
 cl Zcl [.v (.sl Zg) (V.l a0)] [] fun r1 H2=>r1=(.v (.int .i64) (r1.V))∧H2=[]∧iff (r1.V.int != (0:Int)) ((True∧True∧True)∧Q (.tup [.v (.int .u64) (V.i 0),.v (.int .i64) (r1.V)]) []) (cl ZI [.agg [.v .str (V.s a1_0),.v .bool (V.b a1_1),.v (.sl Za) (V.l a1_2)]] [] fun r3 H4=>r3=(.v (.int .i64) (r3.V))∧H4=[]∧iff (r3.V.int != (0:Int)) ((True∧True∧True)∧Q (.tup [.v (.int .u64) (V.i 0),.v (.int .i64) (r3.V)]) []) ((cl ZM [.v (.sl Za) (V.l ([[V.s a1_0,V.b a1_1,V.l a1_2]]))] [] fun r5 H6=>r5=(.v (.sl Zb) (r5.V))∧H6=[]∧cl Zp [.v (.sl Zg) (V.l a0),.agg [.v .str (V.s a1_0),.v .bool (V.b a1_1),.v (.sl Za) (V.l a1_2)],.v (.sl Zb) (r5.V)] [] fun r7 H8=>r7=(.tup [.v (.mp Zc) ((r7.parts.headD .undef).V),.v (.int .i64) ((r7.parts.tail.headD .undef).V)])∧H8=[]∧(((True∧True∧True)∧Q (.tup [.v (.int .u64) ((mget [.str] [V.i 0] [V.s (ByteArray.mk #[])] (((r7.parts.headD .undef).V).list)).headD V.none),.v (.int .i64) ((r7.parts.tail.headD .undef).V)]) [])∧((True∧True∧True)∧Q (.tup [.v (.int .u64) ((mget [.str] [V.i 0] [V.s (ByteArray.mk #[])] (((r7.parts.headD .undef).V).list)).headD V.none),.v (.int .i64) ((r7.parts.tail.headD .undef).V)]) [])∧True)∧((True∧True∧True)∧Q (.tup [.v (.int .u64) ((mget [.str] [V.i 0] [V.s (ByteArray.mk #[])] (((r7.parts.headD .undef).V).list)).headD V.none),.v (.int .i64) ((r7.parts.tail.headD .undef).V)]) [])∧True)∧((cl ZM [.v (.sl Za) (V.l ([[V.s a1_0,V.b a1_1,V.l a1_2]]))] [] fun r9 H10=>r9=(.v (.sl Zb) (r9.V))∧H10=[]∧cl Zp [.v (.sl Zg) (V.l a0),.agg [.v .str (V.s a1_0),.v .bool (V.b a1_1),.v (.sl Za) (V.l a1_2)],.v (.sl Zb) (r9.V)] [] fun r11 H12=>r11=(.tup [.v (.mp Zc) ((r11.parts.headD .undef).V),.v (.int .i64) ((r11.parts.tail.headD .undef).V)])∧H12=[]∧(((True∧True∧True)∧Q (.tup [.v (.int .u64) ((mget [.str] [V.i 0] [V.s (ByteArray.mk #[])] (((r11.parts.headD .undef).V).list)).headD V.none),.v (.int .i64) ((r11.parts.tail.headD .undef).V)]) [])∧((True∧True∧True)∧Q (.tup [.v (.int .u64) ((mget [.str] [V.i 0] [V.s (ByteArray.mk #[])] (((r11.parts.headD .undef).V).list)).headD V.none),.v (.int .i64) ((r11.parts.tail.headD .undef).V)]) [])∧True)∧((True∧True∧True)∧Q (.tup [.v (.int .u64) ((mget [.str] [V.i 0] [V.s (ByteArray.mk #[])] (((r11.parts.headD .undef).V).list)).headD V.none),.v (.int .i64) ((r11.parts.tail.headD .undef).V)]) [])∧True)∧((cl ZM [.v (.sl Za) (V.l ([[V.s a1_0,V.b a1_1,V.l a1_2]]))] [] fun r13 H14=>r13=(.v (.sl Zb) (r13.V))∧H14=[]∧cl Zp [.v (.sl Zg) (V.l a0),.agg [.v .str (V.s a1_0),.v .bool (V.b a1_1),.v (.sl Za) (V.l a1_2)],.v (.sl Zb) (r13.V)] [] fun r15 H16=>r15=(.tup [.v (.mp Zc) ((r15.parts.headD .undef).V),.v (.int .i64) ((r15.parts.tail.headD .undef).V)])∧H16=[]∧(((True∧True∧True)∧Q (.tup [.v (.int .u64) ((mget [.str] [V.i 0] [V.s (ByteArray.mk #[])] (((r15.parts.headD .undef).V).list)).headD V.none),.v (.int .i64) ((r15.parts.tail.headD .undef).V)]) [])∧((True∧True∧True)∧Q (.tup [.v (.int .u64) ((mget [.str] [V.i 0] [V.s (ByteArray.mk #[])] (((r15.parts.headD .undef).V).list)).headD V.none),.v (.int .i64) ((r15.parts.tail.headD .undef).V)]) [])∧True)∧((True∧True∧True)∧Q (.tup [.v (.int .u64) ((mget [.str] [V.i 0] [V.s (ByteArray.mk #[])] (((r15.parts.headD .undef).V).list)).headD V.none),.v (.int .i64) ((r15.parts.tail.headD .undef).V)]) [])∧True)∧(cl ZM [.v (.sl Za) (V.l ([[V.s a1_0,V.b a1_1,V.l a1_2]]))] [] fun r17 H18=>r17=(.v (.sl Zb) (r17.V))∧H18=[]∧cl Zp [.v (.sl Zg) (V.l a0),.agg [.v .str (V.s a1_0),.v .bool (V.b a1_1),.v (.sl Za) (V.l a1_2)],.v (.sl Zb) (r17.V)] [] fun r19 H20=>r19=(.tup [.v (.mp Zc) ((r19.parts.headD .undef).V),.v (.int .i64) ((r19.parts.tail.headD .undef).V)])∧H20=[]∧(((True∧True∧True)∧Q (.tup [.v (.int .u64) ((mget [.str] [V.i 0] [V.s (ByteArray.mk #[])] (((r19.parts.headD .undef).V).list)).headD V.none),.v (.int .i64) ((r19.parts.tail.headD .undef).V)]) [])∧((True∧True∧True)∧Q (.tup [.v (.int .u64) ((mget [.str] [V.i 0] [V.s (ByteArray.mk #[])] (((r19.parts.headD .undef).V).list)).headD V.none),.v (.int .i64) ((r19.parts.tail.headD .undef).V)]) [])∧True)∧((True∧True∧True)∧Q (.tup [.v (.int .u64) ((mget [.str] [V.i 0] [V.s (ByteArray.mk #[])] (((r19.parts.headD .undef).V).list)).headD V.none),.v (.int .i64) ((r19.parts.tail.headD .undef).V)]) [])∧True)∧True)∧True)∧True))
theorem Zml (a0:LL) (a1_0:ByteArray) (a1_1:Bool) (a1_2:LL) (Q:QD) (h:Zis a0 a1_0 a1_1 a1_2 Q):cl Zen [.v (.sl Zg) (V.l a0),.agg [.v .str (V.s a1_0),.v .bool (V.b a1_1),.v (.sl Za) (V.l a1_2)]] [] Q :=
 acalls2 (E:=Zlp) (envOk _ _ _ _ _) 0 Tryz.func11 (by kernel_rfl) h
def ZlS:Env:=envA [] [(2,14,[],[]),(3,8,[],[]),(4,9,[],[])] [] [] []
def ZjR (Q:QD):Prop :=
 cl Zef [.v .str (V.s (ByteArray.mk #[120]))] [] fun r1 H2=>r1=(.agg [.v .str ((r1.cells.headD .undef).V),.v .bool ((r1.cells.tail.headD .undef).V),.v (.sl Za) ((r1.cells.tail.tail.headD .undef).V)])∧H2=[]∧cl Zef [.v .str (V.s (ByteArray.mk #[121]))] [] fun r3 H4=>r3=(.agg [.v .str ((r3.cells.headD .undef).V),.v .bool ((r3.cells.tail.headD .undef).V),.v (.sl Za) ((r3.cells.tail.tail.headD .undef).V)])∧H4=[]∧(∃ r5:D,cl Zdp [.v .str (V.s (ByteArray.mk #[115])),.v (.sl Za) (V.l ([[(r1.cells.headD .undef).V,(r1.cells.tail.headD .undef).V,(r1.cells.tail.tail.headD .undef).V]]))] [] (fun r H'=>r=(.agg [.v .str ((r5.cells.headD .undef).V),.v .bool ((r5.cells.tail.headD .undef).V),.v (.sl Za) ((r5.cells.tail.tail.headD .undef).V)])∧H'=[])∧(∃ r6:D,cl Zdp [.v .str (V.s (ByteArray.mk #[97,100,100])),.v (.sl Za) (V.l ([[(r5.cells.headD .undef).V,(r5.cells.tail.headD .undef).V,(r5.cells.tail.tail.headD .undef).V],[(r3.cells.headD .undef).V,(r3.cells.tail.headD .undef).V,(r3.cells.tail.tail.headD .undef).V]]))] [] (fun r H'=>r=(.agg [.v .str ((r6.cells.headD .undef).V),.v .bool ((r6.cells.tail.headD .undef).V),.v (.sl Za) ((r6.cells.tail.tail.headD .undef).V)])∧H'=[])∧(∃ r7:D,cl Zdp [.v .str (V.s (ByteArray.mk #[97,100,100])),.v (.sl Za) (V.l ([[(r1.cells.headD .undef).V,(r1.cells.tail.headD .undef).V,(r1.cells.tail.tail.headD .undef).V],[(r3.cells.headD .undef).V,(r3.cells.tail.headD .undef).V,(r3.cells.tail.tail.headD .undef).V]]))] [] (fun r H'=>r=(.agg [.v .str ((r7.cells.headD .undef).V),.v .bool ((r7.cells.tail.headD .undef).V),.v (.sl Za) ((r7.cells.tail.tail.headD .undef).V)])∧H'=[])∧(∃ r8:D,cl Zdp [.v .str (V.s (ByteArray.mk #[115])),.v (.sl Za) (V.l ([[(r7.cells.headD .undef).V,(r7.cells.tail.headD .undef).V,(r7.cells.tail.tail.headD .undef).V]]))] [] (fun r H'=>r=(.agg [.v .str ((r8.cells.headD .undef).V),.v .bool ((r8.cells.tail.headD .undef).V),.v (.sl Za) ((r8.cells.tail.tail.headD .undef).V)])∧H'=[])∧(∃ r9:D,cl ZeA [] [] (fun r H'=>r=(.v (.sl Zg) (r9.V))∧H'=[])∧(∃ r10:D,cl Zfm [.v (.sl Zg) (r9.V),.agg [.v .str ((r6.cells.headD .undef).V),.v .bool ((r6.cells.tail.headD .undef).V),.v (.sl Za) ((r6.cells.tail.tail.headD .undef).V)],.agg [.v .str ((r8.cells.headD .undef).V),.v .bool ((r8.cells.tail.headD .undef).V),.v (.sl Za) ((r8.cells.tail.tail.headD .undef).V)]] [] (fun r H'=>r=(.tup [.v (.int .i64) ((r10.parts.headD .undef).V),.v (.int .i64) ((r10.parts.tail.headD .undef).V)])∧H'=[])∧(∃ r11:D,cl ZeA [] [] (fun r H'=>r=(.v (.sl Zg) (r11.V))∧H'=[])∧(∃ r12:D,cl Zkq [.v (.sl Zg) (r11.V),.agg [.v .str ((r6.cells.headD .undef).V),.v .bool ((r6.cells.tail.headD .undef).V),.v (.sl Za) ((r6.cells.tail.tail.headD .undef).V)]] [] (fun r H'=>r=(.tup [.v (.sl Zb) ((r12.parts.headD .undef).V),.v (.sl Zk) ((r12.parts.tail.headD .undef).V),.v (.int .i64) ((r12.parts.tail.tail.headD .undef).V)])∧H'=[])∧iff ((((r10.parts.tail.headD .undef).V).int) == (0:Int)) (iff ((((r10.parts.headD .undef).V).int) == (2:Int)) (iff ((((r12.parts.tail.tail.headD .undef).V).int) == (0:Int)) (cl ZeO [.v (.sl Zb) ((r12.parts.headD .undef).V),.v (.sl Zb) (V.l ([[V.s (ByteArray.mk #[120])],[V.s (ByteArray.mk #[121])]]))] [] fun r13 H14=>r13=(.v .bool (r13.V))∧H14=[]∧iff r13.V.bool (cl ZeK [.v (.sl Zk) ((r12.parts.tail.headD .undef).V),.v (.sl Zk) (V.l ([[V.i 3,V.l ([[V.i 0],[V.i 0]])],[V.i 1,V.l ([[V.i 0],[V.i 1]])],[V.i 2,V.l ([[V.i 1],[V.i 0]])]]))] [] fun r15 H16=>r15=(.v .bool (r15.V))∧H16=[]∧True∧Q (.v .bool (r15.V)) []) (True∧Q (.v .bool (V.b false)) [])) (True∧Q (.v .bool (V.b false)) [])) (True∧Q (.v .bool (V.b false)) [])) (True∧Q (.v .bool (V.b false)) [])))))))))
theorem ZmL (Q:QD) (h:ZjR Q):cl ZaJ [] [] Q :=
 acalls2 (E:=ZlS) (envOk _ _ _ _ _) 0 Tryz.func14 (by kernel_rfl) h
def Zbn:Env:=envA [(4,ua 4 8 (ua 14 12 ([])))] [(6,8,[],[])] [] [] []
def Zik (Q:QD):Post:=blockK 0 (seqJ Zbn (fnAt [1,1,1] Tryz.f15) (endK Zbn Tryz.f15 Q))
@[irreducible] def Zbd (Q:QD) (m0:Nat) (x0 x1:LL) (x12 x13:Int):Prop :=
 iter (adj (Zbn.adj 4)) (evCode Zbn (fnAt [1,1,0,1,0,0] Tryz.f15)) (Zik Q) m0 ⟨(.v (.sl Zb) (V.l x0))::(.v (.sl Zb) (V.l x1))::sk 2 (un 8 ((.v (.int .i64) (V.i x12))::(.v (.int .i64) (V.i x13))::un 12 ([]))),dd 26 ([])⟩ []
def ZiB (Q:QD) (m0:Nat) (x0 x1:LL) (x12 x13:Int):Prop :=
 iff (decide (x13<x12)) (0≤x13∧x13<x0.length∧0≤x13∧x13<x1.length∧iff (!(((((x0.getD x13.toNat []).drop 0).headD V.none).str).toList == ((((x1.getD x13.toNat []).drop 0).headD V.none).str).toList)) (True∧Q (.v .bool (V.b false)) []) (Zbd Q m0 x0 x1 x12 (IntKind.i64.wrap (x13+(1:Int))))) (True∧Q (.v .bool (V.b true)) [])
theorem Zg1 (Q:QD) (m0:Nat) (x0 x1:LL) (x12 x13:Int):Zbd Q (m0+1) x0 x1 x12 x13=ZiB Q m0 x0 x1 x12 x13:=by kernel_rfl
theorem ZgI (Q:QD) (x0 x1:LL) (n:Nat) (hb:n≤big) (J:Nat→Prop)
  (step:∀ (k:Nat),k<n→J k→∀ K:Prop,(J (k+1)→K)→(0≤(k:Int)∧(k:Int)<x0.length∧0≤(k:Int)∧(k:Int)<x1.length∧iff (!(((((x0.getD k []).drop 0).headD V.none).str).toList == ((((x1.getD k []).drop 0).headD V.none).str).toList)) (True∧Q (.v .bool (V.b false)) []) (K)))
  (last:J n→(True∧Q (.v .bool (V.b true)) []))
  (k:Nat) (le0:k≤n) (hj:J k):∃ m0,Zbd Q m0 x0 x1 (n:Int) ((k:Int)):=by
 exact rangeG0 n hb J (fun m0 i=>Zbd Q m0 x0 x1 (n:Int) i) (fun m0 i=>Zg1 Q m0 x0 x1 (n:Int) i) (fun k hl_ hj_ m_ ih_=>step k hl_ hj_ _ ih_) last k le0 hj
def ZjW (a0 a1:LL) (Q:QD):Prop :=
 (a0.length≤big→(a1.length≤big→iff (((a0.length:Int)) != ((a1.length:Int))) (True∧Q (.v .bool (V.b false)) []) ((a0.length≤big→∃ m0,Zbd Q m0 a0 a1 ((a0.length:Int)) 0))))
theorem Zkw (a0 a1:LL) (Q:QD) (h:ZjW a0 a1 Q):cl ZeO [.v (.sl Zb) (V.l a0),.v (.sl Zb) (V.l a1)] [] Q :=
 acalls2 (E:=Zbn) (envOk _ _ _ _ _) 0 Tryz.func15 (by kernel_rfl) h
def Zbm:Env:=envA [(4,ua 4 8 (ua 14 28 ([.dead 38])))] [(6,22,[],[])] [] [] []
def Zi2 (Q:QD):Post:=blockK 0 (seqJ Zbm (fnAt [1,1,1] Tryz.f16) (endK Zbm Tryz.f16 Q))
@[irreducible] def Zbf (Q:QD) (m0:Nat) (x0 x1:LL) (x12 x13:Int):Prop :=
 iter (adj (Zbm.adj 4)) (evCode Zbm (fnAt [1,1,0,1,0,0] Tryz.f16)) (Zi2 Q) m0 ⟨(.v (.sl Zk) (V.l x0))::(.v (.sl Zk) (V.l x1))::sk 2 (un 8 ((.v (.int .i64) (V.i x12))::(.v (.int .i64) (V.i x13))::un 28 ([]))),dd 42 ([])⟩ []
def Zig (Q:QD) (m0:Nat) (x0 x1:LL) (x12 x13:Int):Prop :=
 iff (decide (x13<x12)) (0≤x13∧x13<x0.length∧0≤x13∧x13<x1.length∧iff (((((x0.getD x13.toNat []).drop 0).headD V.none).int) != ((((x1.getD x13.toNat []).drop 0).headD V.none).int)) (True∧Q (.v .bool (V.b false)) []) (0≤x13∧x13<x0.length∧0≤x13∧x13<x1.length∧cl ZcN [.v (.sl ZT) (((x0.getD x13.toNat []).drop 1).headD V.none),.v (.sl ZT) (((x1.getD x13.toNat []).drop 1).headD V.none)] [] fun r1 H2=>r1=(.v (.int .i64) (r1.V))∧H2=[]∧iff (r1.V.int != (0:Int)) (True∧Q (.v .bool (V.b false)) []) (Zbf Q m0 x0 x1 x12 (IntKind.i64.wrap (x13+(1:Int)))))) (True∧Q (.v .bool (V.b true)) [])
theorem Zho (Q:QD) (m0:Nat) (x0 x1:LL) (x12 x13:Int):Zbf Q (m0+1) x0 x1 x12 x13=Zig Q m0 x0 x1 x12 x13:=by kernel_rfl
theorem Zgr (Q:QD) (x0 x1:LL) (n:Nat) (hb:n≤big) (J:Nat→Prop)
  (step:∀ (k:Nat),k<n→J k→∀ K:Prop,(J (k+1)→K)→(0≤(k:Int)∧(k:Int)<x0.length∧0≤(k:Int)∧(k:Int)<x1.length∧iff (((((x0.getD k []).drop 0).headD V.none).int) != ((((x1.getD k []).drop 0).headD V.none).int)) (True∧Q (.v .bool (V.b false)) []) (0≤(k:Int)∧(k:Int)<x0.length∧0≤(k:Int)∧(k:Int)<x1.length∧cl ZcN [.v (.sl ZT) (((x0.getD k []).drop 1).headD V.none),.v (.sl ZT) (((x1.getD k []).drop 1).headD V.none)] [] fun r1 H2=>r1=(.v (.int .i64) (r1.V))∧H2=[]∧iff (r1.V.int != (0:Int)) (True∧Q (.v .bool (V.b false)) []) (K))))
  (last:J n→(True∧Q (.v .bool (V.b true)) []))
  (k:Nat) (le0:k≤n) (hj:J k):∃ m0,Zbf Q m0 x0 x1 (n:Int) ((k:Int)):=by
 exact rangeG0 n hb J (fun m0 i=>Zbf Q m0 x0 x1 (n:Int) i) (fun m0 i=>Zho Q m0 x0 x1 (n:Int) i) (fun k hl_ hj_ m_ ih_=>step k hl_ hj_ _ ih_) last k le0 hj
def Zj7 (a0 a1:LL) (Q:QD):Prop :=
 (a0.length≤big→(a1.length≤big→iff (((a0.length:Int)) != ((a1.length:Int))) (True∧Q (.v .bool (V.b false)) []) ((a0.length≤big→∃ m0,Zbf Q m0 a0 a1 ((a0.length:Int)) 0))))
theorem Zkp (a0 a1:LL) (Q:QD) (h:Zj7 a0 a1 Q):cl ZeK [.v (.sl Zk) (V.l a0),.v (.sl Zk) (V.l a1)] [] Q :=
 acalls2 (E:=Zbm) (envOk _ _ _ _ _) 0 Tryz.func16 (by kernel_rfl) h
def Zj3:Env:=envA [] [] [6000007] [] []
def ZgQ (a0:LL) (a1_0:ByteArray) (a1_1:Bool) (a1_2:LL) (a2_0:ByteArray) (a2_1:Bool) (a2_2:LL) (Q:QD):Prop :=
 cl Zcl [.v (.sl Zg) (V.l a0)] [] fun r1 H2=>r1=(.v (.int .i64) (r1.V))∧H2=[]∧iff (r1.V.int != (0:Int)) ((True∧True∧True)∧Q (.tup [.v (.int .i64) (V.i 0),.v (.int .i64) (r1.V)]) []) (cl ZI [.agg [.v .str (V.s a1_0),.v .bool (V.b a1_1),.v (.sl Za) (V.l a1_2)]] [] fun r3 H4=>r3=(.v (.int .i64) (r3.V))∧H4=[]∧iff (r3.V.int != (0:Int)) ((True∧True∧True)∧Q (.tup [.v (.int .i64) (V.i 0),.v (.int .i64) (r3.V)]) []) ((cl ZM [.v (.sl Za) (V.l ([[V.s a1_0,V.b a1_1,V.l a1_2]]))] [] fun r5 H6=>r5=(.v (.sl Zb) (r5.V))∧H6=[]∧cl Zp [.v (.sl Zg) (V.l a0),.agg [.v .str (V.s a1_0),.v .bool (V.b a1_1),.v (.sl Za) (V.l a1_2)],.v (.sl Zb) (r5.V)] [] fun r7 H8=>r7=(.tup [.v (.mp Zc) ((r7.parts.headD .undef).V),.v (.int .i64) ((r7.parts.tail.headD .undef).V)])∧H8=[]∧((iff ((((r7.parts.tail.headD .undef).V).int) != (0:Int)) ((True∧True∧True)∧Q (.tup [.v (.int .i64) (V.i 0),.v (.int .i64) ((r7.parts.tail.headD .undef).V)]) []) (cl ZI [.agg [.v .str (V.s a2_0),.v .bool (V.b a2_1),.v (.sl Za) (V.l a2_2)]] [] fun r9 H10=>r9=(.v (.int .i64) (r9.V))∧H10=[]∧iff (r9.V.int != (0:Int)) ((True∧True∧True)∧Q (.tup [.v (.int .i64) (V.i 0),.v (.int .i64) (r9.V)]) []) (cl ZC [.v (.sl Zg) (V.l a0),.agg [.v .str (V.s a1_0),.v .bool (V.b a1_1),.v (.sl Za) (V.l a1_2)],.agg [.v .str (V.s a2_0),.v .bool (V.b a2_1),.v (.sl Za) (V.l a2_2)]] [] fun r11 H12=>r11=(.tup [.v (.int .i64) ((r11.parts.headD .undef).V),.v (.int .i64) ((r11.parts.tail.headD .undef).V)])∧H12=[]∧(True∧True∧True)∧Q (.tup [.v (.int .i64) ((r11.parts.headD .undef).V),.v (.int .i64) ((r11.parts.tail.headD .undef).V)]) [])))∧(iff ((((r7.parts.tail.headD .undef).V).int) != (0:Int)) ((True∧True∧True)∧Q (.tup [.v (.int .i64) (V.i 0),.v (.int .i64) ((r7.parts.tail.headD .undef).V)]) []) (cl ZI [.agg [.v .str (V.s a2_0),.v .bool (V.b a2_1),.v (.sl Za) (V.l a2_2)]] [] fun r13 H14=>r13=(.v (.int .i64) (r13.V))∧H14=[]∧iff (r13.V.int != (0:Int)) ((True∧True∧True)∧Q (.tup [.v (.int .i64) (V.i 0),.v (.int .i64) (r13.V)]) []) (cl ZC [.v (.sl Zg) (V.l a0),.agg [.v .str (V.s a1_0),.v .bool (V.b a1_1),.v (.sl Za) (V.l a1_2)],.agg [.v .str (V.s a2_0),.v .bool (V.b a2_1),.v (.sl Za) (V.l a2_2)]] [] fun r15 H16=>r15=(.tup [.v (.int .i64) ((r15.parts.headD .undef).V),.v (.int .i64) ((r15.parts.tail.headD .undef).V)])∧H16=[]∧(True∧True∧True)∧Q (.tup [.v (.int .i64) ((r15.parts.headD .undef).V),.v (.int .i64) ((r15.parts.tail.headD .undef).V)]) [])))∧True)∧(iff ((((r7.parts.tail.headD .undef).V).int) != (0:Int)) ((True∧True∧True)∧Q (.tup [.v (.int .i64) (V.i 0),.v (.int .i64) ((r7.parts.tail.headD .undef).V)]) []) (cl ZI [.agg [.v .str (V.s a2_0),.v .bool (V.b a2_1),.v (.sl Za) (V.l a2_2)]] [] fun r17 H18=>r17=(.v (.int .i64) (r17.V))∧H18=[]∧iff (r17.V.int != (0:Int)) ((True∧True∧True)∧Q (.tup [.v (.int .i64) (V.i 0),.v (.int .i64) (r17.V)]) []) (cl ZC [.v (.sl Zg) (V.l a0),.agg [.v .str (V.s a1_0),.v .bool (V.b a1_1),.v (.sl Za) (V.l a1_2)],.agg [.v .str (V.s a2_0),.v .bool (V.b a2_1),.v (.sl Za) (V.l a2_2)]] [] fun r19 H20=>r19=(.tup [.v (.int .i64) ((r19.parts.headD .undef).V),.v (.int .i64) ((r19.parts.tail.headD .undef).V)])∧H20=[]∧(True∧True∧True)∧Q (.tup [.v (.int .i64) ((r19.parts.headD .undef).V),.v (.int .i64) ((r19.parts.tail.headD .undef).V)]) [])))∧True)∧((cl ZM [.v (.sl Za) (V.l ([[V.s a1_0,V.b a1_1,V.l a1_2]]))] [] fun r21 H22=>r21=(.v (.sl Zb) (r21.V))∧H22=[]∧cl Zp [.v (.sl Zg) (V.l a0),.agg [.v .str (V.s a1_0),.v .bool (V.b a1_1),.v (.sl Za) (V.l a1_2)],.v (.sl Zb) (r21.V)] [] fun r23 H24=>r23=(.tup [.v (.mp Zc) ((r23.parts.headD .undef).V),.v (.int .i64) ((r23.parts.tail.headD .undef).V)])∧H24=[]∧((iff ((((r23.parts.tail.headD .undef).V).int) != (0:Int)) ((True∧True∧True)∧Q (.tup [.v (.int .i64) (V.i 0),.v (.int .i64) ((r23.parts.tail.headD .undef).V)]) []) (cl ZI [.agg [.v .str (V.s a2_0),.v .bool (V.b a2_1),.v (.sl Za) (V.l a2_2)]] [] fun r25 H26=>r25=(.v (.int .i64) (r25.V))∧H26=[]∧iff (r25.V.int != (0:Int)) ((True∧True∧True)∧Q (.tup [.v (.int .i64) (V.i 0),.v (.int .i64) (r25.V)]) []) (cl ZC [.v (.sl Zg) (V.l a0),.agg [.v .str (V.s a1_0),.v .bool (V.b a1_1),.v (.sl Za) (V.l a1_2)],.agg [.v .str (V.s a2_0),.v .bool (V.b a2_1),.v (.sl Za) (V.l a2_2)]] [] fun r27 H28=>r27=(.tup [.v (.int .i64) ((r27.parts.headD .undef).V),.v (.int .i64) ((r27.parts.tail.headD .undef).V)])∧H28=[]∧(True∧True∧True)∧Q (.tup [.v (.int .i64) ((r27.parts.headD .undef).V),.v (.int .i64) ((r27.parts.tail.headD .undef).V)]) [])))∧(iff ((((r23.parts.tail.headD .undef).V).int) != (0:Int)) ((True∧True∧True)∧Q (.tup [.v (.int .i64) (V.i 0),.v (.int .i64) ((r23.parts.tail.headD .undef).V)]) []) (cl ZI [.agg [.v .str (V.s a2_0),.v .bool (V.b a2_1),.v (.sl Za) (V.l a2_2)]] [] fun r29 H30=>r29=(.v (.int .i64) (r29.V))∧H30=[]∧iff (r29.V.int != (0:Int)) ((True∧True∧True)∧Q (.tup [.v (.int .i64) (V.i 0),.v (.int .i64) (r29.V)]) []) (cl ZC [.v (.sl Zg) (V.l a0),.agg [.v .str (V.s a1_0),.v .bool (V.b a1_1),.v (.sl Za) (V.l a1_2)],.agg [.v .str (V.s a2_0),.v .bool (V.b a2_1),.v (.sl Za) (V.l a2_2)]] [] fun r31 H32=>r31=(.tup [.v (.int .i64) ((r31.parts.headD .undef).V),.v (.int .i64) ((r31.parts.tail.headD .undef).V)])∧H32=[]∧(True∧True∧True)∧Q (.tup [.v (.int .i64) ((r31.parts.headD .undef).V),.v (.int .i64) ((r31.parts.tail.headD .undef).V)]) [])))∧True)∧(iff ((((r23.parts.tail.headD .undef).V).int) != (0:Int)) ((True∧True∧True)∧Q (.tup [.v (.int .i64) (V.i 0),.v (.int .i64) ((r23.parts.tail.headD .undef).V)]) []) (cl ZI [.agg [.v .str (V.s a2_0),.v .bool (V.b a2_1),.v (.sl Za) (V.l a2_2)]] [] fun r33 H34=>r33=(.v (.int .i64) (r33.V))∧H34=[]∧iff (r33.V.int != (0:Int)) ((True∧True∧True)∧Q (.tup [.v (.int .i64) (V.i 0),.v (.int .i64) (r33.V)]) []) (cl ZC [.v (.sl Zg) (V.l a0),.agg [.v .str (V.s a1_0),.v .bool (V.b a1_1),.v (.sl Za) (V.l a1_2)],.agg [.v .str (V.s a2_0),.v .bool (V.b a2_1),.v (.sl Za) (V.l a2_2)]] [] fun r35 H36=>r35=(.tup [.v (.int .i64) ((r35.parts.headD .undef).V),.v (.int .i64) ((r35.parts.tail.headD .undef).V)])∧H36=[]∧(True∧True∧True)∧Q (.tup [.v (.int .i64) ((r35.parts.headD .undef).V),.v (.int .i64) ((r35.parts.tail.headD .undef).V)]) [])))∧True)∧((cl ZM [.v (.sl Za) (V.l ([[V.s a1_0,V.b a1_1,V.l a1_2]]))] [] fun r37 H38=>r37=(.v (.sl Zb) (r37.V))∧H38=[]∧cl Zp [.v (.sl Zg) (V.l a0),.agg [.v .str (V.s a1_0),.v .bool (V.b a1_1),.v (.sl Za) (V.l a1_2)],.v (.sl Zb) (r37.V)] [] fun r39 H40=>r39=(.tup [.v (.mp Zc) ((r39.parts.headD .undef).V),.v (.int .i64) ((r39.parts.tail.headD .undef).V)])∧H40=[]∧((iff ((((r39.parts.tail.headD .undef).V).int) != (0:Int)) ((True∧True∧True)∧Q (.tup [.v (.int .i64) (V.i 0),.v (.int .i64) ((r39.parts.tail.headD .undef).V)]) []) (cl ZI [.agg [.v .str (V.s a2_0),.v .bool (V.b a2_1),.v (.sl Za) (V.l a2_2)]] [] fun r41 H42=>r41=(.v (.int .i64) (r41.V))∧H42=[]∧iff (r41.V.int != (0:Int)) ((True∧True∧True)∧Q (.tup [.v (.int .i64) (V.i 0),.v (.int .i64) (r41.V)]) []) (cl ZC [.v (.sl Zg) (V.l a0),.agg [.v .str (V.s a1_0),.v .bool (V.b a1_1),.v (.sl Za) (V.l a1_2)],.agg [.v .str (V.s a2_0),.v .bool (V.b a2_1),.v (.sl Za) (V.l a2_2)]] [] fun r43 H44=>r43=(.tup [.v (.int .i64) ((r43.parts.headD .undef).V),.v (.int .i64) ((r43.parts.tail.headD .undef).V)])∧H44=[]∧(True∧True∧True)∧Q (.tup [.v (.int .i64) ((r43.parts.headD .undef).V),.v (.int .i64) ((r43.parts.tail.headD .undef).V)]) [])))∧(iff ((((r39.parts.tail.headD .undef).V).int) != (0:Int)) ((True∧True∧True)∧Q (.tup [.v (.int .i64) (V.i 0),.v (.int .i64) ((r39.parts.tail.headD .undef).V)]) []) (cl ZI [.agg [.v .str (V.s a2_0),.v .bool (V.b a2_1),.v (.sl Za) (V.l a2_2)]] [] fun r45 H46=>r45=(.v (.int .i64) (r45.V))∧H46=[]∧iff (r45.V.int != (0:Int)) ((True∧True∧True)∧Q (.tup [.v (.int .i64) (V.i 0),.v (.int .i64) (r45.V)]) []) (cl ZC [.v (.sl Zg) (V.l a0),.agg [.v .str (V.s a1_0),.v .bool (V.b a1_1),.v (.sl Za) (V.l a1_2)],.agg [.v .str (V.s a2_0),.v .bool (V.b a2_1),.v (.sl Za) (V.l a2_2)]] [] fun r47 H48=>r47=(.tup [.v (.int .i64) ((r47.parts.headD .undef).V),.v (.int .i64) ((r47.parts.tail.headD .undef).V)])∧H48=[]∧(True∧True∧True)∧Q (.tup [.v (.int .i64) ((r47.parts.headD .undef).V),.v (.int .i64) ((r47.parts.tail.headD .undef).V)]) [])))∧True)∧(iff ((((r39.parts.tail.headD .undef).V).int) != (0:Int)) ((True∧True∧True)∧Q (.tup [.v (.int .i64) (V.i 0),.v (.int .i64) ((r39.parts.tail.headD .undef).V)]) []) (cl ZI [.agg [.v .str (V.s a2_0),.v .bool (V.b a2_1),.v (.sl Za) (V.l a2_2)]] [] fun r49 H50=>r49=(.v (.int .i64) (r49.V))∧H50=[]∧iff (r49.V.int != (0:Int)) ((True∧True∧True)∧Q (.tup [.v (.int .i64) (V.i 0),.v (.int .i64) (r49.V)]) []) (cl ZC [.v (.sl Zg) (V.l a0),.agg [.v .str (V.s a1_0),.v .bool (V.b a1_1),.v (.sl Za) (V.l a1_2)],.agg [.v .str (V.s a2_0),.v .bool (V.b a2_1),.v (.sl Za) (V.l a2_2)]] [] fun r51 H52=>r51=(.tup [.v (.int .i64) ((r51.parts.headD .undef).V),.v (.int .i64) ((r51.parts.tail.headD .undef).V)])∧H52=[]∧(True∧True∧True)∧Q (.tup [.v (.int .i64) ((r51.parts.headD .undef).V),.v (.int .i64) ((r51.parts.tail.headD .undef).V)]) [])))∧True)∧(cl ZM [.v (.sl Za) (V.l ([[V.s a1_0,V.b a1_1,V.l a1_2]]))] [] fun r53 H54=>r53=(.v (.sl Zb) (r53.V))∧H54=[]∧cl Zp [.v (.sl Zg) (V.l a0),.agg [.v .str (V.s a1_0),.v .bool (V.b a1_1),.v (.sl Za) (V.l a1_2)],.v (.sl Zb) (r53.V)] [] fun r55 H56=>r55=(.tup [.v (.mp Zc) ((r55.parts.headD .undef).V),.v (.int .i64) ((r55.parts.tail.headD .undef).V)])∧H56=[]∧((iff ((((r55.parts.tail.headD .undef).V).int) != (0:Int)) ((True∧True∧True)∧Q (.tup [.v (.int .i64) (V.i 0),.v (.int .i64) ((r55.parts.tail.headD .undef).V)]) []) (cl ZI [.agg [.v .str (V.s a2_0),.v .bool (V.b a2_1),.v (.sl Za) (V.l a2_2)]] [] fun r57 H58=>r57=(.v (.int .i64) (r57.V))∧H58=[]∧iff (r57.V.int != (0:Int)) ((True∧True∧True)∧Q (.tup [.v (.int .i64) (V.i 0),.v (.int .i64) (r57.V)]) []) (cl ZC [.v (.sl Zg) (V.l a0),.agg [.v .str (V.s a1_0),.v .bool (V.b a1_1),.v (.sl Za) (V.l a1_2)],.agg [.v .str (V.s a2_0),.v .bool (V.b a2_1),.v (.sl Za) (V.l a2_2)]] [] fun r59 H60=>r59=(.tup [.v (.int .i64) ((r59.parts.headD .undef).V),.v (.int .i64) ((r59.parts.tail.headD .undef).V)])∧H60=[]∧(True∧True∧True)∧Q (.tup [.v (.int .i64) ((r59.parts.headD .undef).V),.v (.int .i64) ((r59.parts.tail.headD .undef).V)]) [])))∧(iff ((((r55.parts.tail.headD .undef).V).int) != (0:Int)) ((True∧True∧True)∧Q (.tup [.v (.int .i64) (V.i 0),.v (.int .i64) ((r55.parts.tail.headD .undef).V)]) []) (cl ZI [.agg [.v .str (V.s a2_0),.v .bool (V.b a2_1),.v (.sl Za) (V.l a2_2)]] [] fun r61 H62=>r61=(.v (.int .i64) (r61.V))∧H62=[]∧iff (r61.V.int != (0:Int)) ((True∧True∧True)∧Q (.tup [.v (.int .i64) (V.i 0),.v (.int .i64) (r61.V)]) []) (cl ZC [.v (.sl Zg) (V.l a0),.agg [.v .str (V.s a1_0),.v .bool (V.b a1_1),.v (.sl Za) (V.l a1_2)],.agg [.v .str (V.s a2_0),.v .bool (V.b a2_1),.v (.sl Za) (V.l a2_2)]] [] fun r63 H64=>r63=(.tup [.v (.int .i64) ((r63.parts.headD .undef).V),.v (.int .i64) ((r63.parts.tail.headD .undef).V)])∧H64=[]∧(True∧True∧True)∧Q (.tup [.v (.int .i64) ((r63.parts.headD .undef).V),.v (.int .i64) ((r63.parts.tail.headD .undef).V)]) [])))∧True)∧(iff ((((r55.parts.tail.headD .undef).V).int) != (0:Int)) ((True∧True∧True)∧Q (.tup [.v (.int .i64) (V.i 0),.v (.int .i64) ((r55.parts.tail.headD .undef).V)]) []) (cl ZI [.agg [.v .str (V.s a2_0),.v .bool (V.b a2_1),.v (.sl Za) (V.l a2_2)]] [] fun r65 H66=>r65=(.v (.int .i64) (r65.V))∧H66=[]∧iff (r65.V.int != (0:Int)) ((True∧True∧True)∧Q (.tup [.v (.int .i64) (V.i 0),.v (.int .i64) (r65.V)]) []) (cl ZC [.v (.sl Zg) (V.l a0),.agg [.v .str (V.s a1_0),.v .bool (V.b a1_1),.v (.sl Za) (V.l a1_2)],.agg [.v .str (V.s a2_0),.v .bool (V.b a2_1),.v (.sl Za) (V.l a2_2)]] [] fun r67 H68=>r67=(.tup [.v (.int .i64) ((r67.parts.headD .undef).V),.v (.int .i64) ((r67.parts.tail.headD .undef).V)])∧H68=[]∧(True∧True∧True)∧Q (.tup [.v (.int .i64) ((r67.parts.headD .undef).V),.v (.int .i64) ((r67.parts.tail.headD .undef).V)]) [])))∧True)∧True)∧True)∧True))
theorem Zk6 (a0:LL) (a1_0:ByteArray) (a1_1:Bool) (a1_2:LL) (a2_0:ByteArray) (a2_1:Bool) (a2_2:LL) (Q:QD) (h:ZgQ a0 a1_0 a1_1 a1_2 a2_0 a2_1 a2_2 Q):cl Zfm [.v (.sl Zg) (V.l a0),.agg [.v .str (V.s a1_0),.v .bool (V.b a1_1),.v (.sl Za) (V.l a1_2)],.agg [.v .str (V.s a2_0),.v .bool (V.b a2_1),.v (.sl Za) (V.l a2_2)]] [] Q :=
 acalls2 (E:=Zj3) (envOk _ _ _ _ _) 0 Tryz.func18 (by kernel_rfl) h
def ZdR:Env:=envA [(5,(.undef 1)::(.undef 3)::ua 7 3 (ua 14 4 (ua 21 12 ((.dead 3)::(.dead 7)::da 28 3 ([.ownC 5 2 34 Za])))))] [(7,6,[],[])] [] [] []
def ZkZ (Q:QD):Post:=blockK 0 (seqJ ZdR (fnAt [1,1,1,1] Tryz.f21) (endK ZdR Tryz.f21 Q))
@[irreducible] def Zc5 (Q:QD) (m0:Nat) (x0 x18:LL) (x19 x20:Int) (y4_0:ByteArray) (y4_1:Bool) (y5_0:ByteArray) (y5_1:Bool) (y5_2n:Nat) (y34:LL):Prop :=
 iter (adj (ZdR.adj 5)) (evCode ZdR (fnAt [1,1,1,0,1,0,0] Tryz.f21)) (ZkZ Q) m0 ⟨(.v (.sl Z2) (V.l x0))::.undef::.skip::.undef::(.ptr (.loc 4) 0)::(.ptr (.loc 5) 0)::.skip::un 3 (sk 4 (un 4 ((.v (.sl Za) (V.l x18))::(.v (.int .i64) (V.i x19))::(.v (.int .i64) (V.i x20))::un 12 ([.skip])))),dd 4 ((.cells [.v .str (V.s y4_0),.v .bool (V.b y4_1),.nil])::(.cells [.v .str (V.s y5_0),.v .bool (V.b y5_1),.osl (.loc 34) y5_2n])::dd 28 ([.row Za y34]))⟩ []
def Zld (Q:QD) (m0:Nat) (x0 x18:LL) (x19 x20:Int) (y4_0:ByteArray) (y4_1:Bool) (y5_0:ByteArray) (y5_1:Bool) (y5_2n:Nat) (y34:LL):Prop :=
 iff (decide (x20<x19)) (0≤x20∧x20<x18.length∧(∃ r1:D,cl ZeF [.v (.sl Z2) (V.l x0),.agg [.v .str (((x18.getD x20.toNat []).drop 0).headD V.none),.v .bool ((((x18.getD x20.toNat []).drop 0).tail).headD V.none),.v (.sl Za) (((((x18.getD x20.toNat []).drop 0).tail).tail).headD V.none)]] [] (fun r H'=>r=(.agg [.v .str ((r1.cells.headD .undef).V),.v .bool ((r1.cells.tail.headD .undef).V),.v (.sl Za) ((r1.cells.tail.tail.headD .undef).V)])∧H'=[])∧y34.length=y5_2n∧y5_2n+([[(r1.cells.headD .undef).V,(r1.cells.tail.headD .undef).V,(r1.cells.tail.tail.headD .undef).V]]).length≤lim∧Zc5 Q m0 x0 x18 x19 (IntKind.i64.wrap (x20+(1:Int))) y4_0 y4_1 y5_0 y5_1 (y5_2n+([[(r1.cells.headD .undef).V,(r1.cells.tail.headD .undef).V,(r1.cells.tail.tail.headD .undef).V]]).length) (y34++([[(r1.cells.headD .undef).V,(r1.cells.tail.headD .undef).V,(r1.cells.tail.tail.headD .undef).V]])))) ((True∧True∧(y5_2n=y34.length)∧True)∧Q (.agg [.v .str (V.s y5_0),.v .bool (V.b y5_1),.v (.sl Za) (V.l y34)]) [])
theorem Zj2 (Q:QD) (m0:Nat) (x0 x18:LL) (x19 x20:Int) (y4_0:ByteArray) (y4_1:Bool) (y5_0:ByteArray) (y5_1:Bool) (y5_2n:Nat) (y34:LL):Zc5 Q (m0+1) x0 x18 x19 x20 y4_0 y4_1 y5_0 y5_1 y5_2n y34=Zld Q m0 x0 x18 x19 x20 y4_0 y4_1 y5_0 y5_1 y5_2n y34:=by kernel_rfl
theorem Zjz (Q:QD) (x0 x18:LL) (y4_0:ByteArray) (y4_1:Bool) (y5_0:ByteArray) (y5_1:Bool) (n:Nat) (hb:n≤big) (J:Nat→Nat→LL→Prop)
  (step:∀ (k:Nat) (y5_2n:Nat) (y34:LL),k<n→J k y5_2n y34→∀ K:Nat→LL→Prop,(∀ (y5_2n':Nat) (y34':LL),J (k+1) y5_2n' y34'→K y5_2n' y34')→(0≤(k:Int)∧(k:Int)<x18.length∧(∃ r1:D,cl ZeF [.v (.sl Z2) (V.l x0),.agg [.v .str (((x18.getD k []).drop 0).headD V.none),.v .bool ((((x18.getD k []).drop 0).tail).headD V.none),.v (.sl Za) (((((x18.getD k []).drop 0).tail).tail).headD V.none)]] [] (fun r H'=>r=(.agg [.v .str ((r1.cells.headD .undef).V),.v .bool ((r1.cells.tail.headD .undef).V),.v (.sl Za) ((r1.cells.tail.tail.headD .undef).V)])∧H'=[])∧y34.length=y5_2n∧y5_2n+([[(r1.cells.headD .undef).V,(r1.cells.tail.headD .undef).V,(r1.cells.tail.tail.headD .undef).V]]).length≤lim∧K (y5_2n+([[(r1.cells.headD .undef).V,(r1.cells.tail.headD .undef).V,(r1.cells.tail.tail.headD .undef).V]]).length) (y34++([[(r1.cells.headD .undef).V,(r1.cells.tail.headD .undef).V,(r1.cells.tail.tail.headD .undef).V]])))))
  (last:∀ (y5_2n:Nat) (y34:LL),J n y5_2n y34→((True∧True∧(y5_2n=y34.length)∧True)∧Q (.agg [.v .str (V.s y5_0),.v .bool (V.b y5_1),.v (.sl Za) (V.l y34)]) []))
  (k:Nat) (y5_2n:Nat) (y34:LL) (le0:k≤n) (hj:J k y5_2n y34):∃ m0,Zc5 Q m0 x0 x18 (n:Int) ((k:Int)) y4_0 y4_1 y5_0 y5_1 y5_2n y34:=by
 exact rangeG2 n hb J (fun m0 i y5_2n y34=>Zc5 Q m0 x0 x18 (n:Int) i y4_0 y4_1 y5_0 y5_1 y5_2n y34) (fun m0 i y5_2n y34=>Zj2 Q m0 x0 x18 (n:Int) i y4_0 y4_1 y5_0 y5_1 y5_2n y34) (fun k y5_2n y34 hl_ hj_ m_ ih_=>step k y5_2n y34 hl_ hj_ _ ih_) last k y5_2n y34 le0 hj
def ZjJ (a0:LL) (a1_0:ByteArray) (a1_1:Bool) (a1_2:LL) (Q:QD):Prop :=
 iff a1_1 (cl ZeM [.v (.sl Z2) (V.l a0),.v .str (V.s a1_0)] [] fun r1 H2=>r1=(.agg [.v .str ((r1.cells.headD .undef).V),.v .bool ((r1.cells.tail.headD .undef).V),.v (.sl Za) ((r1.cells.tail.tail.headD .undef).V)])∧H2=[]∧(True∧True∧True∧True)∧Q (.agg [.v .str ((r1.cells.headD .undef).V),.v .bool ((r1.cells.tail.headD .undef).V),.v (.sl Za) ((r1.cells.tail.tail.headD .undef).V)]) []) ((a1_2.length≤big→∃ m0,Zc5 Q m0 a0 a1_2 ((a1_2.length:Int)) 0 (ByteArray.mk #[]) false a1_0 false 0 (([]:List (List V)))))
theorem Zmu (a0:LL) (a1_0:ByteArray) (a1_1:Bool) (a1_2:LL) (Q:QD) (h:ZjJ a0 a1_0 a1_1 a1_2 Q):cl ZeF [.v (.sl Z2) (V.l a0),.agg [.v .str (V.s a1_0),.v .bool (V.b a1_1),.v (.sl Za) (V.l a1_2)]] [] Q :=
 acalls2 (E:=ZdR) (envOk _ _ _ _ _) 1 Tryz.func21 (by kernel_rfl) h
def Zo:Env:=envA [(8,ua 4 4 (ua 9 3 (ua 17 4 (ua 22 4 (ua 30 12 ([.dead 9,.dead 36])))))),(15,(.undef 1)::ua 4 4 (ua 9 3 (ua 13 8 (ua 22 4 (ua 27 15 (ua 45 20 ([.dead 13,.dead 16,.dead 51,.dead 61]))))))),(19,(.undef 1)::ua 4 4 (ua 9 3 ((.undef 13)::ua 15 6 (ua 22 4 (ua 27 15 (ua 45 10 (ua 57 8 ([.dead 13,.dead 16,.dead 61]))))))))] [] [] [] []
def Zib (Q:QD):Post:=blockK 0 (seqJ Zo (fnAt [1,1,1,1] Tryz.f22) (endK Zo Tryz.f22 Q))
def Zdz (Q:QD):Post:=blockK 2 (seqJ Zo (fnAt [1,1,1,1,1] Tryz.f22) (endK Zo Tryz.f22 Q))
def Zi0 (Q:QD) (m1:Nat):Post:=blockK 4 (blockK 3 (seqJ Zo (fnAt [1,1,1,1,0,1,0,0,1,1,1] Tryz.f22) (loopK (adj (Zo.adj 15)) (iter (adj (Zo.adj 15)) (evCode Zo (fnAt [1,1,1,1,0,1,0,0] Tryz.f22)) (Zdz Q) m1) (Zdz Q))))
@[irreducible] def Zba (Q:QD) (m1 m2:Nat) (x0:LL) (x14:V) (x42:LL) (x43 x44:Int) (x55:V) (x56:Int):Prop :=
 iter (adj (Zo.adj 19)) (evCode Zo (fnAt [1,1,1,1,0,1,0,0,1,1,0,0,1,1,1,0,0] Tryz.f22)) (Zi0 Q m1) m2 ⟨(.v (.sl Zg) (V.l x0))::.undef::sk 2 (un 4 (.skip::un 3 (.skip::.undef::(.v (.sl Zk) (x14))::un 6 (.skip::un 4 (.skip::un 15 ((.v (.sl ZY) (V.l x42))::(.v (.int .i64) (V.i x43))::(.v (.int .i64) (V.i x44))::un 10 ((.v (.int .i64) (x55))::(.v (.int .i64) (V.i x56))::un 8 ([])))))))),dd 65 ([])⟩ []
@[irreducible] def Zaj (Q:QD) (m1:Nat) (x0 x42:LL) (x43 x44:Int):Prop :=
 iter (adj (Zo.adj 15)) (evCode Zo (fnAt [1,1,1,1,0,1,0,0] Tryz.f22)) (Zdz Q) m1 ⟨(.v (.sl Zg) (V.l x0))::.undef::sk 2 (un 4 (.skip::un 3 (.skip::un 8 (.skip::un 4 (.skip::un 15 ((.v (.sl ZY) (V.l x42))::(.v (.int .i64) (V.i x43))::(.v (.int .i64) (V.i x44))::un 20 ([]))))))),dd 65 ([])⟩ []
@[irreducible] def Zbb (Q:QD) (m0:Nat) (x0 x1 x27:LL) (x28 x29:Int):Prop :=
 iter (adj (Zo.adj 8)) (evCode Zo (fnAt [1,1,1,0,1,0,0] Tryz.f22)) (Zib Q) m0 ⟨(.v (.sl Zg) (V.l x0))::(.v (.sl ZY) (V.l x1))::sk 2 (un 4 (.skip::un 3 (sk 5 (un 4 (.skip::un 4 (.skip::(.v (.sl ZY) (V.l x27))::(.v (.int .i64) (V.i x28))::(.v (.int .i64) (V.i x29))::un 12 (sk 23 ([])))))))),dd 65 ([])⟩ []
def ZdI (Q:QD) (m1 m2:Nat) (x0:LL) (x14:V) (x42:LL) (x43 x44:Int) (x55:V) (x56:Int):Prop :=
 iff (decide (x56<x55.int)) (cl Za6 [.v (.sl Zk) (x14),.fn ZR [.ptr (.own 0) 0]] [.cells [.v (.int .i64) (V.i x56)]] fun r1 H2=>r1=(.v .bool (r1.V))∧H2=[.cells [.v (.int .i64) ((((H2.headD .dead).cs).headD .undef).V)]]∧iff (!r1.V.bool) ((True∧True∧True)∧Q (.tup [.v .bool (V.b false),.v (.int .i64) (V.i 0)]) []) (Zba Q m1 m2 x0 x14 x42 x43 x44 x55 (IntKind.i64.wrap (x56+(1:Int))))) (Zaj Q m1 x0 x42 x43 (IntKind.i64.wrap (x44+(1:Int))))
theorem Zhc (Q:QD) (m1 m2:Nat) (x0:LL) (x14:V) (x42:LL) (x43 x44:Int) (x55:V) (x56:Int):Zba Q m1 (m2+1) x0 x14 x42 x43 x44 x55 x56=ZdI Q m1 m2 x0 x14 x42 x43 x44 x55 x56:=by kernel_rfl
theorem ZgW (Q:QD) (m1:Nat):RuleG7 (Zba Q m1) (ZdI Q m1):=ruleG7 _ _ (Zhc Q m1)
def Ziq (Q:QD) (m1:Nat) (x0 x42:LL) (x43 x44:Int):Prop :=
 iff (decide (x44<x43)) (0≤x44∧x44<x42.length∧cl Zu [.v (.sl Zg) (V.l x0),.agg [.v .str (((x42.getD x44.toNat []).drop 0).headD V.none),.v (.int .i64) ((((x42.getD x44.toNat []).drop 0).tail).headD V.none)]] [] fun r1 H2=>r1=(.tup [.v (.sl Zk) ((r1.parts.headD .undef).V),.v .bool ((r1.parts.tail.headD .undef).V)])∧H2=[]∧∃ m2,Zba Q m1 m2 x0 ((r1.parts.headD .undef).V) x42 x43 x44 ((((x42.getD x44.toNat []).drop 0).tail).headD V.none) 0) ((True∧True∧True)∧Q (.tup [.v .bool (V.b true),.v (.int .i64) (V.i 0)]) [])
theorem Zhp (Q:QD) (m1:Nat) (x0 x42:LL) (x43 x44:Int):Zaj Q (m1+1) x0 x42 x43 x44=Ziq Q m1 x0 x42 x43 x44:=by kernel_rfl
theorem ZgK (Q:QD) (x0 x42:LL) (n:Nat) (hb:n≤big) (J:Nat→Prop)
  (step:∀ (k:Nat),k<n→J k→∀ m1:Nat,(J (k+1)→Zaj Q m1 x0 x42 (n:Int) (IntKind.i64.wrap ((k:Int)+(1:Int))))→(0≤(k:Int)∧(k:Int)<x42.length∧cl Zu [.v (.sl Zg) (V.l x0),.agg [.v .str (((x42.getD k []).drop 0).headD V.none),.v (.int .i64) ((((x42.getD k []).drop 0).tail).headD V.none)]] [] fun r1 H2=>r1=(.tup [.v (.sl Zk) ((r1.parts.headD .undef).V),.v .bool ((r1.parts.tail.headD .undef).V)])∧H2=[]∧∃ m2,Zba Q m1 m2 x0 ((r1.parts.headD .undef).V) x42 (n:Int) (k:Int) ((((x42.getD k []).drop 0).tail).headD V.none) 0))
  (last:J n→((True∧True∧True)∧Q (.tup [.v .bool (V.b true),.v (.int .i64) (V.i 0)]) []))
  (k:Nat) (le0:k≤n) (hj:J k):∃ m1,Zaj Q m1 x0 x42 (n:Int) ((k:Int)):=by
 exact rangeG0 n hb J (fun m1 i=>Zaj Q m1 x0 x42 (n:Int) i) (fun m1 i=>Zhp Q m1 x0 x42 (n:Int) i) (fun k hl_ hj_ m_ ih_=>step k hl_ hj_ m_ ih_) last k le0 hj
def ZiZ (Q:QD) (m0:Nat) (x0 x1 x27:LL) (x28 x29:Int):Prop :=
 iff (decide (x29<x28)) (0≤x29∧x29<x27.length∧cl Zu [.v (.sl Zg) (V.l x0),.agg [.v .str (((x27.getD x29.toNat []).drop 0).headD V.none),.v (.int .i64) ((((x27.getD x29.toNat []).drop 0).tail).headD V.none)]] [] fun r1 H2=>r1=(.tup [.v (.sl Zk) ((r1.parts.headD .undef).V),.v .bool ((r1.parts.tail.headD .undef).V)])∧H2=[]∧iff (!(((r1.parts.tail.headD .undef).V).bool)) ((True∧True∧True)∧Q (.tup [.v .bool (V.b false),.v (.int .i64) (V.i 10)]) []) (Zbb Q m0 x0 x1 x27 x28 (IntKind.i64.wrap (x29+(1:Int))))) ((x1.length≤big→∃ m1,Zaj Q m1 x0 x1 ((x1.length:Int)) 0))
theorem Zhf (Q:QD) (m0:Nat) (x0 x1 x27:LL) (x28 x29:Int):Zbb Q (m0+1) x0 x1 x27 x28 x29=ZiZ Q m0 x0 x1 x27 x28 x29:=by kernel_rfl
theorem Zgx (Q:QD) (x0 x1 x27:LL) (n:Nat) (hb:n≤big) (J:Nat→Prop)
  (step:∀ (k:Nat),k<n→J k→∀ K:Prop,(J (k+1)→K)→(0≤(k:Int)∧(k:Int)<x27.length∧cl Zu [.v (.sl Zg) (V.l x0),.agg [.v .str (((x27.getD k []).drop 0).headD V.none),.v (.int .i64) ((((x27.getD k []).drop 0).tail).headD V.none)]] [] fun r1 H2=>r1=(.tup [.v (.sl Zk) ((r1.parts.headD .undef).V),.v .bool ((r1.parts.tail.headD .undef).V)])∧H2=[]∧iff (!(((r1.parts.tail.headD .undef).V).bool)) ((True∧True∧True)∧Q (.tup [.v .bool (V.b false),.v (.int .i64) (V.i 10)]) []) (K)))
  (last:J n→((x1.length≤big→∃ m1,Zaj Q m1 x0 x1 ((x1.length:Int)) 0)))
  (k:Nat) (le0:k≤n) (hj:J k):∃ m0,Zbb Q m0 x0 x1 x27 (n:Int) ((k:Int)):=by
 exact rangeG0 n hb J (fun m0 i=>Zbb Q m0 x0 x1 x27 (n:Int) i) (fun m0 i=>Zhf Q m0 x0 x1 x27 (n:Int) i) (fun k hl_ hj_ m_ ih_=>step k hl_ hj_ _ ih_) last k le0 hj
def ZfV (a0 a1:LL) (Q:QD):Prop :=
 cl Zcl [.v (.sl Zg) (V.l a0)] [] fun r1 H2=>r1=(.v (.int .i64) (r1.V))∧H2=[]∧iff (r1.V.int != (0:Int)) ((True∧True∧True)∧Q (.tup [.v .bool (V.b false),.v (.int .i64) (r1.V)]) []) (cl Zfk [.v (.sl ZY) (V.l a1)] [] fun r3 H4=>r3=(.v (.int .i64) (r3.V))∧H4=[]∧iff (r3.V.int != (0:Int)) ((True∧True∧True)∧Q (.tup [.v .bool (V.b false),.v (.int .i64) (r3.V)]) []) ((a1.length≤big→∃ m0,Zbb Q m0 a0 a1 a1 ((a1.length:Int)) 0)))
theorem Zku (a0 a1:LL) (Q:QD) (h:ZfV a0 a1 Q):cl ZdN [.v (.sl Zg) (V.l a0),.v (.sl ZY) (V.l a1)] [] Q :=
 acalls2 (E:=Zo) (envOk _ _ _ _ _) 0 Tryz.func22 (by kernel_rfl) h
def Zdh:Env:=envA [(5,(.undef 0)::ua 2 2 (ua 5 6 (ua 15 10 ([.dead 5,.dead 20]))))] [] [] [] []
def ZkQ (Q:QD):Post:=blockK 0 (seqJ Zdh (fnAt [1,1,1] Tryz.f23) (endK Zdh Tryz.f23 Q))
@[irreducible] def Zcn (Q:QD) (m0:Nat) (x12:LL) (x13 x14:Int):Prop :=
 iter (adj (Zdh.adj 5)) (evCode Zdh (fnAt [1,1,0,1,0,0] Tryz.f23)) (ZkQ Q) m0 ⟨.undef::.skip::un 2 (.skip::un 6 (.skip::(.v (.sl Zg) (V.l x12))::(.v (.int .i64) (V.i x13))::(.v (.int .i64) (V.i x14))::un 10 ([]))),dd 25 ([])⟩ []
def ZkO (Q:QD) (m0:Nat) (x12:LL) (x13 x14:Int):Prop :=
 iff (decide (x14<x13)) (0≤x14∧x14<x12.length∧cl ZdY [.v (.sl Zk) ((((x12.getD x14.toNat []).drop 0).tail).headD V.none)] [] fun r1 H2=>r1=(.v (.int .i64) (r1.V))∧H2=[]∧iff (r1.V.int != (0:Int)) (True∧Q (.v (.int .i64) (r1.V)) []) (Zcn Q m0 x12 x13 (IntKind.i64.wrap (x14+(1:Int))))) (True∧Q (.v (.int .i64) (V.i 0)) [])
theorem Zjs (Q:QD) (m0:Nat) (x12:LL) (x13 x14:Int):Zcn Q (m0+1) x12 x13 x14=ZkO Q m0 x12 x13 x14:=by kernel_rfl
theorem Ziy (Q:QD) (x12:LL) (n:Nat) (hb:n≤big) (J:Nat→Prop)
  (step:∀ (k:Nat),k<n→J k→∀ K:Prop,(J (k+1)→K)→(0≤(k:Int)∧(k:Int)<x12.length∧cl ZdY [.v (.sl Zk) ((((x12.getD k []).drop 0).tail).headD V.none)] [] fun r1 H2=>r1=(.v (.int .i64) (r1.V))∧H2=[]∧iff (r1.V.int != (0:Int)) (True∧Q (.v (.int .i64) (r1.V)) []) (K)))
  (last:J n→(True∧Q (.v (.int .i64) (V.i 0)) []))
  (k:Nat) (le0:k≤n) (hj:J k):∃ m0,Zcn Q m0 x12 (n:Int) ((k:Int)):=by
 exact rangeG0 n hb J (fun m0 i=>Zcn Q m0 x12 (n:Int) i) (fun m0 i=>Zjs Q m0 x12 (n:Int) i) (fun k hl_ hj_ m_ ih_=>step k hl_ hj_ _ ih_) last k le0 hj
def Zio (a0:LL) (Q:QD):Prop :=
 cl Zd5 [.v (.sl Zg) (V.l a0),.fn Z5 []] [] fun r1 H2=>r1=(.v (.int .i64) (r1.V))∧H2=[]∧iff (r1.V.int != (0:Int)) (True∧Q (.v (.int .i64) (r1.V)) []) ((a0.length≤big→∃ m0,Zcn Q m0 a0 ((a0.length:Int)) 0))
theorem Zl3 (a0:LL) (Q:QD) (h:Zio a0 Q):cl Zcl [.v (.sl Zg) (V.l a0)] [] Q :=
 acalls2 (E:=Zdh) (envOk _ _ _ _ _) 0 Tryz.func23 (by kernel_rfl) h
end Go.Proofs.YthhnadeoioeniaaGreat
set_option maxRecDepth 100000
namespace Go.Proofs.YthhnadeoioeniaaGreat
open Go.Abs
def ZbP:Env:=envA [(9,(.undef 1)::ua 4 4 (ua 10 7 (ua 18 4 (ua 26 20 ((.dead 10)::(.dead 35)::da 43 2 ([.ownT 8 47 ZT]))))))] [] [] [] []
def Zi8 (Q:QD):Post:=blockK 0 (seqJ ZbP (fnAt [1,1,1,1,1] Tryz.f28) (endK ZbP Tryz.f28 Q))
@[irreducible] def Zbp (Q:QD) (m0:Nat) (x0:LL) (x8n:Nat) (x23:LL) (x24 x25:Int) (y47:LL):Prop :=
 iter (adj (ZbP.adj 9)) (evCode ZbP (fnAt [1,1,1,1,0,1,0,0] Tryz.f28)) (Zi8 Q) m0 ⟨(.v (.sl Zg) (V.l x0))::.undef::sk 2 (un 4 ((.osl (.loc 47) x8n)::.skip::un 7 (.skip::un 4 (.skip::(.v (.sl Zap) (V.l x23))::(.v (.int .i64) (V.i x24))::(.v (.int .i64) (V.i x25))::un 20 ([.skip]))))),dd 47 ([.row ZT y47])⟩ []
def ZjE (Q:QD) (m0:Nat) (x0:LL) (x8n:Nat) (x23:LL) (x24 x25:Int) (y47:LL):Prop :=
 iff (decide (x25<x24)) (0≤x25∧x25<x23.length∧cl ZC [.v (.sl Zg) (V.l x0),.agg [.v .str (((x23.getD x25.toNat []).drop 0).headD V.none),.v .bool ((((x23.getD x25.toNat []).drop 0).tail).headD V.none),.v (.sl Za) (((((x23.getD x25.toNat []).drop 0).tail).tail).headD V.none)],.agg [.v .str ((((((x23.getD x25.toNat []).drop 0).tail).tail).tail).headD V.none),.v .bool (((((((x23.getD x25.toNat []).drop 0).tail).tail).tail).tail).headD V.none),.v (.sl Za) ((((((((x23.getD x25.toNat []).drop 0).tail).tail).tail).tail).tail).headD V.none)]] [] fun r1 H2=>r1=(.tup [.v (.int .i64) ((r1.parts.headD .undef).V),.v (.int .i64) ((r1.parts.tail.headD .undef).V)])∧H2=[]∧iff ((((r1.parts.tail.headD .undef).V).int) != (0:Int)) ((True∧True∧True)∧Q (.tup [.nil,.v (.int .i64) ((r1.parts.tail.headD .undef).V)]) []) (y47.length=x8n∧x8n+([[(r1.parts.headD .undef).V]]).length≤lim∧Zbp Q m0 x0 (x8n+([[(r1.parts.headD .undef).V]]).length) x23 x24 (IntKind.i64.wrap (x25+(1:Int))) (y47++([[(r1.parts.headD .undef).V]])))) (((x8n=y47.length)∧True∧True)∧Q (.tup [.v (.sl ZT) (V.l y47),.v (.int .i64) (V.i 0)]) [])
theorem ZhU (Q:QD) (m0:Nat) (x0:LL) (x8n:Nat) (x23:LL) (x24 x25:Int) (y47:LL):Zbp Q (m0+1) x0 x8n x23 x24 x25 y47=ZjE Q m0 x0 x8n x23 x24 x25 y47:=by kernel_rfl
theorem Zhm (Q:QD) (x0 x23:LL) (n:Nat) (hb:n≤big) (J:Nat→Nat→LL→Prop)
  (step:∀ (k:Nat) (x8n:Nat) (y47:LL),k<n→J k x8n y47→∀ K:Nat→LL→Prop,(∀ (x8n':Nat) (y47':LL),J (k+1) x8n' y47'→K x8n' y47')→(0≤(k:Int)∧(k:Int)<x23.length∧cl ZC [.v (.sl Zg) (V.l x0),.agg [.v .str (((x23.getD k []).drop 0).headD V.none),.v .bool ((((x23.getD k []).drop 0).tail).headD V.none),.v (.sl Za) (((((x23.getD k []).drop 0).tail).tail).headD V.none)],.agg [.v .str ((((((x23.getD k []).drop 0).tail).tail).tail).headD V.none),.v .bool (((((((x23.getD k []).drop 0).tail).tail).tail).tail).headD V.none),.v (.sl Za) ((((((((x23.getD k []).drop 0).tail).tail).tail).tail).tail).headD V.none)]] [] fun r1 H2=>r1=(.tup [.v (.int .i64) ((r1.parts.headD .undef).V),.v (.int .i64) ((r1.parts.tail.headD .undef).V)])∧H2=[]∧iff ((((r1.parts.tail.headD .undef).V).int) != (0:Int)) ((True∧True∧True)∧Q (.tup [.nil,.v (.int .i64) ((r1.parts.tail.headD .undef).V)]) []) (y47.length=x8n∧x8n+([[(r1.parts.headD .undef).V]]).length≤lim∧K (x8n+([[(r1.parts.headD .undef).V]]).length) (y47++([[(r1.parts.headD .undef).V]])))))
  (last:∀ (x8n:Nat) (y47:LL),J n x8n y47→(((x8n=y47.length)∧True∧True)∧Q (.tup [.v (.sl ZT) (V.l y47),.v (.int .i64) (V.i 0)]) []))
  (k:Nat) (x8n:Nat) (y47:LL) (le0:k≤n) (hj:J k x8n y47):∃ m0,Zbp Q m0 x0 x8n x23 (n:Int) ((k:Int)) y47:=by
 exact rangeG2 n hb J (fun m0 i x8n y47=>Zbp Q m0 x0 x8n x23 (n:Int) i y47) (fun m0 i x8n y47=>ZhU Q m0 x0 x8n x23 (n:Int) i y47) (fun k x8n y47 hl_ hj_ m_ ih_=>step k x8n y47 hl_ hj_ _ ih_) last k x8n y47 le0 hj
def Zgy (a0 a1:LL) (Q:QD):Prop :=
 cl Zcl [.v (.sl Zg) (V.l a0)] [] fun r1 H2=>r1=(.v (.int .i64) (r1.V))∧H2=[]∧iff (r1.V.int != (0:Int)) ((True∧True∧True)∧Q (.tup [.nil,.v (.int .i64) (r1.V)]) []) (cl ZdV [.v (.sl Zap) (V.l a1)] [] fun r3 H4=>r3=(.v (.int .i64) (r3.V))∧H4=[]∧iff (r3.V.int != (0:Int)) ((True∧True∧True)∧Q (.tup [.nil,.v (.int .i64) (r3.V)]) []) ((a1.length≤big→∃ m0,Zbp Q m0 a0 0 a1 ((a1.length:Int)) 0 (([]:List (List V))))))
theorem Zly (a0 a1:LL) (Q:QD) (h:Zgy a0 a1 Q):cl Zfi [.v (.sl Zg) (V.l a0),.v (.sl Zap) (V.l a1)] [] Q :=
 acalls2 (E:=ZbP) (envOk _ _ _ _ _) 1 Tryz.func28 (by kernel_rfl) h
def ZdG:Env:=envA [(8,(.undef 1)::ua 3 4 (ua 9 12 (ua 22 4 (ua 29 23 ((.dead 3)::da 9 2 ((.dead 36)::(.dead 41)::da 49 2 ([])))))))] [(10,14,[],[])] [24] [] []
def ZkW (Q:QD):Post:=blockK 0 (seqJ ZdG (fnAt [1,1,1,1,1] Tryz.f32) (endK ZdG Tryz.f32 Q))
@[irreducible] def Zc7 (Q:QD) (m0:Nat) (x0:LL) (x7n:Nat) (x26:LL) (x27 x28:Int) (y24:LL):Prop :=
 iter (adj (ZdG.adj 8)) (evCode ZdG (fnAt [1,1,1,1,0,1,0,0] Tryz.f32)) (ZkW Q) m0 ⟨(.v (.sl Zap) (V.l x0))::.undef::.skip::un 4 ((.osl (.loc 24) x7n)::.skip::un 12 (.skip::un 4 ((.v (.sl Zfc) (V.l x26))::(.v (.int .i64) (V.i x27))::(.v (.int .i64) (V.i x28))::un 23 ([.skip])))),dd 24 ((.row Za y24)::dd 28 ([]))⟩ []
def Zlb (Q:QD) (m0:Nat) (x0:LL) (x7n:Nat) (x26:LL) (x27 x28:Int) (y24:LL):Prop :=
 iff (decide (x28<x27)) (0≤x28∧x28<x26.length∧y24.length=x7n∧y24.length=x7n∧0≤(IntKind.i64.wrap ((((x7n:Nat):Int)) - (1:Int)))∧(IntKind.i64.wrap ((((x7n:Nat):Int)) - (1:Int)))<x7n∧y24.length=x7n∧((IntKind.i64.wrap ((((x7n:Nat):Int)) - (1:Int)))).toNat<x7n∧(∃ r1:D,cl ZgV [.v (.sl Zap) (V.l x0),.agg [.v .str (((y24.getD (((IntKind.i64.wrap ((((x7n:Nat):Int)) - (1:Int)))).toNat) []).drop 0).headD V.none),.v .bool ((((y24.getD (((IntKind.i64.wrap ((((x7n:Nat):Int)) - (1:Int)))).toNat) []).drop 0).tail).headD V.none),.v (.sl Za) (((((y24.getD (((IntKind.i64.wrap ((((x7n:Nat):Int)) - (1:Int)))).toNat) []).drop 0).tail).tail).headD V.none)],.agg [.v (.int .i64) (((x26.getD x28.toNat []).drop 0).headD V.none),.v (.sl ZT) ((((x26.getD x28.toNat []).drop 0).tail).headD V.none)]] [] (fun r H'=>r=(.tup [.agg [.v .str ((((r1.parts.headD .undef).cells).headD .undef).V),.v .bool (((((r1.parts.headD .undef).cells).tail).headD .undef).V),.v (.sl Za) ((((((r1.parts.headD .undef).cells).tail).tail).headD .undef).V)],.v (.int .i64) ((r1.parts.tail.headD .undef).V)])∧H'=[])∧iff ((((r1.parts.tail.headD .undef).V).int) != (0:Int)) ((True∧True∧True)∧Q (.tup [.nil,.v (.int .i64) ((r1.parts.tail.headD .undef).V)]) []) (y24.length=x7n∧x7n+([[(((r1.parts.headD .undef).cells).headD .undef).V,((((r1.parts.headD .undef).cells).tail).headD .undef).V,(((((r1.parts.headD .undef).cells).tail).tail).headD .undef).V]]).length≤lim∧Zc7 Q m0 x0 (x7n+([[(((r1.parts.headD .undef).cells).headD .undef).V,((((r1.parts.headD .undef).cells).tail).headD .undef).V,(((((r1.parts.headD .undef).cells).tail).tail).headD .undef).V]]).length) x26 x27 (IntKind.i64.wrap (x28+(1:Int))) (y24++([[(((r1.parts.headD .undef).cells).headD .undef).V,((((r1.parts.headD .undef).cells).tail).headD .undef).V,(((((r1.parts.headD .undef).cells).tail).tail).headD .undef).V]]))))) (((x7n=y24.length)∧True∧True)∧Q (.tup [.v (.sl Za) (V.l y24),.v (.int .i64) (V.i 0)]) [])
theorem Zkg (Q:QD) (m0:Nat) (x0:LL) (x7n:Nat) (x26:LL) (x27 x28:Int) (y24:LL):Zc7 Q (m0+1) x0 x7n x26 x27 x28 y24=Zlb Q m0 x0 x7n x26 x27 x28 y24:=by kernel_rfl
theorem Zjh (Q:QD) (x0 x26:LL) (n:Nat) (hb:n≤big) (J:Nat→Nat→LL→Prop)
  (step:∀ (k:Nat) (x7n:Nat) (y24:LL),k<n→J k x7n y24→∀ K:Nat→LL→Prop,(∀ (x7n':Nat) (y24':LL),J (k+1) x7n' y24'→K x7n' y24')→(0≤(k:Int)∧(k:Int)<x26.length∧y24.length=x7n∧y24.length=x7n∧0≤(IntKind.i64.wrap ((((x7n:Nat):Int)) - (1:Int)))∧(IntKind.i64.wrap ((((x7n:Nat):Int)) - (1:Int)))<x7n∧y24.length=x7n∧((IntKind.i64.wrap ((((x7n:Nat):Int)) - (1:Int)))).toNat<x7n∧(∃ r1:D,cl ZgV [.v (.sl Zap) (V.l x0),.agg [.v .str (((y24.getD (((IntKind.i64.wrap ((((x7n:Nat):Int)) - (1:Int)))).toNat) []).drop 0).headD V.none),.v .bool ((((y24.getD (((IntKind.i64.wrap ((((x7n:Nat):Int)) - (1:Int)))).toNat) []).drop 0).tail).headD V.none),.v (.sl Za) (((((y24.getD (((IntKind.i64.wrap ((((x7n:Nat):Int)) - (1:Int)))).toNat) []).drop 0).tail).tail).headD V.none)],.agg [.v (.int .i64) (((x26.getD k []).drop 0).headD V.none),.v (.sl ZT) ((((x26.getD k []).drop 0).tail).headD V.none)]] [] (fun r H'=>r=(.tup [.agg [.v .str ((((r1.parts.headD .undef).cells).headD .undef).V),.v .bool (((((r1.parts.headD .undef).cells).tail).headD .undef).V),.v (.sl Za) ((((((r1.parts.headD .undef).cells).tail).tail).headD .undef).V)],.v (.int .i64) ((r1.parts.tail.headD .undef).V)])∧H'=[])∧iff ((((r1.parts.tail.headD .undef).V).int) != (0:Int)) ((True∧True∧True)∧Q (.tup [.nil,.v (.int .i64) ((r1.parts.tail.headD .undef).V)]) []) (y24.length=x7n∧x7n+([[(((r1.parts.headD .undef).cells).headD .undef).V,((((r1.parts.headD .undef).cells).tail).headD .undef).V,(((((r1.parts.headD .undef).cells).tail).tail).headD .undef).V]]).length≤lim∧K (x7n+([[(((r1.parts.headD .undef).cells).headD .undef).V,((((r1.parts.headD .undef).cells).tail).headD .undef).V,(((((r1.parts.headD .undef).cells).tail).tail).headD .undef).V]]).length) (y24++([[(((r1.parts.headD .undef).cells).headD .undef).V,((((r1.parts.headD .undef).cells).tail).headD .undef).V,(((((r1.parts.headD .undef).cells).tail).tail).headD .undef).V]]))))))
  (last:∀ (x7n:Nat) (y24:LL),J n x7n y24→(((x7n=y24.length)∧True∧True)∧Q (.tup [.v (.sl Za) (V.l y24),.v (.int .i64) (V.i 0)]) []))
  (k:Nat) (x7n:Nat) (y24:LL) (le0:k≤n) (hj:J k x7n y24):∃ m0,Zc7 Q m0 x0 x7n x26 (n:Int) ((k:Int)) y24:=by
 exact rangeG2 n hb J (fun m0 i x7n y24=>Zc7 Q m0 x0 x7n x26 (n:Int) i y24) (fun m0 i x7n y24=>Zkg Q m0 x0 x7n x26 (n:Int) i y24) (fun k x7n y24 hl_ hj_ m_ ih_=>step k x7n y24 hl_ hj_ _ ih_) last k x7n y24 le0 hj
def Zme (a0:LL) (a1_0:ByteArray) (a1_1:Bool) (a1_2 a1_3:LL) (Q:QD):Prop :=
 (a1_3.length≤big→iff (decide (((a1_3.length:Int)) > (4096:Int))) ((True∧True∧True)∧Q (.tup [.nil,.v (.int .i64) (V.i 3)]) []) (cl ZhF [.agg [.v .str (V.s a1_0),.v .bool (V.b a1_1),.v (.sl Za) (V.l a1_2)]] [] fun r1 H2=>r1=(.v (.int .i64) (r1.V))∧H2=[]∧iff (r1.V.int != (0:Int)) ((True∧True∧True)∧Q (.tup [.nil,.v (.int .i64) (r1.V)]) []) ((a1_3.length≤big→∃ m0,Zc7 Q m0 a0 1 a1_3 ((a1_3.length:Int)) 0 ([[V.s a1_0,V.b a1_1,V.l a1_2]])))))
theorem Zmz (a0:LL) (a1_0:ByteArray) (a1_1:Bool) (a1_2 a1_3:LL) (Q:QD) (h:Zme a0 a1_0 a1_1 a1_2 a1_3 Q):cl ZhJ [.v (.sl Zap) (V.l a0),.agg [.v .str (V.s a1_0),.v .bool (V.b a1_1),.v (.sl Za) (V.l a1_2),.v (.sl Zfc) (V.l a1_3)]] [] Q :=
 acalls2 (E:=ZdG) (envOk _ _ _ _ _) 0 Tryz.func32 (by kernel_rfl) h
def ZcF:Env:={ envA [(3,(.undef 0)::(.undef 2)::(.undef 5)::ua 9 21 ((.dead 5)::da 15 2 ((.dead 25)::da 27 2 ([.ownT 3 31 ZY]))))] [] [] [] [] with keep:=true }
def ZkX (Q:QD):Post:=blockK 0 (seqJ ZcF (fnAt [1,1,1] Tryz.f33) (endK ZcF Tryz.f33 Q))
@[irreducible] def ZbS (Q:QD) (m0:Nat) (x3n:Nat) (x6:LL) (x7 x8:Int) (y31:LL):Prop :=
 iter (adj (ZcF.adj 3)) (evCode ZcF (fnAt [1,1,0,1,0,0] Tryz.f33)) (ZkX Q) m0 ⟨.undef::.skip::.undef::(.osl (.loc 31) x3n)::.skip::.undef::(.v (.sl Za) (V.l x6))::(.v (.int .i64) (V.i x7))::(.v (.int .i64) (V.i x8))::un 21 ([.skip]),dd 31 ([.row ZY y31])⟩ []
def Zk1 (Q:QD) (m0:Nat) (x3n:Nat) (x6:LL) (x7 x8:Int) (y31:LL):Prop :=
 iff (decide (x8<x7)) (0≤x8∧x8<x6.length∧∃ x1:LL,frA Zdk [.v (.sl Za) (((((x6.getD x8.toNat []).drop 0).tail).tail).headD V.none)] x1∧y31.length=x3n∧x1.length=x1.length∧x3n+x1.length≤lim∧iff (!(((((x6.getD x8.toNat []).drop 0).tail).headD V.none).bool)) ((((((((x6.getD x8.toNat []).drop 0).tail).tail).headD V.none).list).length≤big→(y31++x1).length=x3n+x1.length∧x3n+x1.length+([[((x6.getD x8.toNat []).drop 0).headD V.none,V.i ((((((((x6.getD x8.toNat []).drop 0).tail).tail).headD V.none).list).length:Int))]]).length≤lim∧ZbS Q m0 (x3n+x1.length+([[((x6.getD x8.toNat []).drop 0).headD V.none,V.i ((((((((x6.getD x8.toNat []).drop 0).tail).tail).headD V.none).list).length:Int))]]).length) x6 x7 (IntKind.i64.wrap (x8+(1:Int))) ((y31++x1)++([[((x6.getD x8.toNat []).drop 0).headD V.none,V.i ((((((((x6.getD x8.toNat []).drop 0).tail).tail).headD V.none).list).length:Int))]])))) (ZbS Q m0 (x3n+x1.length) x6 x7 (IntKind.i64.wrap (x8+(1:Int))) (y31++x1))) ((x3n=y31.length)∧Q (.v (.sl ZY) (V.l y31)) [])
theorem ZjY (Q:QD) (m0:Nat) (x3n:Nat) (x6:LL) (x7 x8:Int) (y31:LL):ZbS Q (m0+1) x3n x6 x7 x8 y31=Zk1 Q m0 x3n x6 x7 x8 y31:=by kernel_rfl
theorem Zjw (Q:QD) (x6:LL) (n:Nat) (hb:n≤big) (J:Nat→Nat→LL→Prop)
  (step:∀ (k:Nat) (x3n:Nat) (y31:LL),k<n→J k x3n y31→∀ K:Nat→LL→Prop,(∀ (x3n':Nat) (y31':LL),J (k+1) x3n' y31'→K x3n' y31')→(0≤(k:Int)∧(k:Int)<x6.length∧∃ x1:LL,frA Zdk [.v (.sl Za) (((((x6.getD k []).drop 0).tail).tail).headD V.none)] x1∧y31.length=x3n∧x1.length=x1.length∧x3n+x1.length≤lim∧iff (!(((((x6.getD k []).drop 0).tail).headD V.none).bool)) ((((((((x6.getD k []).drop 0).tail).tail).headD V.none).list).length≤big→(y31++x1).length=x3n+x1.length∧x3n+x1.length+([[((x6.getD k []).drop 0).headD V.none,V.i ((((((((x6.getD k []).drop 0).tail).tail).headD V.none).list).length:Int))]]).length≤lim∧K (x3n+x1.length+([[((x6.getD k []).drop 0).headD V.none,V.i ((((((((x6.getD k []).drop 0).tail).tail).headD V.none).list).length:Int))]]).length) ((y31++x1)++([[((x6.getD k []).drop 0).headD V.none,V.i ((((((((x6.getD k []).drop 0).tail).tail).headD V.none).list).length:Int))]])))) (K (x3n+x1.length) (y31++x1))))
  (last:∀ (x3n:Nat) (y31:LL),J n x3n y31→((x3n=y31.length)∧Q (.v (.sl ZY) (V.l y31)) []))
  (k:Nat) (x3n:Nat) (y31:LL) (le0:k≤n) (hj:J k x3n y31):∃ m0,ZbS Q m0 x3n x6 (n:Int) ((k:Int)) y31:=by
 exact rangeG2 n hb J (fun m0 i x3n y31=>ZbS Q m0 x3n x6 (n:Int) i y31) (fun m0 i x3n y31=>ZjY Q m0 x3n x6 (n:Int) i y31) (fun k x3n y31 hl_ hj_ m_ ih_=>step k x3n y31 hl_ hj_ _ ih_) last k x3n y31 le0 hj
def Zmm (a0:LL) (Q:QD):Prop :=
 (a0.length≤big→∃ m0,ZbS Q m0 0 a0 ((a0.length:Int)) 0 (([]:List (List V))))
theorem F_r07_Of_fr (a0:LL) (xs:LL) (h:Zmm a0 (fun d _=>d=.v (.sl ZY) (.l xs))):frA Zdk [.v (.sl Za) (V.l a0)] xs:=by
 show AFresh Tryz.prog (lfs tab) Zdk [.v (.sl Za) (V.l a0)] ZY xs
 exact afresh2 (E:=ZcF) (show EnvOk _ ZcF from (envOk _ _ _ _ _).kept) 1 (by kernel_rfl) (by kernel_rfl) rfl Tryz.func33 (by kernel_rfl) h
def ZkT:Env:=envA [] [] [] [] []
def Zix (a0_0:ByteArray) (a0_1:Bool) (a0_2:LL) (Q:QD):Prop :=
 cl ZbB [.agg [.v .str (V.s a0_0),.v .bool (V.b a0_1),.v (.sl Za) (V.l a0_2)]] [] fun r1 H2=>r1=(.v .bool (r1.V))∧H2=[]∧iff (!r1.V.bool) (True∧Q (.v (.int .i64) (V.i 4)) []) (cl ZhP [.agg [.v .str (V.s a0_0),.v .bool (V.b a0_1),.v (.sl Za) (V.l a0_2)]] [] fun r3 H4=>r3=(.v .bool (r3.V))∧H4=[]∧iff (!r3.V.bool) (True∧Q (.v (.int .i64) (V.i 3)) []) (True∧Q (.v (.int .i64) (V.i 0)) []))
theorem Zl8 (a0_0:ByteArray) (a0_1:Bool) (a0_2:LL) (Q:QD) (h:Zix a0_0 a0_1 a0_2 Q):cl ZI [.agg [.v .str (V.s a0_0),.v .bool (V.b a0_1),.v (.sl Za) (V.l a0_2)]] [] Q :=
 acalls2 (E:=ZkT) (envOk _ _ _ _ _) 0 Tryz.func34 (by kernel_rfl) h
def ZE:Env:=envA [(3,(.undef 0)::(.undef 5)::(.undef 7)::(.undef 10)::ua 14 5 (ua 21 6 ([.dead 5,.dead 7,.dead 18,.dead 40]))),(7,(.undef 0)::(.undef 5)::(.undef 7)::(.undef 10)::ua 14 4 (ua 21 6 ([.dead 5,.dead 40]))),(12,(.undef 0)::ua 2 2 ((.undef 5)::(.undef 7)::ua 9 10 (ua 21 7 (ua 29 8 ((.dead 3)::da 35 2 ([.ownT 8 40 Zb]))))))] [] [] [] []
def Zet (Q:QD):Post:=blockK 0 (seqJ ZE (fnAt [1,1,1] Tryz.f35) (endK ZE Tryz.f35 Q))
def Zj6 (Q:QD):Post:=blockK 4 (seqJ ZE (fnAt [1,1,1,1,1] Tryz.f35) (endK ZE Tryz.f35 Q))
@[irreducible] def ZaK (Q:QD) (m0:Nat) (zx11:LL) (zx12 zx13:Int) (zx18_0:List V) (zy10:LL) (q1:LL) (rows:LL):Prop :=
 rangeR (evCode ZE (fnAt [1,1,0,1,0,0,1,1,0,0,1,1,0,0] Tryz.f35)) (evCode ZE (fnAt [1,1,0,1,0,0,1,1,0,0,1,1,0,1] Tryz.f35)) [19,20] (rowA 130) [.cells [.mp (.own 1)],.map Zim zy10] (.undef::.skip::.nil::(.ptr (.own 0) 0)::.skip::.undef::.skip::.undef::sk 2 (.undef::(.v (.sl Za) (V.l zx11))::(.v (.int .i64) (V.i zx12))::(.v (.int .i64) (V.i zx13))::un 4 ((.fn ZG [.elt Za zx18_0 0])::sk 2 (un 6 (sk 13 ([])))))) (dd 41 []) (outR ZE [.loc 3,.loc 10] ⟨.undef::.skip::.nil::(.ptr (.loc 3) 0)::.skip::.undef::.skip::.undef::sk 2 (.undef::(.v (.sl Za) (V.l zx11))::(.v (.int .i64) (V.i zx12))::(.v (.int .i64) (V.i zx13))::un 4 ((.fn ZG [.elt Za zx18_0 0])::sk 2 (un 6 (sk 13 ([]))))),dd 3 ((.cells [.mp (.loc 10)])::dd 6 ((.map Zim zy10)::dd 30 ([])))⟩ [] (blockK 2 (blockK 1 (seqJ ZE (fnAt [1,1,0,1,0,0,1,1,1] Tryz.f35) (loopK (adj (ZE.adj 3)) (iter (adj (ZE.adj 3)) (evCode ZE (fnAt [1,1,0,1,0,0] Tryz.f35)) (Zet Q) m0) (Zet Q)))))) rows [.cells [.mp (.own 1)],.map Zim q1]
@[irreducible] def ZbN (Q:QD) (m2:Nat) (x8n:Nat) (y10:LL) (y28n:Nat) (y28s:List Nat) (y40:LL):Prop :=
 iter (adj (ZE.adj 12)) (evCode ZE (fnAt [1,1,1,1,0,1,0,0] Tryz.f35)) (Zj6 Q) m2 ⟨.undef::.skip::un 2 (.skip::.undef::.skip::.undef::(.osl (.loc 40) x8n)::un 10 (sk 2 (un 7 ((.ptr (.loc 28) 0)::un 8 (sk 3 ([])))))),dd 10 ((.map Zim y10)::dd 17 ((.iter Zim (.mp (.loc 10)) y28n y28s)::dd 11 ([.row Zb y40])))⟩ []
@[irreducible] def ZbM (Q:QD) (m0:Nat) (x11:LL) (x12 x13:Int) (y10:LL):Prop :=
 iter (adj (ZE.adj 3)) (evCode ZE (fnAt [1,1,0,1,0,0] Tryz.f35)) (Zet Q) m0 ⟨.undef::.skip::.nil::(.ptr (.loc 3) 0)::.skip::.undef::.skip::.undef::sk 2 (.undef::(.v (.sl Za) (V.l x11))::(.v (.int .i64) (V.i x12))::(.v (.int .i64) (V.i x13))::un 5 (sk 2 (un 6 (sk 13 ([]))))),dd 3 ((.cells [.mp (.loc 10)])::dd 6 ((.map Zim y10)::dd 30 ([])))⟩ []
theorem Zjn (Q:QD) (m0:Nat) (zx11:LL) (zx12 zx13:Int) (zx18_0:List V) (zy10:LL) (q1:LL):ZaK Q m0 zx11 zx12 zx13 zx18_0 zy10 q1 []=(ZbM Q m0 zx11 zx12 (IntKind.i64.wrap (zx13+(1:Int))) q1):=by kernel_rfl
theorem Zjv (Q:QD) (m0:Nat) (zx11:LL) (zx12 zx13:Int) (zx18_0:List V) (zy10:LL) (q1:LL) (r:List V) (rs:LL):ZaK Q m0 zx11 zx12 zx13 zx18_0 zy10 q1 (r::rs)=(iff ((r.tail.headD V.none).bool) (ZaK Q m0 zx11 zx12 zx13 zx18_0 zy10 (mset [.str] [r.headD V.none] [V.b true] q1) rs) (ZaK Q m0 zx11 zx12 zx13 zx18_0 zy10 q1 rs)):=by kernel_rfl
theorem ZiE (Q:QD) (m0:Nat) (zx11:LL) (zx12 zx13:Int) (zx18_0:List V) (zy10:LL) (J:LL→LL→Prop)
  (step:∀ (r:List V) (rs:LL) (q1:LL),J (r::rs) q1→∀ K:LL→Prop,(∀ (q1':LL),J rs q1'→K q1')→(iff ((r.tail.headD V.none).bool) (K (mset [.str] [r.headD V.none] [V.b true] q1)) (K q1)))
  (last:∀ (q1:LL),J [] q1→(ZbM Q m0 zx11 zx12 (IntKind.i64.wrap (zx13+(1:Int))) q1))
  : ∀ (rows:LL) (q1:LL),J rows q1→ZaK Q m0 zx11 zx12 zx13 zx18_0 zy10 q1 rows:=by
 intro rows
 induction rows with
 | nil=>intro q1 h; rw [Zjn]; exact last q1 h
 | cons r rs ih=>intro q1 h; rw [Zjv]; exact step r rs q1 h (fun q1=>ZaK Q m0 zx11 zx12 zx13 zx18_0 zy10 q1 rs) ih
def ZfY (Q:QD) (m2:Nat) (x8n:Nat) (y10:LL) (y28n:Nat) (y28s:List Nat) (y40:LL):Prop :=
 y10.length=y28n∧((∀ j:Nat,j<y28n→j∈y28s)→cl ZcX [.osl (.own 0) x8n] [.row Zb y40] fun r2 H3=>r2=(.tup [])∧H3=[.row Zb ((H3.headD .dead).xs)]∧(x8n=((H3.headD .dead).xs).length)∧Q (.v (.sl Zb) (V.l ((H3.headD .dead).xs))) [])∧(∀ j1:Nat,j1<y28n→j1 ∉ y28s→y28s.length<y28n→y10.length=y28n∧y40.length=x8n∧x8n+([[(y10.getD j1 []).headD V.none]]).length≤lim∧ZbN Q m2 (x8n+([[(y10.getD j1 []).headD V.none]]).length) y10 y28n (j1::y28s) (y40++([[(y10.getD j1 []).headD V.none]])))
theorem ZiD (Q:QD) (m2:Nat) (x8n:Nat) (y10:LL) (y28n:Nat) (y28s:List Nat) (y40:LL):ZbN Q (m2+1) x8n y10 y28n y28s y40=ZfY Q m2 x8n y10 y28n y28s y40:=by kernel_rfl
theorem ZiR (Q:QD):RuleG5 (ZbN Q) (ZfY Q):=ruleG5 _ _ (ZiD Q)
def Zev (Q:QD) (m0:Nat) (x11:LL) (x12 x13:Int) (y10:LL):Prop :=
 iff (decide (x13<x12)) (0≤x13∧x13<x11.length∧cl Zd7 [.agg [.v .str (((x11.getD x13.toNat []).drop 0).headD V.none),.v .bool ((((x11.getD x13.toNat []).drop 0).tail).headD V.none),.v (.sl Za) (((((x11.getD x13.toNat []).drop 0).tail).tail).headD V.none)]] [] fun r1 H2=>r1=(.fn ZG [.elt Za ((r1.capsOf.headD .undef).eltOf) 0])∧H2=[]∧∃ rows:LL,itA 130 [.elt Za ((r1.capsOf.headD .undef).eltOf) 0] rows∧ZaK Q m0 x11 x12 x13 ((r1.capsOf.headD .undef).eltOf) y10 y10 rows) (∃ m2,ZbN Q m2 0 y10 y10.length (([]:List Nat)) (([]:List (List V))))
theorem ZiF (Q:QD) (m0:Nat) (x11:LL) (x12 x13:Int) (y10:LL):ZbM Q (m0+1) x11 x12 x13 y10=Zev Q m0 x11 x12 x13 y10:=by kernel_rfl
theorem ZiO (Q:QD):RuleG4 (ZbM Q) (Zev Q):=ruleG4 _ _ (ZiF Q)
def Zlk (a0:LL) (Q:QD):Prop :=
 (a0.length≤big→∃ m0,ZbM Q m0 a0 ((a0.length:Int)) 0 (([]:List (List V))))
theorem ZlT (a0:LL) (Q:QD) (h:Zlk a0 Q):cl ZM [.v (.sl Za) (V.l a0)] [] Q :=
 acalls2 (E:=ZE) (envOk _ _ _ _ _) 1 Tryz.func35 (by kernel_rfl) h
def Zav:Env:=envA [(5,ua 0 2 (ua 12 6 ([])))] [] [] [] []
@[irreducible] def Z9 (Q:QD) (zx2:LL) (zx18_0:List V) (zy3_0:LL) (zy4_0:ByteArray) (zy4_1:Bool) (zy4_2:LL) (zy7_0:Int) (q0_0:LL) (q1_0:ByteArray) (q1_1:Bool) (q1_2:LL) (q3_0:Int) (rows:LL):Prop :=
 rangeR (evCode Zav (fnAt [1,1,0,1,0,0] Tryz.f36)) (evCode Zav (fnAt [1,1,0,1,0,1] Tryz.f36)) [19,20] (rowA 130) [.cells [.v (.sl Zg) (V.l zy3_0)],.cells [.v .str (V.s zy4_0),.v .bool (V.b zy4_1),.v (.sl Za) (V.l zy4_2)],.cells [.undef],.cells [.v (.int .i64) (V.i zy7_0)]] (un 2 ((.v (.sl Zb) (V.l zx2))::(.ptr (.own 0) 0)::(.ptr (.own 1) 0)::.skip::(.ptr (.own 2) 0)::(.ptr (.own 3) 0)::sk 4 (un 6 ((.fn ZG [.elt Za zx18_0 0])::sk 28 ([]))))) (dd 47 []) (outR Zav [.loc 3,.loc 4,.loc 6,.loc 7] ⟨un 2 ((.v (.sl Zb) (V.l zx2))::(.ptr (.loc 3) 0)::(.ptr (.loc 4) 0)::.skip::(.ptr (.loc 6) 0)::(.ptr (.loc 7) 0)::sk 4 (un 6 ((.fn ZG [.elt Za zx18_0 0])::sk 28 ([])))),dd 3 ((.cells [.v (.sl Zg) (V.l zy3_0)])::(.cells [.v .str (V.s zy4_0),.v .bool (V.b zy4_1),.v (.sl Za) (V.l zy4_2)])::.dead::(.cells [.undef])::(.cells [.v (.int .i64) (V.i zy7_0)])::dd 39 ([]))⟩ [] (blockK 0 (seqJ Zav (fnAt [1,1,1] Tryz.f36) (endK Zav Tryz.f36 Q)))) rows [.cells [.v (.sl Zg) (V.l q0_0)],.cells [.v .str (V.s q1_0),.v .bool (V.b q1_1),.v (.sl Za) (V.l q1_2)],.cells [.undef],.cells [.v (.int .i64) (V.i q3_0)]]
theorem ZgO (Q:QD) (zx2:LL) (zx18_0:List V) (zy3_0:LL) (zy4_0:ByteArray) (zy4_1:Bool) (zy4_2:LL) (zy7_0:Int) (q0_0:LL) (q1_0:ByteArray) (q1_1:Bool) (q1_2:LL) (q3_0:Int):Z9 Q zx2 zx18_0 zy3_0 zy4_0 zy4_1 zy4_2 zy7_0 q0_0 q1_0 q1_1 q1_2 q3_0 []=(cl ZaX [.ptr (.own 0) 0,.agg [.v .str (V.s q1_0),.v .bool (V.b q1_1),.v (.sl Za) (V.l q1_2)]] [.cells [.v (.sl Zg) (V.l q0_0),.v (.sl Zb) (V.l zx2)]] fun r1 H2=>r1=(.tup [.v (.mp Zc) ((r1.parts.headD .undef).V),.v (.int .i64) ((r1.parts.tail.headD .undef).V)])∧H2=[.cells [.v (.sl Zg) ((((H2.headD .dead).cs).headD .undef).V),.v (.sl Zb) (((((H2.headD .dead).cs).tail).headD .undef).V)]]∧(True∧True∧True)∧Q (.tup [.v (.mp Zc) ((r1.parts.headD .undef).V),.v (.int .i64) ((r1.parts.tail.headD .undef).V)]) []):=by kernel_rfl
theorem ZgM (Q:QD) (zx2:LL) (zx18_0:List V) (zy3_0:LL) (zy4_0:ByteArray) (zy4_1:Bool) (zy4_2:LL) (zy7_0:Int) (q0_0:LL) (q1_0:ByteArray) (q1_1:Bool) (q1_2:LL) (q3_0:Int) (r:List V) (rs:LL):Z9 Q zx2 zx18_0 zy3_0 zy4_0 zy4_1 zy4_2 zy7_0 q0_0 q1_0 q1_1 q1_2 q3_0 (r::rs)=((((r.tail.tail.headD V.none).list).length≤big→cl Zu [.v (.sl Zg) (V.l q0_0),.agg [.v .str (r.headD V.none),.v (.int .i64) (V.i ((((r.tail.tail.headD V.none).list).length:Int)))]] [] fun r1 H2=>r1=(.tup [.v (.sl Zk) ((r1.parts.headD .undef).V),.v .bool ((r1.parts.tail.headD .undef).V)])∧H2=[]∧iff (!((r.tail.headD V.none).bool)) (iff (!(((r1.parts.tail.headD .undef).V).bool)) ((True∧True∧True)∧Q (.tup [.v (.mp Zc) (V.l ([])),.v (.int .i64) (V.i 10)]) []) (Z9 Q zx2 zx18_0 zy3_0 zy4_0 zy4_1 zy4_2 zy7_0 q0_0 q1_0 q1_1 q1_2 q3_0 rs)) (Z9 Q zx2 zx18_0 zy3_0 zy4_0 zy4_1 zy4_2 zy7_0 q0_0 q1_0 q1_1 q1_2 q3_0 rs))):=by kernel_rfl
theorem Zge (Q:QD) (zx2:LL) (zx18_0:List V) (zy3_0:LL) (zy4_0:ByteArray) (zy4_1:Bool) (zy4_2:LL) (zy7_0:Int) (J:LL→LL→ByteArray→Bool→LL→Int→Prop)
  (step:∀ (r:List V) (rs:LL) (q0_0:LL) (q1_0:ByteArray) (q1_1:Bool) (q1_2:LL) (q3_0:Int),J (r::rs) q0_0 q1_0 q1_1 q1_2 q3_0→∀ K:LL→ByteArray→Bool→LL→Int→Prop,(∀ (q0_0':LL) (q1_0':ByteArray) (q1_1':Bool) (q1_2':LL) (q3_0':Int),J rs q0_0' q1_0' q1_1' q1_2' q3_0'→K q0_0' q1_0' q1_1' q1_2' q3_0')→((((r.tail.tail.headD V.none).list).length≤big→cl Zu [.v (.sl Zg) (V.l q0_0),.agg [.v .str (r.headD V.none),.v (.int .i64) (V.i ((((r.tail.tail.headD V.none).list).length:Int)))]] [] fun r1 H2=>r1=(.tup [.v (.sl Zk) ((r1.parts.headD .undef).V),.v .bool ((r1.parts.tail.headD .undef).V)])∧H2=[]∧iff (!((r.tail.headD V.none).bool)) (iff (!(((r1.parts.tail.headD .undef).V).bool)) ((True∧True∧True)∧Q (.tup [.v (.mp Zc) (V.l ([])),.v (.int .i64) (V.i 10)]) []) (K q0_0 q1_0 q1_1 q1_2 q3_0)) (K q0_0 q1_0 q1_1 q1_2 q3_0))))
  (last:∀ (q0_0:LL) (q1_0:ByteArray) (q1_1:Bool) (q1_2:LL) (q3_0:Int),J [] q0_0 q1_0 q1_1 q1_2 q3_0→(cl ZaX [.ptr (.own 0) 0,.agg [.v .str (V.s q1_0),.v .bool (V.b q1_1),.v (.sl Za) (V.l q1_2)]] [.cells [.v (.sl Zg) (V.l q0_0),.v (.sl Zb) (V.l zx2)]] fun r1 H2=>r1=(.tup [.v (.mp Zc) ((r1.parts.headD .undef).V),.v (.int .i64) ((r1.parts.tail.headD .undef).V)])∧H2=[.cells [.v (.sl Zg) ((((H2.headD .dead).cs).headD .undef).V),.v (.sl Zb) (((((H2.headD .dead).cs).tail).headD .undef).V)]]∧(True∧True∧True)∧Q (.tup [.v (.mp Zc) ((r1.parts.headD .undef).V),.v (.int .i64) ((r1.parts.tail.headD .undef).V)]) []))
  : ∀ (rows:LL) (q0_0:LL) (q1_0:ByteArray) (q1_1:Bool) (q1_2:LL) (q3_0:Int),J rows q0_0 q1_0 q1_1 q1_2 q3_0→Z9 Q zx2 zx18_0 zy3_0 zy4_0 zy4_1 zy4_2 zy7_0 q0_0 q1_0 q1_1 q1_2 q3_0 rows:=by
 intro rows
 induction rows with
 | nil=>intro q0_0 q1_0 q1_1 q1_2 q3_0 h; rw [ZgO]; exact last q0_0 q1_0 q1_1 q1_2 q3_0 h
 | cons r rs ih=>intro q0_0 q1_0 q1_1 q1_2 q3_0 h; rw [ZgM]; exact step r rs q0_0 q1_0 q1_1 q1_2 q3_0 h (fun q0_0 q1_0 q1_1 q1_2 q3_0=>Z9 Q zx2 zx18_0 zy3_0 zy4_0 zy4_1 zy4_2 zy7_0 q0_0 q1_0 q1_1 q1_2 q3_0 rs) ih
def Zfe (a0:LL) (a1_0:ByteArray) (a1_1:Bool) (a1_2 a2:LL) (Q:QD):Prop :=
 cl ZM [.v (.sl Za) (V.l ([[V.s a1_0,V.b a1_1,V.l a1_2]]))] [] fun r1 H2=>r1=(.v (.sl Zb) (r1.V))∧H2=[]∧(r1.V.list.length≤big→iff (decide (((r1.V.list.length:Int)) > (64:Int))) ((True∧True∧True)∧Q (.tup [.v (.mp Zc) (V.l ([])),.v (.int .i64) (V.i 3)]) []) (cl Zd7 [.agg [.v .str (V.s a1_0),.v .bool (V.b a1_1),.v (.sl Za) (V.l a1_2)]] [] fun r3 H4=>r3=(.fn ZG [.elt Za ((r3.capsOf.headD .undef).eltOf) 0])∧H4=[]∧∃ rows:LL,itA 130 [.elt Za ((r3.capsOf.headD .undef).eltOf) 0] rows∧Z9 Q a2 ((r3.capsOf.headD .undef).eltOf) a0 a1_0 a1_1 a1_2 0 a0 a1_0 a1_1 a1_2 0 rows))
theorem ZjC (a0:LL) (a1_0:ByteArray) (a1_1:Bool) (a1_2 a2:LL) (Q:QD) (h:Zfe a0 a1_0 a1_1 a1_2 a2 Q):cl Zp [.v (.sl Zg) (V.l a0),.agg [.v .str (V.s a1_0),.v .bool (V.b a1_1),.v (.sl Za) (V.l a1_2)],.v (.sl Zb) (V.l a2)] [] Q :=
 acalls2 (E:=Zav) (envOk _ _ _ _ _) 0 Tryz.func36 (by kernel_rfl) h
def Zlx:Env:=envA [] [(1,27,[],[])] [] [] []
def ZiU (a0:ByteArray) (Q:QD):Prop :=
 0≤(0:Int)∧(0:Int)<a0.size∧0≤(8:Int)∧0≤(1:Int)∧(1:Int)<a0.size∧0≤(2:Int)∧(2:Int)<a0.size∧0≤(24:Int)∧0≤(3:Int)∧(3:Int)<a0.size∧0≤(16:Int)∧0≤(4:Int)∧(4:Int)<a0.size∧0≤(8:Int)∧0≤(5:Int)∧(5:Int)<a0.size∧(True∧True∧True)∧Q (.tup [.v (.int .i64) (V.i (bitOr .i64 ((IntKind.i64.wrap ((IntKind.i64.wrap (((a0.data.toList.getD ((0:Int)).toNat 0).toNat:Int)))*2 ^ (min ((8:Int)).toNat IntKind.i64.bits)))) ((IntKind.i64.wrap (((a0.data.toList.getD ((1:Int)).toNat 0).toNat:Int)))))),.v (.int .i64) (V.i (bitOr .i64 ((bitOr .i64 ((bitOr .i64 ((IntKind.i64.wrap ((IntKind.i64.wrap (((a0.data.toList.getD ((2:Int)).toNat 0).toNat:Int)))*2 ^ (min ((24:Int)).toNat IntKind.i64.bits)))) ((IntKind.i64.wrap ((IntKind.i64.wrap (((a0.data.toList.getD ((3:Int)).toNat 0).toNat:Int)))*2 ^ (min ((16:Int)).toNat IntKind.i64.bits)))))) ((IntKind.i64.wrap ((IntKind.i64.wrap (((a0.data.toList.getD ((4:Int)).toNat 0).toNat:Int)))*2 ^ (min ((8:Int)).toNat IntKind.i64.bits)))))) ((IntKind.i64.wrap (((a0.data.toList.getD ((5:Int)).toNat 0).toNat:Int))))))]) []
theorem Zmn (a0:ByteArray) (Q:QD) (h:ZiU a0 Q):cl Zeh [.v .str (V.s a0)] [] Q :=
 acalls2 (E:=Zlx) (envOk _ _ _ _ _) 0 Tryz.func37 (by kernel_rfl) h
def ZbR:Env:=envA [(3000004,(.undef 1)::ua 4 8 ([.dead 11])),(3000005,(.undef 1)::ua 4 14 ([.dead 11,.dead 15]))] [] [] [] [4,5]
@[irreducible] def ZdK (Q:QD) (x0:ByteArray):Prop :=
 joinM (evCode ZbR (fnAt [1,1,1] Tryz.f41)) ⟨(.v .str (V.s x0))::.undef::sk 2 (un 14 (sk 6 ([]))),dd 24 ([])⟩ [] (endK ZbR Tryz.f41 Q)
@[irreducible] def ZdF (Q:QD) (x0:ByteArray) (x12:V):Prop :=
 joinM (evCode ZbR (fnAt [1,1,0,1] Tryz.f41)) ⟨(.v .str (V.s x0))::.undef::sk 2 (un 8 ((.v .bool (x12))::sk 11 ([]))),dd 24 ([])⟩ [] (seqJ ZbR (fnAt [1,1,1] Tryz.f41) (endK ZbR Tryz.f41 Q))
def ZgB (Q:QD) (x0:ByteArray):Prop :=
 iff (!(x0.toList == (ByteArray.mk #[]).toList)) (cl ZfN [.v .str (V.s x0)] [] fun r1 H2=>r1=(.v .bool (r1.V))∧H2=[]∧True∧Q (.v .bool (r1.V)) []) (True∧Q (.v .bool (V.b false)) [])
theorem Zjj (Q:QD) (x0:ByteArray):ZdK Q x0=ZgB Q x0:=by kernel_rfl
def Zgw (Q:QD) (x0:ByteArray) (x12:V):Prop :=
 iff x12.bool ((x0.size≤big→0≤(0:Int)∧(0:Int)≤(IntKind.i64.wrap (((x0.size:Int)) - (1:Int)))∧(IntKind.i64.wrap (((x0.size:Int)) - (1:Int)))≤x0.size∧ZdK Q (x0.extract (0:Int).toNat ((IntKind.i64.wrap (((x0.size:Int)) - (1:Int)))).toNat))) (ZdK Q x0)
theorem ZjG (Q:QD) (x0:ByteArray) (x12:V):ZdF Q x0 x12=Zgw Q x0 x12:=by kernel_rfl
def ZlK (a0:ByteArray) (a1:Bool) (Q:QD):Prop :=
 (a0.size≤big→iff (decide (((a0.size:Int)) > (24:Int))) (True∧Q (.v .bool (V.b false)) []) (iff a1 (cl Zgm [.v .str (V.s a0)] [] fun r1 H2=>r1=(.v .bool (r1.V))∧H2=[]∧ZdF Q a0 r1.V) (ZdF Q a0 (V.b false))))
theorem Zl4 (a0:ByteArray) (a1:Bool) (Q:QD) (h:ZlK a0 a1 Q):cl Ze5 [.v .str (V.s a0),.v .bool (V.b a1)] [] Q :=
 acalls2 (E:=ZbR) (envOk _ _ _ _ _) 0 Tryz.func41 (by kernel_rfl) h
def ZaP:Env:=envA [(2,ua 4 6 (ua 12 19 ([.dead 29])))] [(4,6,[],[]),(5,8,[],[])] [] [] []
def ZgE (Q:QD):Post:=blockK 0 (seqJ ZaP (fnAt [1,1] Tryz.f42) (endK ZaP Tryz.f42 Q))
@[irreducible] def ZaE (Q:QD) (m0:Nat) (x0 x1:ByteArray) (x10 x11:Int):Prop :=
 iter (adj (ZaP.adj 2)) (evCode ZaP (fnAt [1,0,1,0,0] Tryz.f42)) (ZgE Q) m0 ⟨(.v .str (V.s x0))::(.v .str (V.s x1))::sk 2 (un 6 ((.v (.int .i64) (V.i x10))::(.v (.int .i64) (V.i x11))::un 19 (sk 5 ([])))),dd 36 ([])⟩ []
def Zgz (Q:QD) (m0:Nat) (x0 x1:ByteArray) (x10 x11:Int):Prop :=
 iff (decide (x11<x10)) (0≤x11∧x11<x0.size∧0≤x11∧x11<x1.size∧iff ((((x0.data.toList.getD x11.toNat 0).toNat:Int)) != (((x1.data.toList.getD x11.toNat 0).toNat:Int))) (0≤x11∧x11<x0.size∧0≤x11∧x11<x1.size∧cl ZQ [.v (.int .i64) (V.i (IntKind.i64.wrap (((x0.data.toList.getD x11.toNat 0).toNat:Int)))),.v (.int .i64) (V.i (IntKind.i64.wrap (((x1.data.toList.getD x11.toNat 0).toNat:Int))))] [] fun r1 H2=>r1=(.v (.int .i64) (r1.V))∧H2=[]∧True∧Q (.v (.int .i64) (r1.V)) []) (ZaE Q m0 x0 x1 x10 (IntKind.i64.wrap (x11+(1:Int))))) ((x0.size≤big→(x1.size≤big→cl ZQ [.v (.int .i64) (V.i ((x0.size:Int))),.v (.int .i64) (V.i ((x1.size:Int)))] [] fun r3 H4=>r3=(.v (.int .i64) (r3.V))∧H4=[]∧True∧Q (.v (.int .i64) (r3.V)) [])))
theorem ZfT (Q:QD) (m0:Nat) (x0 x1:ByteArray) (x10 x11:Int):ZaE Q (m0+1) x0 x1 x10 x11=Zgz Q m0 x0 x1 x10 x11:=by kernel_rfl
theorem Zfz (Q:QD) (x0 x1:ByteArray) (n:Nat) (hb:n≤big) (J:Nat→Prop)
  (step:∀ (k:Nat),k<n→J k→∀ K:Prop,(J (k+1)→K)→(0≤(k:Int)∧(k:Int)<x0.size∧0≤(k:Int)∧(k:Int)<x1.size∧iff ((((x0.data.toList.getD k 0).toNat:Int)) != (((x1.data.toList.getD k 0).toNat:Int))) (0≤(k:Int)∧(k:Int)<x0.size∧0≤(k:Int)∧(k:Int)<x1.size∧cl ZQ [.v (.int .i64) (V.i (IntKind.i64.wrap (((x0.data.toList.getD k 0).toNat:Int)))),.v (.int .i64) (V.i (IntKind.i64.wrap (((x1.data.toList.getD k 0).toNat:Int))))] [] fun r1 H2=>r1=(.v (.int .i64) (r1.V))∧H2=[]∧True∧Q (.v (.int .i64) (r1.V)) []) (K)))
  (last:J n→((x0.size≤big→(x1.size≤big→cl ZQ [.v (.int .i64) (V.i ((x0.size:Int))),.v (.int .i64) (V.i ((x1.size:Int)))] [] fun r3 H4=>r3=(.v (.int .i64) (r3.V))∧H4=[]∧True∧Q (.v (.int .i64) (r3.V)) []))))
  (k:Nat) (le0:k≤n) (hj:J k):∃ m0,ZaE Q m0 x0 x1 (n:Int) ((k:Int)):=by
 exact rangeG0 n hb J (fun m0 i=>ZaE Q m0 x0 x1 (n:Int) i) (fun m0 i=>ZfT Q m0 x0 x1 (n:Int) i) (fun k hl_ hj_ m_ ih_=>step k hl_ hj_ _ ih_) last k le0 hj
def ZhG (a0 a1:ByteArray) (Q:QD):Prop :=
 (a0.size≤big→(a1.size≤big→∃ m0,ZaE Q m0 a0 a1 (if ((a1.size:Int))<((a0.size:Int)) then ((a1.size:Int)) else ((a0.size:Int))) 0))
theorem ZiK (a0 a1:ByteArray) (Q:QD) (h:ZhG a0 a1 Q):cl Zcb [.v .str (V.s a0),.v .str (V.s a1)] [] Q :=
 acalls2 (E:=ZaP) (envOk _ _ _ _ _) 0 Tryz.func42 (by kernel_rfl) h
def ZlW:Env:=envA [] [] [] [] []
def ZjM (a0_0:ByteArray) (a0_1:Bool) (a0_2:LL) (Q:QD):Prop :=
 cl Zeq [.agg [.v .str (V.s a0_0),.v .bool (V.b a0_1),.v (.sl Za) (V.l a0_2)]] [] fun r1 H2=>r1=(.v .bool (r1.V))∧H2=[]∧iff (!r1.V.bool) (True∧Q (.v (.int .i64) (V.i 4)) []) (cl Zdq [.agg [.v .str (V.s a0_0),.v .bool (V.b a0_1),.v (.sl Za) (V.l a0_2)]] [] fun r3 H4=>r3=(.v (.int .i64) (r3.V))∧H4=[]∧iff (decide (r3.V.int > (4000:Int))) (True∧Q (.v (.int .i64) (V.i 3)) []) (cl Zct [.agg [.v .str (V.s a0_0),.v .bool (V.b a0_1),.v (.sl Za) (V.l a0_2)]] [] fun r5 H6=>r5=(.v (.int .i64) (r5.V))∧H6=[]∧iff (decide (r5.V.int > (200:Int))) (True∧Q (.v (.int .i64) (V.i 3)) []) (True∧Q (.v (.int .i64) (V.i 0)) [])))
theorem ZmM (a0_0:ByteArray) (a0_1:Bool) (a0_2:LL) (Q:QD) (h:ZjM a0_0 a0_1 a0_2 Q):cl ZhF [.agg [.v .str (V.s a0_0),.v .bool (V.b a0_1),.v (.sl Za) (V.l a0_2)]] [] Q :=
 acalls2 (E:=ZlW) (envOk _ _ _ _ _) 0 Tryz.func44 (by kernel_rfl) h
def Zkh:Env:=envA [] [] [] [] []
def Zgn (a0:ByteArray) (Q:QD):Prop :=
 (True∧True∧True∧True)∧Q (.agg [.v .str (V.s a0),.v .bool (V.b true),.nil]) []
theorem Zk4 (a0:ByteArray) (Q:QD) (h:Zgn a0 Q):cl Zef [.v .str (V.s a0)] [] Q :=
 acalls2 (E:=Zkh) (envOk _ _ _ _ _) 0 Tryz.func48 (by kernel_rfl) h
def ZkS:Env:=envA [] [] [] [] []
def Ziv (a0:ByteArray) (a1:LL) (Q:QD):Prop :=
 (True∧True∧True∧True)∧Q (.agg [.v .str (V.s a0),.v .bool (V.b false),.v (.sl Za) (V.l a1)]) []
theorem Zmd (a0:ByteArray) (a1:LL) (Q:QD) (h:Ziv a0 a1 Q):cl Zdp [.v .str (V.s a0),.v (.sl Za) (V.l a1)] [] Q :=
 acalls2 (E:=ZkS) (envOk _ _ _ _ _) 0 Tryz.func49 (by kernel_rfl) h
def ZkI:Env:=envA [] [] [] [] []
def Zlv (Q:QD):Prop :=
 True∧Q (.v (.sl Zg) (V.l ([[V.s (ByteArray.mk #[97,100,100]),V.l ([[V.i 1,V.l ([[V.i 0],[V.i 0]])],[V.i 1,V.l ([[V.i 0],[V.i 1]])],[V.i 2,V.l ([[V.i 1],[V.i 0]])]])],[V.s (ByteArray.mk #[115]),V.l ([[V.i 1,V.l ([[V.i 0]])],[V.i 1,V.l ([[V.i 1]])]])]]))) []
theorem ZlZ (Q:QD) (h:Zlv Q):cl ZeA [] [] Q :=
 acalls2 (E:=ZkI) (envOk _ _ _ _ _) 0 Tryz.func50 (by kernel_rfl) h
def Za1:Env:=envA [(2,ua 4 6 (ua 12 21 ([.dead 31])))] [(4,8,[],[]),(5,8,[],[])] [] [] []
def Zhw (Q:QD):Post:=blockK 0 (seqJ Za1 (fnAt [1,1] Tryz.f51) (endK Za1 Tryz.f51 Q))
@[irreducible] def ZaL (Q:QD) (m0:Nat) (x0 x1:LL) (x10 x11:Int):Prop :=
 iter (adj (Za1.adj 2)) (evCode Za1 (fnAt [1,0,1,0,0] Tryz.f51)) (Zhw Q) m0 ⟨(.v (.sl ZT) (V.l x0))::(.v (.sl ZT) (V.l x1))::sk 2 (un 6 ((.v (.int .i64) (V.i x10))::(.v (.int .i64) (V.i x11))::un 21 (sk 5 ([])))),dd 38 ([])⟩ []
def ZgZ (Q:QD) (m0:Nat) (x0 x1:LL) (x10 x11:Int):Prop :=
 iff (decide (x11<x10)) (0≤x11∧x11<x0.length∧0≤x11∧x11<x1.length∧iff (((((x0.getD x11.toNat []).drop 0).headD V.none).int) != ((((x1.getD x11.toNat []).drop 0).headD V.none).int)) (0≤x11∧x11<x0.length∧0≤x11∧x11<x1.length∧cl ZQ [.v (.int .i64) (((x0.getD x11.toNat []).drop 0).headD V.none),.v (.int .i64) (((x1.getD x11.toNat []).drop 0).headD V.none)] [] fun r1 H2=>r1=(.v (.int .i64) (r1.V))∧H2=[]∧True∧Q (.v (.int .i64) (r1.V)) []) (ZaL Q m0 x0 x1 x10 (IntKind.i64.wrap (x11+(1:Int))))) ((x0.length≤big→(x1.length≤big→cl ZQ [.v (.int .i64) (V.i ((x0.length:Int))),.v (.int .i64) (V.i ((x1.length:Int)))] [] fun r3 H4=>r3=(.v (.int .i64) (r3.V))∧H4=[]∧True∧Q (.v (.int .i64) (r3.V)) [])))
theorem Zf5 (Q:QD) (m0:Nat) (x0 x1:LL) (x10 x11:Int):ZaL Q (m0+1) x0 x1 x10 x11=ZgZ Q m0 x0 x1 x10 x11:=by kernel_rfl
theorem ZfF (Q:QD) (x0 x1:LL) (n:Nat) (hb:n≤big) (J:Nat→Prop)
  (step:∀ (k:Nat),k<n→J k→∀ K:Prop,(J (k+1)→K)→(0≤(k:Int)∧(k:Int)<x0.length∧0≤(k:Int)∧(k:Int)<x1.length∧iff (((((x0.getD k []).drop 0).headD V.none).int) != ((((x1.getD k []).drop 0).headD V.none).int)) (0≤(k:Int)∧(k:Int)<x0.length∧0≤(k:Int)∧(k:Int)<x1.length∧cl ZQ [.v (.int .i64) (((x0.getD k []).drop 0).headD V.none),.v (.int .i64) (((x1.getD k []).drop 0).headD V.none)] [] fun r1 H2=>r1=(.v (.int .i64) (r1.V))∧H2=[]∧True∧Q (.v (.int .i64) (r1.V)) []) (K)))
  (last:J n→((x0.length≤big→(x1.length≤big→cl ZQ [.v (.int .i64) (V.i ((x0.length:Int))),.v (.int .i64) (V.i ((x1.length:Int)))] [] fun r3 H4=>r3=(.v (.int .i64) (r3.V))∧H4=[]∧True∧Q (.v (.int .i64) (r3.V)) []))))
  (k:Nat) (le0:k≤n) (hj:J k):∃ m0,ZaL Q m0 x0 x1 (n:Int) ((k:Int)):=by
 exact rangeG0 n hb J (fun m0 i=>ZaL Q m0 x0 x1 (n:Int) i) (fun m0 i=>Zf5 Q m0 x0 x1 (n:Int) i) (fun k hl_ hj_ m_ ih_=>step k hl_ hj_ _ ih_) last k le0 hj
def Zh7 (a0 a1:LL) (Q:QD):Prop :=
 (a0.length≤big→(a1.length≤big→∃ m0,ZaL Q m0 a0 a1 (if ((a1.length:Int))<((a0.length:Int)) then ((a1.length:Int)) else ((a0.length:Int))) 0))
theorem ZjI (a0 a1:LL) (Q:QD) (h:Zh7 a0 a1 Q):cl ZcN [.v (.sl ZT) (V.l a0),.v (.sl ZT) (V.l a1)] [] Q :=
 acalls2 (E:=Za1) (envOk _ _ _ _ _) 0 Tryz.func51 (by kernel_rfl) h
def Za8:Env:=envA [(10,ua 0 3 (ua 4 2 ((.undef 8)::(.undef 10)::ua 13 13 (ua 27 9 ((.undef 37)::da 4 2 ([]))))))] [] [] [] []
@[irreducible] def ZaW (Q:QD) (zx38_0:List V) (zy6_0 zy7_0:Int) (zy9_0 zy11_0:V) (q0_0 q1_0:Int) (q2_0 q3_0:V) (mm:Nat) (rows:LL):Prop :=
 rangeS (evCode Za8 (fnAt [1,1,1,1,1,1,0,1,0,0] Tryz.f52)) (evCode Za8 (fnAt [1,1,1,1,1,1,0,1,0,1] Tryz.f52)) [39] (rowA 154) [.cells [.v (.int .i64) (V.i zy6_0)],.cells [.v (.int .i64) (V.i zy7_0)],.cells [.v (.mp Zc) (zy9_0)],.cells [.v (.mp Zc) (zy11_0)]] (un 3 (.skip::un 2 ((.ptr (.own 0) 0)::(.ptr (.own 1) 0)::.undef::(.ptr (.own 2) 0)::.undef::(.ptr (.own 3) 0)::.skip::un 13 (.skip::un 9 (.skip::.undef::(.fn ZL [.elt Zh zx38_0 0])::sk 14 ([])))))) (dd 53 []) (outR Za8 [.loc 6,.loc 7,.loc 9,.loc 11] ⟨un 3 (.skip::un 2 ((.ptr (.loc 6) 0)::(.ptr (.loc 7) 0)::.undef::(.ptr (.loc 9) 0)::.undef::(.ptr (.loc 11) 0)::.skip::un 13 (.skip::un 9 (.skip::.undef::(.fn ZL [.elt Zh zx38_0 0])::sk 14 ([]))))),dd 6 ((.cells [.v (.int .i64) (V.i zy6_0)])::(.cells [.v (.int .i64) (V.i zy7_0)])::.dead::(.cells [.v (.mp Zc) (zy9_0)])::.dead::(.cells [.v (.mp Zc) (zy11_0)])::dd 41 ([]))⟩ [] (blockK 0 (seqJ Za8 (fnAt [1,1,1,1,1,1,1] Tryz.f52) (endK Za8 Tryz.f52 Q)))) mm rows [.cells [.v (.int .i64) (V.i q0_0)],.cells [.v (.int .i64) (V.i q1_0)],.cells [.v (.mp Zc) (q2_0)],.cells [.v (.mp Zc) (q3_0)]]
theorem Zh9 (Q:QD) (zx38_0:List V) (zy6_0 zy7_0:Int) (zy9_0 zy11_0:V) (q0_0 q1_0:Int) (q2_0 q3_0:V) (rows:LL):ZaW Q zx38_0 zy6_0 zy7_0 zy9_0 zy11_0 q0_0 q1_0 q2_0 q3_0 0 rows=(cl ZaR [.v (.int .u64) ((mget [.str] [V.i 0] [V.s (ByteArray.mk #[])] q2_0.list).headD V.none),.v (.int .u64) ((mget [.str] [V.i 0] [V.s (ByteArray.mk #[])] q3_0.list).headD V.none)] [] fun r1 H2=>r1=(.v (.int .i64) (r1.V))∧H2=[]∧(True∧True∧True)∧Q (.tup [.v (.int .i64) (V.i (IntKind.i64.wrap ((1:Int)+r1.V.int))),.v (.int .i64) (V.i 0)]) []):=by kernel_rfl
theorem Zif (Q:QD) (zx38_0:List V) (zy6_0 zy7_0:Int) (zy9_0 zy11_0:V) (q0_0 q1_0:Int) (q2_0 q3_0:V) (mm:Nat) (rows:LL):ZaW Q zx38_0 zy6_0 zy7_0 zy9_0 zy11_0 q0_0 q1_0 q2_0 q3_0 (mm+1) rows=(∀ i:Nat,i<rows.length→(iff (decide ((((mget [.str] [V.i 0] [((rows.getD i [])).headD V.none] q2_0.list).headD V.none).int)<(((mget [.str] [V.i 0] [((rows.getD i [])).headD V.none] q3_0.list).headD V.none).int))) ((True∧True∧True)∧Q (.tup [.v (.int .i64) (V.i 0),.v (.int .i64) (V.i 0)]) []) (ZaW Q zx38_0 zy6_0 zy7_0 zy9_0 zy11_0 q0_0 q1_0 q2_0 q3_0 mm (rows.eraseIdx i)))):=by kernel_rfl
theorem ZhX (Q:QD) (zx38_0:List V) (zy6_0 zy7_0:Int) (zy9_0 zy11_0:V) (J:LL→Int→Int→V→V→Prop)
  (step:∀ (rows:LL) (q0_0 q1_0:Int) (q2_0 q3_0:V),J rows q0_0 q1_0 q2_0 q3_0→∀ i:Nat,i<rows.length→∀ K:Int→Int→V→V→Prop,(∀ (q0_0' q1_0':Int) (q2_0' q3_0':V),J (rows.eraseIdx i) q0_0' q1_0' q2_0' q3_0'→K q0_0' q1_0' q2_0' q3_0')→(iff (decide ((((mget [.str] [V.i 0] [((rows.getD i [])).headD V.none] q2_0.list).headD V.none).int)<(((mget [.str] [V.i 0] [((rows.getD i [])).headD V.none] q3_0.list).headD V.none).int))) ((True∧True∧True)∧Q (.tup [.v (.int .i64) (V.i 0),.v (.int .i64) (V.i 0)]) []) (K q0_0 q1_0 q2_0 q3_0)))
  (last:∀ (q0_0 q1_0:Int) (q2_0 q3_0:V),J [] q0_0 q1_0 q2_0 q3_0→(cl ZaR [.v (.int .u64) ((mget [.str] [V.i 0] [V.s (ByteArray.mk #[])] q2_0.list).headD V.none),.v (.int .u64) ((mget [.str] [V.i 0] [V.s (ByteArray.mk #[])] q3_0.list).headD V.none)] [] fun r1 H2=>r1=(.v (.int .i64) (r1.V))∧H2=[]∧(True∧True∧True)∧Q (.tup [.v (.int .i64) (V.i (IntKind.i64.wrap ((1:Int)+r1.V.int))),.v (.int .i64) (V.i 0)]) []))
  : ∀ (mm:Nat) (rows:LL) (q0_0 q1_0:Int) (q2_0 q3_0:V),mm=rows.length→J rows q0_0 q1_0 q2_0 q3_0→ZaW Q zx38_0 zy6_0 zy7_0 zy9_0 zy11_0 q0_0 q1_0 q2_0 q3_0 mm rows:=by
 intro mm
 induction mm with
 | zero=>intro rows q0_0 q1_0 q2_0 q3_0 hl h; rw [Zh9]; exact last q0_0 q1_0 q2_0 q3_0 (List.eq_nil_of_length_eq_zero hl.symm▸h)
 | succ mm ih=>intro rows q0_0 q1_0 q2_0 q3_0 hl h; rw [Zif]; intro i hi; exact step rows q0_0 q1_0 q2_0 q3_0 h i hi (fun q0_0 q1_0 q2_0 q3_0=>ZaW Q zx38_0 zy6_0 zy7_0 zy9_0 zy11_0 q0_0 q1_0 q2_0 q3_0 mm (rows.eraseIdx i)) (fun q0_0 q1_0 q2_0 q3_0=>ih (rows.eraseIdx i) q0_0 q1_0 q2_0 q3_0 (by rw [List.length_eraseIdx_of_lt hi]; omega))
def ZgN (a0:LL) (a1_0:ByteArray) (a1_1:Bool) (a1_2:LL) (a2_0:ByteArray) (a2_1:Bool) (a2_2:LL) (Q:QD):Prop :=
 cl ZM [.v (.sl Za) (V.l ([[V.s a1_0,V.b a1_1,V.l a1_2],[V.s a2_0,V.b a2_1,V.l a2_2]]))] [] fun r1 H2=>r1=(.v (.sl Zb) (r1.V))∧H2=[]∧cl Zp [.v (.sl Zg) (V.l a0),.agg [.v .str (V.s a1_0),.v .bool (V.b a1_1),.v (.sl Za) (V.l a1_2)],.v (.sl Zb) (r1.V)] [] fun r3 H4=>r3=(.tup [.v (.mp Zc) ((r3.parts.headD .undef).V),.v (.int .i64) ((r3.parts.tail.headD .undef).V)])∧H4=[]∧iff ((((r3.parts.tail.headD .undef).V).int) != (0:Int)) ((True∧True∧True)∧Q (.tup [.v (.int .i64) (V.i 0),.v (.int .i64) ((r3.parts.tail.headD .undef).V)]) []) (cl Zp [.v (.sl Zg) (V.l a0),.agg [.v .str (V.s a2_0),.v .bool (V.b a2_1),.v (.sl Za) (V.l a2_2)],.v (.sl Zb) (r1.V)] [] fun r5 H6=>r5=(.tup [.v (.mp Zc) ((r5.parts.headD .undef).V),.v (.int .i64) ((r5.parts.tail.headD .undef).V)])∧H6=[]∧iff ((((r5.parts.tail.headD .undef).V).int) != (0:Int)) ((True∧True∧True)∧Q (.tup [.v (.int .i64) (V.i 0),.v (.int .i64) ((r5.parts.tail.headD .undef).V)]) []) (cl Zbg [.v (.mp Zc) ((r5.parts.headD .undef).V)] [] fun r7 H8=>r7=(.fn ZL [.elt Zh ((r7.capsOf.headD .undef).eltOf) 0])∧H8=[]∧∃ rows:LL,itA 154 [.elt Zh ((r7.capsOf.headD .undef).eltOf) 0] rows∧ZaW Q ((r7.capsOf.headD .undef).eltOf) 0 0 ((r3.parts.headD .undef).V) ((r5.parts.headD .undef).V) 0 0 ((r3.parts.headD .undef).V) ((r5.parts.headD .undef).V) rows.length rows))
theorem Zk5 (a0:LL) (a1_0:ByteArray) (a1_1:Bool) (a1_2:LL) (a2_0:ByteArray) (a2_1:Bool) (a2_2:LL) (Q:QD) (h:ZgN a0 a1_0 a1_1 a1_2 a2_0 a2_1 a2_2 Q):cl ZC [.v (.sl Zg) (V.l a0),.agg [.v .str (V.s a1_0),.v .bool (V.b a1_1),.v (.sl Za) (V.l a1_2)],.agg [.v .str (V.s a2_0),.v .bool (V.b a2_1),.v (.sl Za) (V.l a2_2)]] [] Q :=
 acalls2 (E:=Za8) (envOk _ _ _ _ _) 0 Tryz.func52 (by kernel_rfl) h
def Zdy:Env:=envA [(6,(.undef 1)::ua 3 3 (ua 10 5 ((.undef 23)::ua 27 16 ([.dead 3,.dead 10,.dead 33,.dead 41]))))] [(3,3,[],[])] [] [] []
def Zlj (Q:QD):Post:=blockK 0 (seqJ Zdy (fnAt [1,1,1,1] Tryz.f53) (endK Zdy Tryz.f53 Q))
@[irreducible] def Zc8 (Q:QD) (m0:Nat) (x0:LL) (x7 x8:Int) (x24:LL) (x25 x26:Int):Prop :=
 iter (adj (Zdy.adj 6)) (evCode Zdy (fnAt [1,1,1,0,1,0,0] Tryz.f53)) (Zlj Q) m0 ⟨(.v (.sl Z2) (V.l x0))::.undef::.skip::un 3 (.skip::(.v (.int .i64) (V.i x7))::(.v (.int .i64) (V.i x8))::.skip::un 5 (sk 8 (.undef::(.v (.sl Za) (V.l x24))::(.v (.int .i64) (V.i x25))::(.v (.int .i64) (V.i x26))::un 16 (sk 3 ([]))))),dd 46 ([])⟩ []
def Zlq (Q:QD) (m0:Nat) (x0:LL) (x7 x8:Int) (x24:LL) (x25 x26:Int):Prop :=
 iff (decide (x26<x25)) (0≤x26∧x26<x24.length∧cl ZeL [.v (.sl Z2) (V.l x0),.agg [.v .str (((x24.getD x26.toNat []).drop 0).headD V.none),.v .bool ((((x24.getD x26.toNat []).drop 0).tail).headD V.none),.v (.sl Za) (((((x24.getD x26.toNat []).drop 0).tail).tail).headD V.none)]] [] fun r1 H2=>r1=(.tup [.v (.int .i64) ((r1.parts.headD .undef).V),.v (.int .i64) ((r1.parts.tail.headD .undef).V)])∧H2=[]∧Zc8 Q m0 x0 (IntKind.i64.wrap (x7+(((r1.parts.headD .undef).V).int))) (if (((r1.parts.tail.headD .undef).V).int) > x8 then (((r1.parts.tail.headD .undef).V).int) else x8) x24 x25 (IntKind.i64.wrap (x26+(1:Int)))) ((True∧True∧True)∧Q (.tup [.v (.int .i64) (V.i x7),.v (.int .i64) (V.i (IntKind.i64.wrap (x8+(1:Int))))]) [])
theorem Zj9 (Q:QD) (m0:Nat) (x0:LL) (x7 x8:Int) (x24:LL) (x25 x26:Int):Zc8 Q (m0+1) x0 x7 x8 x24 x25 x26=Zlq Q m0 x0 x7 x8 x24 x25 x26:=by kernel_rfl
theorem Zi7 (Q:QD) (x0 x24:LL) (n:Nat) (hb:n≤big) (J:Nat→Int→Int→Prop)
  (step:∀ (k:Nat) (x7 x8:Int),k<n→J k x7 x8→∀ K:Int→Int→Prop,(∀ (x7' x8':Int),J (k+1) x7' x8'→K x7' x8')→(0≤(k:Int)∧(k:Int)<x24.length∧cl ZeL [.v (.sl Z2) (V.l x0),.agg [.v .str (((x24.getD k []).drop 0).headD V.none),.v .bool ((((x24.getD k []).drop 0).tail).headD V.none),.v (.sl Za) (((((x24.getD k []).drop 0).tail).tail).headD V.none)]] [] fun r1 H2=>r1=(.tup [.v (.int .i64) ((r1.parts.headD .undef).V),.v (.int .i64) ((r1.parts.tail.headD .undef).V)])∧H2=[]∧K (IntKind.i64.wrap (x7+(((r1.parts.headD .undef).V).int))) (if (((r1.parts.tail.headD .undef).V).int) > x8 then (((r1.parts.tail.headD .undef).V).int) else x8)))
  (last:∀ (x7 x8:Int),J n x7 x8→((True∧True∧True)∧Q (.tup [.v (.int .i64) (V.i x7),.v (.int .i64) (V.i (IntKind.i64.wrap (x8+(1:Int))))]) []))
  (k:Nat) (x7 x8:Int) (le0:k≤n) (hj:J k x7 x8):∃ m0,Zc8 Q m0 x0 x7 x8 x24 (n:Int) ((k:Int)):=by
 exact rangeG2 n hb J (fun m0 i x7 x8=>Zc8 Q m0 x0 x7 x8 x24 (n:Int) i) (fun m0 i x7 x8=>Zj9 Q m0 x0 x7 x8 x24 (n:Int) i) (fun k x7 x8 hl_ hj_ m_ ih_=>step k x7 x8 hl_ hj_ _ ih_) last k x7 x8 le0 hj
def ZjO (a0:LL) (a1_0:ByteArray) (a1_1:Bool) (a1_2:LL) (Q:QD):Prop :=
 iff a1_1 (cl ZeM [.v (.sl Z2) (V.l a0),.v .str (V.s a1_0)] [] fun r1 H2=>r1=(.agg [.v .str ((r1.cells.headD .undef).V),.v .bool ((r1.cells.tail.headD .undef).V),.v (.sl Za) ((r1.cells.tail.tail.headD .undef).V)])∧H2=[]∧(∃ r3:D,cl Zdq [.agg [.v .str ((r1.cells.headD .undef).V),.v .bool ((r1.cells.tail.headD .undef).V),.v (.sl Za) ((r1.cells.tail.tail.headD .undef).V)]] [] (fun r H'=>r=(.v (.int .i64) (r3.V))∧H'=[])∧cl Zct [.agg [.v .str ((r1.cells.headD .undef).V),.v .bool ((r1.cells.tail.headD .undef).V),.v (.sl Za) ((r1.cells.tail.tail.headD .undef).V)]] [] fun r4 H5=>r4=(.v (.int .i64) (r4.V))∧H5=[]∧(True∧True∧True)∧Q (.tup [.v (.int .i64) (r3.V),.v (.int .i64) (r4.V)]) [])) ((a1_2.length≤big→∃ m0,Zc8 Q m0 a0 1 0 a1_2 ((a1_2.length:Int)) 0))
theorem Zmy (a0:LL) (a1_0:ByteArray) (a1_1:Bool) (a1_2:LL) (Q:QD) (h:ZjO a0 a1_0 a1_1 a1_2 Q):cl ZeL [.v (.sl Z2) (V.l a0),.agg [.v .str (V.s a1_0),.v .bool (V.b a1_1),.v (.sl Za) (V.l a1_2)]] [] Q :=
 acalls2 (E:=Zdy) (envOk _ _ _ _ _) 0 Tryz.func53 (by kernel_rfl) h
def ZdP:Env:=envA [(2,(.undef 0)::(.undef 6)::ua 10 10 ([.dead 6]))] [] [] [] []
def Zlg (Q:QD):Post:=blockK 0 (seqJ ZdP (fnAt [1,1] Tryz.f54) (endK ZdP Tryz.f54 Q))
@[irreducible] def Zc6 (Q:QD) (m0:Nat) (x1:ByteArray) (x7:LL) (x8 x9:Int) (y4_0:ByteArray) (y4_1:Bool):Prop :=
 iter (adj (ZdP.adj 2)) (evCode ZdP (fnAt [1,0,1,0,0] Tryz.f54)) (Zlg Q) m0 ⟨.undef::(.v .str (V.s x1))::sk 2 ((.ptr (.loc 4) 0)::.skip::.undef::(.v (.sl Z2) (V.l x7))::(.v (.int .i64) (V.i x8))::(.v (.int .i64) (V.i x9))::un 10 (sk 2 ([]))),dd 4 ((.cells [.v .str (V.s y4_0),.v .bool (V.b y4_1),.nil])::dd 17 ([]))⟩ []
def Zlu (Q:QD) (m0:Nat) (x1:ByteArray) (x7:LL) (x8 x9:Int) (y4_0:ByteArray) (y4_1:Bool):Prop :=
 iff (decide (x9<x8)) (0≤x9∧x9<x7.length∧iff (((((x7.getD x9.toNat []).drop 0).headD V.none).str).toList == x1.toList) ((True∧True∧True∧True)∧Q (.agg [.v .str ((((x7.getD x9.toNat []).drop 0).tail).headD V.none),.v .bool (((((x7.getD x9.toNat []).drop 0).tail).tail).headD V.none),.v (.sl Za) ((((((x7.getD x9.toNat []).drop 0).tail).tail).tail).headD V.none)]) []) (Zc6 Q m0 x1 x7 x8 (IntKind.i64.wrap (x9+(1:Int))) y4_0 y4_1)) ((True∧True∧True∧True)∧Q (.agg [.v .str (V.s x1),.v .bool (V.b true),.nil]) [])
theorem ZjS (Q:QD) (m0:Nat) (x1:ByteArray) (x7:LL) (x8 x9:Int) (y4_0:ByteArray) (y4_1:Bool):Zc6 Q (m0+1) x1 x7 x8 x9 y4_0 y4_1=Zlu Q m0 x1 x7 x8 x9 y4_0 y4_1:=by kernel_rfl
theorem ZjF (Q:QD) (x1:ByteArray) (x7:LL) (y4_0:ByteArray) (y4_1:Bool) (n:Nat) (hb:n≤big) (J:Nat→Prop)
  (step:∀ (k:Nat),k<n→J k→∀ K:Prop,(J (k+1)→K)→(0≤(k:Int)∧(k:Int)<x7.length∧iff (((((x7.getD k []).drop 0).headD V.none).str).toList == x1.toList) ((True∧True∧True∧True)∧Q (.agg [.v .str ((((x7.getD k []).drop 0).tail).headD V.none),.v .bool (((((x7.getD k []).drop 0).tail).tail).headD V.none),.v (.sl Za) ((((((x7.getD k []).drop 0).tail).tail).tail).headD V.none)]) []) (K)))
  (last:J n→((True∧True∧True∧True)∧Q (.agg [.v .str (V.s x1),.v .bool (V.b true),.nil]) []))
  (k:Nat) (le0:k≤n) (hj:J k):∃ m0,Zc6 Q m0 x1 x7 (n:Int) ((k:Int)) y4_0 y4_1:=by
 exact rangeG0 n hb J (fun m0 i=>Zc6 Q m0 x1 x7 (n:Int) i y4_0 y4_1) (fun m0 i=>ZjS Q m0 x1 x7 (n:Int) i y4_0 y4_1) (fun k hl_ hj_ m_ ih_=>step k hl_ hj_ _ ih_) last k le0 hj
def Zl5 (a0:LL) (a1:ByteArray) (Q:QD):Prop :=
 (a0.length≤big→∃ m0,Zc6 Q m0 a1 a0 ((a0.length:Int)) 0 (ByteArray.mk #[]) false)
theorem ZmD (a0:LL) (a1:ByteArray) (Q:QD) (h:Zl5 a0 a1 Q):cl ZeM [.v (.sl Z2) (V.l a0),.v .str (V.s a1)] [] Q :=
 acalls2 (E:=ZdP) (envOk _ _ _ _ _) 0 Tryz.func54 (by kernel_rfl) h
def Zj0:Env:=envA [] [] [] [] []
def ZgP (a0:LL) (Q:QD):Prop :=
 cl ZP [.v (.sl ZY) (V.l a0),.fn ZW []] [] fun r1 H2=>r1=(.v .bool (r1.V))∧H2=[]∧iff r1.V.bool (True∧Q (.v (.int .i64) (V.i 4)) []) (cl ZP [.v (.sl ZY) (V.l a0),.fn ZX []] [] fun r3 H4=>r3=(.v .bool (r3.V))∧H4=[]∧iff r3.V.bool (True∧Q (.v (.int .i64) (V.i 2)) []) (True∧Q (.v (.int .i64) (V.i 0)) []))
theorem Zlh (a0:LL) (Q:QD) (h:ZgP a0 Q):cl Zfk [.v (.sl ZY) (V.l a0)] [] Q :=
 acalls2 (E:=Zj0) (envOk _ _ _ _ _) 0 Tryz.func55 (by kernel_rfl) h
def Zak:Env:=envA [(7,ua 0 2 (ua 4 4 (ua 10 10 ((.undef 39)::ua 42 15 ((.dead 11)::(.dead 46)::da 54 2 ([.ownT 9 58 Zk]))))))] [(4,15,[],[])] [] [(11,[⟨11,1,46⟩])] []
def Zfs (Q:QD):Post:=blockK 0 (seqJ Zak (fnAt [1,1,1,1,1] Tryz.f56) (endK Zak Tryz.f56 Q))
@[irreducible] def Zaf (Q:QD) (m0:Nat) (x9n:Nat) (x40 x41:Int) (y3_0:ByteArray) (y3_1:Int) (y58:LL):Prop :=
 iter (adj (Zak.adj 7)) (evCode Zak (fnAt [1,1,1,1,0,1,0,0] Tryz.f56)) (Zfs Q) m0 ⟨un 2 (.skip::(.ptr (.loc 3) 0)::un 4 (.skip::(.osl (.loc 58) x9n)::un 10 (sk 19 (.undef::(.v (.int .i64) (V.i x40))::(.v (.int .i64) (V.i x41))::un 15 ([.skip]))))),dd 3 ((.cells [.v .str (V.s y3_0),.v (.int .i64) (V.i y3_1)])::dd 54 ([.row Zk y58]))⟩ []
def Zfu (Q:QD) (m0:Nat) (x9n:Nat) (x40 x41:Int) (y3_0:ByteArray) (y3_1:Int) (y58:LL):Prop :=
 iff (decide (x41<x40)) (0≤y3_1∧y3_1=y3_1∧y3_1≤lim∧(zeroRow [.int .i64] y3_1.toNat).length=y3_1.toNat∧0≤x41∧x41<y3_1.toNat∧(zeroRow [.int .i64] y3_1.toNat).length=y3_1.toNat∧x41.toNat<y3_1.toNat∧y3_1.toNat=((zeroRow [.int .i64] y3_1.toNat).set x41.toNat (setV ((zeroRow [.int .i64] y3_1.toNat).getD x41.toNat []) 0 [V.i 1])).length∧y58.length=x9n∧x9n+([[V.i 1,V.l ((zeroRow [.int .i64] y3_1.toNat).set x41.toNat (setV ((zeroRow [.int .i64] y3_1.toNat).getD x41.toNat []) 0 [V.i 1]))]]).length≤lim∧Zaf Q m0 (x9n+([[V.i 1,V.l ((zeroRow [.int .i64] y3_1.toNat).set x41.toNat (setV ((zeroRow [.int .i64] y3_1.toNat).getD x41.toNat []) 0 [V.i 1]))]]).length) x40 (IntKind.i64.wrap (x41+(1:Int))) y3_0 y3_1 (y58++([[V.i 1,V.l ((zeroRow [.int .i64] y3_1.toNat).set x41.toNat (setV ((zeroRow [.int .i64] y3_1.toNat).getD x41.toNat []) 0 [V.i 1]))]]))) (((x9n=y58.length)∧True∧True)∧Q (.tup [.v (.sl Zk) (V.l y58),.v .bool (V.b true)]) [])
theorem ZeY (Q:QD) (m0:Nat) (x9n:Nat) (x40 x41:Int) (y3_0:ByteArray) (y3_1:Int) (y58:LL):Zaf Q (m0+1) x9n x40 x41 y3_0 y3_1 y58=Zfu Q m0 x9n x40 x41 y3_0 y3_1 y58:=by kernel_rfl
theorem ZeG (Q:QD) (y3_0:ByteArray) (y3_1:Int) (n:Nat) (hb:n≤big) (J:Nat→Nat→LL→Prop)
  (step:∀ (k:Nat) (x9n:Nat) (y58:LL),k<n→J k x9n y58→∀ K:Nat→LL→Prop,(∀ (x9n':Nat) (y58':LL),J (k+1) x9n' y58'→K x9n' y58')→(0≤y3_1∧y3_1=y3_1∧y3_1≤lim∧(zeroRow [.int .i64] y3_1.toNat).length=y3_1.toNat∧0≤(k:Int)∧(k:Int)<y3_1.toNat∧(zeroRow [.int .i64] y3_1.toNat).length=y3_1.toNat∧k<y3_1.toNat∧y3_1.toNat=((zeroRow [.int .i64] y3_1.toNat).set k (setV ((zeroRow [.int .i64] y3_1.toNat).getD k []) 0 [V.i 1])).length∧y58.length=x9n∧x9n+([[V.i 1,V.l ((zeroRow [.int .i64] y3_1.toNat).set k (setV ((zeroRow [.int .i64] y3_1.toNat).getD k []) 0 [V.i 1]))]]).length≤lim∧K (x9n+([[V.i 1,V.l ((zeroRow [.int .i64] y3_1.toNat).set k (setV ((zeroRow [.int .i64] y3_1.toNat).getD k []) 0 [V.i 1]))]]).length) (y58++([[V.i 1,V.l ((zeroRow [.int .i64] y3_1.toNat).set k (setV ((zeroRow [.int .i64] y3_1.toNat).getD k []) 0 [V.i 1]))]]))))
  (last:∀ (x9n:Nat) (y58:LL),J n x9n y58→(((x9n=y58.length)∧True∧True)∧Q (.tup [.v (.sl Zk) (V.l y58),.v .bool (V.b true)]) []))
  (k:Nat) (x9n:Nat) (y58:LL) (le0:k≤n) (hj:J k x9n y58):∃ m0,Zaf Q m0 x9n (n:Int) ((k:Int)) y3_0 y3_1 y58:=by
 exact rangeG2 n hb J (fun m0 i x9n y58=>Zaf Q m0 x9n (n:Int) i y3_0 y3_1 y58) (fun m0 i x9n y58=>ZeY Q m0 x9n (n:Int) i y3_0 y3_1 y58) (fun k x9n y58 hl_ hj_ m_ ih_=>step k x9n y58 hl_ hj_ _ ih_) last k x9n y58 le0 hj
def Zd0 (a0:LL) (a1_0:ByteArray) (a1_1:Int) (Q:QD):Prop :=
 cl Zab [.v (.sl Zg) (V.l a0),.v .str (V.s a1_0),.fn ZO []] [] fun r1 H2=>r1=(.tup [.v (.int .i64) ((r1.parts.headD .undef).V),.v .bool ((r1.parts.tail.headD .undef).V)])∧H2=[]∧iff (((r1.parts.tail.headD .undef).V).bool) (0≤(((r1.parts.headD .undef).V).int)∧(((r1.parts.headD .undef).V).int)<a0.length∧iff (((((((a0.getD ((((r1.parts.headD .undef).V).int)).toNat []).drop 1).headD V.none).list).length:Int)) == (0:Int)) ((True∧True∧True)∧Q (.tup [.v (.sl Zk) (((a0.getD ((((r1.parts.headD .undef).V).int)).toNat []).drop 1).headD V.none),.v .bool (V.b true)]) []) (0≤(0:Int)∧(0:Int)<((((a0.getD ((((r1.parts.headD .undef).V).int)).toNat []).drop 1).headD V.none).list).length∧(True∧True∧True)∧Q (.tup [.v (.sl Zk) (((a0.getD ((((r1.parts.headD .undef).V).int)).toNat []).drop 1).headD V.none),.v .bool (V.b (((((((((((a0.getD ((((r1.parts.headD .undef).V).int)).toNat []).drop 1).headD V.none).list).getD ((0:Int)).toNat []).drop 1).headD V.none).list).length:Int)) == a1_1))]) [])) (∃ m0,Zaf Q m0 0 a1_1 0 a1_0 a1_1 (([]:List (List V))))
theorem Zgp (a0:LL) (a1_0:ByteArray) (a1_1:Int) (Q:QD) (h:Zd0 a0 a1_0 a1_1 Q):cl Zu [.v (.sl Zg) (V.l a0),.agg [.v .str (V.s a1_0),.v (.int .i64) (V.i a1_1)]] [] Q :=
 acalls2 (E:=Zak) (envOk _ _ _ _ _) 1 Tryz.func56 (by kernel_rfl) h
def ZbO:Env:=envA [] [] [] [] []
def Zas (a0:LL) (h0_0:Int) (Q:QD):Prop :=
 cl ZbE [.v (.sl Zk) (V.l a0),.fn ZR [.ptr (.own 0) 0]] [.cells [.v (.int .i64) (V.i h0_0)]] fun r1 H2=>r1=(.v (.int .i64) (r1.V))∧H2=[.cells [.v (.int .i64) ((((H2.headD .dead).cs).headD .undef).V)]]∧True∧Q (.v .bool (V.b (decide (r1.V.int≥(0:Int))))) [.cells [.v (.int .i64) ((((H2.headD .dead).cs).headD .undef).V)]]
theorem Zcc (a0:LL) (h0_0:Int) (Q:QD) (h:Zas a0 h0_0 Q):cl Za6 [.v (.sl Zk) (V.l a0),.fn ZR [.ptr (.own 0) 0]] [.cells [.v (.int .i64) (V.i h0_0)]] Q :=
 acalls2 (E:=ZbO) (envOk _ _ _ _ _) 0 Tryz.func57 (by kernel_rfl) h
def ZV:Env:=envA [(4,ua 4 6 (ua 13 27 ((.dead 6)::da 19 2 ([.dead 28,.dead 35]))))] [(6,18,[],[])] [] [] []
def Zd9 (Q:QD):Post:=blockK 0 (seqJ ZV (fnAt [1,1,1] Tryz.f60) (endK ZV Tryz.f60 Q))
@[irreducible] def ZJ (Q:QD) (m0:Nat) (x0 x10:LL) (x11 x12:Int):Prop :=
 iter (adj (ZV.adj 4)) (evCode ZV (fnAt [1,1,0,1,0,0] Tryz.f60)) (Zd9 Q) m0 ⟨(.v (.sl Zg) (V.l x0))::(.fn Z5 [])::sk 2 (un 6 ((.v (.sl Zg) (V.l x10))::(.v (.int .i64) (V.i x11))::(.v (.int .i64) (V.i x12))::un 27 ([]))),dd 40 ([])⟩ []
def Zec (Q:QD) (m0:Nat) (x0 x10:LL) (x11 x12:Int):Prop :=
 iff (decide (x12<x11)) (0≤x12∧x12<x10.length∧(∃ r1:D,cl Z5 [.agg [.v .str (((x10.getD x12.toNat []).drop 0).headD V.none),.v (.sl Zk) ((((x10.getD x12.toNat []).drop 0).tail).headD V.none)]] [] (fun r H'=>r=(.v .str (r1.V))∧H'=[])∧(∃ r2:D,cl Zbx [.v .str (r1.V),.v .bool (V.b true)] [] (fun r H'=>r=(.v .bool (r2.V))∧H'=[])∧iff (!r2.V.bool) (True∧Q (.v (.int .i64) (V.i 4)) []) (iff (decide (x12 > (0:Int))) ((∃ r3:D,cl Z5 [.agg [.v .str (((x10.getD x12.toNat []).drop 0).headD V.none),.v (.sl Zk) ((((x10.getD x12.toNat []).drop 0).tail).headD V.none)]] [] (fun r H'=>r=(.v .str (r3.V))∧H'=[])∧0≤(IntKind.i64.wrap (x12 - (1:Int)))∧(IntKind.i64.wrap (x12 - (1:Int)))<x0.length∧cl Z5 [.agg [.v .str (((x0.getD ((IntKind.i64.wrap (x12 - (1:Int)))).toNat []).drop 0).headD V.none),.v (.sl Zk) ((((x0.getD ((IntKind.i64.wrap (x12 - (1:Int)))).toNat []).drop 0).tail).headD V.none)]] [] fun r4 H5=>r4=(.v .str (r4.V))∧H5=[]∧iff (Op.bytesLess r3.V.str.toList r4.V.str.toList||r3.V.str.toList == r4.V.str.toList) (True∧Q (.v (.int .i64) (V.i 4)) []) (ZJ Q m0 x0 x10 x11 (IntKind.i64.wrap (x12+(1:Int)))))) (ZJ Q m0 x0 x10 x11 (IntKind.i64.wrap (x12+(1:Int)))))))) (True∧Q (.v (.int .i64) (V.i 0)) [])
theorem ZdS (Q:QD) (m0:Nat) (x0 x10:LL) (x11 x12:Int):ZJ Q (m0+1) x0 x10 x11 x12=Zec Q m0 x0 x10 x11 x12:=by kernel_rfl
theorem Zdv (Q:QD) (x0 x10:LL) (n:Nat) (hb:n≤big) (J:Nat→Prop)
  (step:∀ (k:Nat),k<n→J k→∀ K:Prop,(J (k+1)→K)→(0≤(k:Int)∧(k:Int)<x10.length∧(∃ r1:D,cl Z5 [.agg [.v .str (((x10.getD k []).drop 0).headD V.none),.v (.sl Zk) ((((x10.getD k []).drop 0).tail).headD V.none)]] [] (fun r H'=>r=(.v .str (r1.V))∧H'=[])∧(∃ r2:D,cl Zbx [.v .str (r1.V),.v .bool (V.b true)] [] (fun r H'=>r=(.v .bool (r2.V))∧H'=[])∧iff (!r2.V.bool) (True∧Q (.v (.int .i64) (V.i 4)) []) (iff (decide ((k:Int) > (0:Int))) ((∃ r3:D,cl Z5 [.agg [.v .str (((x10.getD k []).drop 0).headD V.none),.v (.sl Zk) ((((x10.getD k []).drop 0).tail).headD V.none)]] [] (fun r H'=>r=(.v .str (r3.V))∧H'=[])∧0≤(IntKind.i64.wrap ((k:Int) - (1:Int)))∧(IntKind.i64.wrap ((k:Int) - (1:Int)))<x0.length∧cl Z5 [.agg [.v .str (((x0.getD ((IntKind.i64.wrap ((k:Int) - (1:Int)))).toNat []).drop 0).headD V.none),.v (.sl Zk) ((((x0.getD ((IntKind.i64.wrap ((k:Int) - (1:Int)))).toNat []).drop 0).tail).headD V.none)]] [] fun r4 H5=>r4=(.v .str (r4.V))∧H5=[]∧iff (Op.bytesLess r3.V.str.toList r4.V.str.toList||r3.V.str.toList == r4.V.str.toList) (True∧Q (.v (.int .i64) (V.i 4)) []) (K))) (K))))))
  (last:J n→(True∧Q (.v (.int .i64) (V.i 0)) []))
  (k:Nat) (le0:k≤n) (hj:J k):∃ m0,ZJ Q m0 x0 x10 (n:Int) ((k:Int)):=by
 exact rangeG0 n hb J (fun m0 i=>ZJ Q m0 x0 x10 (n:Int) i) (fun m0 i=>ZdS Q m0 x0 x10 (n:Int) i) (fun k hl_ hj_ m_ ih_=>step k hl_ hj_ _ ih_) last k le0 hj
def ZbQ (a0:LL) (Q:QD):Prop :=
 (a0.length≤big→iff (decide (((a0.length:Int)) > (256:Int))) (True∧Q (.v (.int .i64) (V.i 3)) []) ((a0.length≤big→∃ m0,ZJ Q m0 a0 a0 ((a0.length:Int)) 0)))
theorem ZeD (a0:LL) (Q:QD) (h:ZbQ a0 Q):cl Zd5 [.v (.sl Zg) (V.l a0),.fn Z5 []] [] Q :=
 acalls2 (E:=ZV) (envOk _ _ _ _ _) 0 Tryz.func60 (by kernel_rfl) h
end Go.Proofs.YthhnadeoioeniaaGreat
