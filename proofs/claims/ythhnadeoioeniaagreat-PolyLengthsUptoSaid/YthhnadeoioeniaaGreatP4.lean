/-
  Texts AbsO of this proof, joined.
-/
import Derived.Maps.RangeRun
import Derived.Test.YthhnadeoioeniaaGreatP3
set_option linter.unusedVariables false
set_option linter.unusedSimpArgs false
namespace Go.Abs
open Go.ChangeMaps (setBlock)
variable {P:Program} {T:Tab} {S0:Sig} {o:Oper} {a:Act} {S:Sig} {st:St} {H:Heap}
structure TyRep (T:Tab) (w:World) (F:Nat→Prop) (t:TypeId) (ys:List V) (v:Value):Prop where
 size:v.cells.size=(T.get t).lf.length
 shape:shaped (T.get t).agg v
 rep:∀ j,j<(T.get t).lf.length→RepK (lfs T) w F ((T.get t).lf.getD j .oth) (ys.getD j V.none) (v.cells.getD j undef)
theorem TyRep.mono {w w':World} {F F':Nat→Prop} (hF:∀ b,F b→F' b) (hw:∀ b,F b→w'.heap[b]?=w.heap[b]?) {t:TypeId} {ys:List V} {v:Value} (h:TyRep T w F t ys v):TyRep T w' F' t ys v :=
 ⟨h.size,h.shape,fun j hj=>(h.rep j hj).mono hF hw⟩
theorem TyRep.congr {w:World} {F:Nat→Prop} {t:TypeId} {ys zs:List V} {v:Value} (h:TyRep T w F t ys v) (he:∀ j,j<(T.get t).lf.length→zs.getD j V.none=ys.getD j V.none):TyRep T w F t zs v :=
 ⟨h.size,h.shape,fun j hj=>by rw [he j hj]; exact h.rep j hj⟩
theorem TyRep.repD {t:TypeId} {ys:List V} {v:Value} (h:TyRep T S.w S.F t ys v) (hl:(T.get t).agg=false→(T.get t).lf.length=1):RepD (lfs T) S (mkVal T t (vcells (T.get t).lf ys)) v:=by
 obtain ⟨h1,h2,h3⟩:=h
 cases hag:(T.get t).agg with
 | true =>
  rw [hag] at h2
  obtain ⟨us,rfl⟩:=h2
  rw [mkVal_agg hag]
  have h1':us.toList.length=(T.get t).lf.length:=by rw [Array.length_toList]; exact h1
  have:=RepD.agg (lf:=lfs T) (S:=S) (vcells (T.get t).lf ys) us.toList (by rw [vcells_length]; exact h1'.symm) (repD_of_list (by rw [vcells_length]; exact h1'.symm) fun j hj=>by
   rw [vcells_getD (by omega)]
   have:=h3 j (by omega)
   have e:us.toList.getD j Go.undef=us.getD j Go.undef:=by simp [List.getD_eq_getElem?_getD,Array.getD_eq_getD_getElem?]
   rw [e]
   exact .v _ _ _ this)
  simpa using this
 | false =>
  rw [hag] at h2
  rw [mkVal_one hag]
  have hl1:=hl hag
  have h30:=h3 0 (by omega)
  rw [cells_of_one h2] at h30
  have:(vcells (T.get t).lf ys).headD .undef=.v ((T.get t).lf.getD 0 .oth) (ys.getD 0 V.none):=by rw [headD_getD,vcells_getD (by omega)]
  rw [this]
  exact .v _ _ _ h30
theorem TyRep.of_closed {t:TypeId} {d:D} {u:Value} {ys:List V} (hn:(T.get t).agg=false→(T.get t).lf.length=1) (h:closedT T t d=some ys) (hd:RepD (lfs T) S d u):TyRep T S.w S.F t ys u:=by
 obtain ⟨_,h1,h2,h3⟩:=closedT_spec hn h hd
 exact ⟨h1,h2,fun j hj=>(h3 j hj).1⟩
theorem TyRep.eq (hT:TabOk P T) {t:TypeId} (hf:flatKey T t=true) {u v:List V} {x y:Value} {w:World} {F:Nat→Prop} (hx:TyRep T w F t u x) (hy:TyRep T w F t v y) (d:Nat) (w':World) :
  (Op.equalIn (d+2) t x y).run P w'=.ok (keyEq (T.get t).lf u v) w' :=
 run_keyEqV (S:={ w:=w,F:=F,H:=[],mu:=[],L:=[],la:=[] }) hT hf ⟨hx.size,hx.shape,hx.rep⟩ ⟨hy.size,hy.shape,hy.rep⟩ d w'
theorem cellEq_val {w:World} {F:Nat→Prop} {k:K} (hk:k.isKey=true) {a b:V} {x y:Value} (hx:RepK (lfs T) w F k a x) (hy:RepK (lfs T) w F k b y) (h:cellEq k a b=true):x=y∧∀ n,Instr.sameBits (n+1) x x=true∧Instr.sameBits 0 x x=true:=by
 cases k with
 | int k=>cases hx; cases hy; have:=eq_of_beq h; simp [this,Instr.sameBits]
 | bool=>cases hx; cases hy; have:=eq_of_beq h; simp [this,Instr.sameBits]
 | str =>
  cases hx; cases hy
  have h':(a.str == b.str)=true:=by rw [beq_toListBytes]; exact h
  have:=(MapKept.bytes_beq _ _).1 h'
  rw [this]
  exact ⟨rfl,fun n=>⟨by simp [Instr.sameBits,MapKept.bytes_beq],by simp [Instr.sameBits,MapKept.bytes_beq]⟩⟩
 | sl _=>cases hk
 | mp _=>cases hk
 | oth=>cases hk
theorem keyEq_all:∀ (lf:List K) (u v:List V),keyEq lf u v=true→∀ j,j<lf.length→cellEq (lf.getD j .oth) (u.getD j V.none) (v.getD j V.none)=true
 | [],u,v,_,j,h=>by simp at h
 | k::lf,u,v,h,j,hj=>by
  simp only [keyEq] at h
  split at h
  ·rename_i hc
   cases j with
   | zero=>rw [headD_getD,headD_getD] at hc; exact hc
   | succ j =>
    have:=keyEq_all lf _ _ h j (by simpa using hj)
    rw [getD_tail,getD_tail] at this
    exact this
  ·cases h
theorem TyRep.same {t:TypeId} (hk:(T.get t).lf.all K.isKey=true) {u v:List V} {x y:Value} {w:World} {F:Nat→Prop} (hx:TyRep T w F t u x) (hy:TyRep T w F t v y) (h:keyEq (T.get t).lf u v=true):x=y∧Instr.sameBits 10000 x x=true:=by
 have hall:=keyEq_all _ _ _ h
 have hc:∀ j,j<(T.get t).lf.length→x.cells.getD j undef=y.cells.getD j undef∧∀ n,Instr.sameBits (n+1) (x.cells.getD j undef) (x.cells.getD j undef)=true∧Instr.sameBits 0 (x.cells.getD j undef) (x.cells.getD j undef)=true:=fun j hj=>by
  refine cellEq_val (T:=T) ?_ (hx.rep j hj) (hy.rep j hj) (hall j hj)
  have:=List.all_eq_true.1 hk ((T.get t).lf.getD j .oth) (by rw [List.getD_eq_getElem?_getD,List.getElem?_eq_getElem hj]; exact List.getElem_mem hj)
  exact this
 have h1:=hx.size; have h2:=hy.size
 have hcells:x.cells=y.cells:=by
  apply Array.ext (by omega)
  intro j hj hj'
  have:=(hc j (by omega)).1
  rw [Array.getD_eq_getD_getElem?,Array.getD_eq_getD_getElem?,Array.getElem?_eq_getElem hj,Array.getElem?_eq_getElem hj'] at this
  simpa using this
 cases hag:(T.get t).agg with
 | true =>
  have s1:=hx.shape; have s2:=hy.shape
  rw [hag] at s1 s2
  obtain ⟨us,rfl⟩:=s1
  obtain ⟨vs,rfl⟩:=s2
  have hcells:us=vs:=hcells
  subst hcells
  refine ⟨rfl,?_⟩
  simp only [Instr.sameBits,beq_self_eq_true,Bool.true_and,List.all_eq_true]
  rintro ⟨p,q⟩ hpq
  obtain ⟨i,hi⟩:=List.getElem?_of_mem hpq
  rw [List.getElem?_zip_eq_some] at hi
  obtain ⟨hi1,hi2⟩:=hi
  rw [hi1] at hi2
  cases hi2
  have hlt:i<us.size:=by
   have:=(List.getElem?_eq_some_iff.1 hi1).1
   simpa using this
  have h1':us.size=(T.get t).lf.length:=h1
  have:=((hc i (by omega)).2 9998).1
  have e:us.getD i undef=p:=by
   rw [Array.getD_eq_getD_getElem?]
   have:us[i]?=some p:=by rw [← Array.getElem?_toList]; exact hi1
   rw [this]; rfl
  have hce:(Value.agg us).cells.getD i undef=p:=e
  rw [hce] at this
  exact this
 | false =>
  have s1:=hx.shape; have s2:=hy.shape
  rw [hag] at s1 s2
  have e1:=cells_of_one s1; have e2:=cells_of_one s2
  rw [e1,e2] at hcells
  have hxy:x=y:=by simpa using hcells
  refine ⟨hxy,?_⟩
  have hn:0<(T.get t).lf.length:=by rw [← h1,e1]; simp
  have:=((hc 0 hn).2 9999).1
  rw [e1] at this
  exact this
structure MV (T:Tab) (w:World) (F:Nat→Prop) (m:MT) (ents:Array MapEntry) (clock:Nat) (xs:List (List V)):Prop where
 clk:clock=ents.size
 born:∀ (i:Nat) (x:MapEntry),ents[i]?=some x→x.born=i
 size:ents.size=xs.length
 key:∀ (i:Nat) (x:MapEntry),ents[i]?=some x→TyRep T w F m.k (xs.getD i []) x.key
 val:∀ (i:Nat) (x:MapEntry),ents[i]?=some x→TyRep T w F m.e ((xs.getD i []).drop (T.get m.k).lf.length) x.val
 len:∀ i,i<xs.length→(xs.getD i []).length=(T.get m.k).lf.length+(T.get m.e).lf.length
theorem mapFit_spec {m:MT} (h:mapFit T m=true):flatKey T m.k=true∧0<(T.get m.e).lf.length∧(T.get m.e).lf.all K.isElem=true∧(T.get m.k).agg=m.ka∧(T.get m.e).agg=m.ea:=by
 unfold mapFit at h
 simp only [Bool.and_eq_true,Nat.blt_eq] at h
 obtain ⟨⟨⟨⟨h1,h2⟩,h3⟩,h4⟩,h5⟩:=h
 refine ⟨h1,h2,h3,?_,?_⟩
 ·revert h4; cases (T.get m.k).agg <;> cases m.ka <;> simp
 ·revert h5; cases (T.get m.e).agg <;> cases m.ea <;> simp
theorem MV.of {m:MT} (hf:mapFit T m=true) {w:World} {F:Nat→Prop} {ents:Array MapEntry} {clock:Nat} {us:Nat→Nat→Value} {xs:List (List V)} (hok:MapOk m (lfs T) ents clock us) (hs:ents.size=xs.length)
  (hlen:∀ i,i<xs.length→(xs.getD i []).length=(lfs T m.k++lfs T m.e).length)
  (hr:∀ i j,i<xs.length→j<(lfs T m.k++lfs T m.e).length→RepK (lfs T) w F ((lfs T m.k++lfs T m.e).getD j .oth) ((xs.getD i []).getD j V.none) (us i j)):MV T w F m ents clock xs:=by
 obtain ⟨_,_,_,hka,hea⟩:=mapFit_spec hf
 have hlt:∀ (i:Nat) (x:MapEntry),ents[i]?=some x→i<xs.length:=fun i x hx=>by rw [← hs]; exact (Array.getElem?_eq_some_iff.1 hx).1
 refine ⟨hok.clk,hok.born,hs,fun i x hx=>⟨(hok.key i x hx).1,by rw [hka]; exact (hok.key i x hx).2,fun j hj=>?_⟩,fun i x hx=>⟨(hok.val i x hx).1,by rw [hea]; exact (hok.val i x hx).2,fun j hj=>?_⟩,fun i hi=>by rw [hlen i hi,List.length_append]⟩
 ·have h1:=hr i j (hlt i x hx) (by rw [List.length_append]; exact Nat.lt_of_lt_of_le hj (Nat.le_add_right _ _))
  rw [← hok.cells i x hx j (by rw [List.length_append]; exact Nat.lt_of_lt_of_le hj (Nat.le_add_right _ _))] at h1
  have hks:=(hok.key i x hx).1
  have e1:(lfs T m.k++lfs T m.e).getD j K.oth=(T.get m.k).lf.getD j K.oth:=by
   simp only [List.getD_eq_getElem?_getD]; rw [List.getElem?_append_left hj]
  have e2:(entCells x).getD j undef=x.key.cells.getD j undef:=by
   unfold entCells
   simp only [List.getD_eq_getElem?_getD]
   rw [List.getElem?_append_left (by simp only [Array.length_toList]; rw [hks]; exact hj),Array.getElem?_toList,Array.getD_eq_getD_getElem?]
  rw [e1,e2] at h1
  exact h1
 ·have hj':(T.get m.k).lf.length+j<(lfs T m.k++lfs T m.e).length:=by rw [List.length_append]; exact Nat.add_lt_add_left hj _
  have h1:=hr i ((T.get m.k).lf.length+j) (hlt i x hx) hj'
  rw [← hok.cells i x hx _ hj'] at h1
  have hks:=(hok.key i x hx).1
  have e1:(lfs T m.k++lfs T m.e).getD ((T.get m.k).lf.length+j) K.oth=(T.get m.e).lf.getD j K.oth:=by
   simp only [List.getD_eq_getElem?_getD]; rw [List.getElem?_append_right (Nat.le_add_right _ _)]; simp [lfs]
  have e2:(entCells x).getD ((T.get m.k).lf.length+j) undef=x.val.cells.getD j undef:=by
   unfold entCells
   simp only [List.getD_eq_getElem?_getD]
   have hks':x.key.cells.toList.length=(T.get m.k).lf.length:=by simp only [Array.length_toList]; exact hks
   rw [List.getElem?_append_right (by omega),hks',Nat.add_sub_cancel_left,Array.getElem?_toList,Array.getD_eq_getD_getElem?]
  rw [e1,e2] at h1
  rw [getD_drop]
  exact h1
theorem MV.to {m:MT} (hf:mapFit T m=true) {w:World} {F:Nat→Prop} {ents:Array MapEntry} {clock:Nat} {xs:List (List V)} (h:MV T w F m ents clock xs) :
  ∃ us,MapOk m (lfs T) ents clock us∧ents.size=xs.length∧(∀ i,i<xs.length→(xs.getD i []).length=(lfs T m.k++lfs T m.e).length) ∧
   ∀ i j,i<xs.length→j<(lfs T m.k++lfs T m.e).length→RepK (lfs T) w F ((lfs T m.k++lfs T m.e).getD j .oth) ((xs.getD i []).getD j V.none) (us i j):=by
 obtain ⟨_,_,_,hka,hea⟩:=mapFit_spec hf
 refine ⟨fun i j=>match ents[i]? with | some x=>(entCells x).getD j undef | none=>undef,⟨h.clk,h.born,fun i x hx=>⟨(h.key i x hx).size,by rw [← hka]; exact (h.key i x hx).shape⟩,fun i x hx=>⟨(h.val i x hx).size,by rw [← hea]; exact (h.val i x hx).shape⟩,fun i x hx j hj=>by simp only [hx]⟩,h.size,fun i hi=>by rw [h.len i hi,List.length_append],fun i j hi hj=>?_⟩
 have hi':i<ents.size:=by rw [h.size]; exact hi
 have hx:ents[i]?=some ents[i]:=Array.getElem?_eq_getElem hi'
 simp only [hx]
 have hks:=(h.key i _ hx).size
 have hks':ents[i].key.cells.toList.length=(T.get m.k).lf.length:=by simp only [Array.length_toList]; exact hks
 unfold entCells
 by_cases hj1:j<(T.get m.k).lf.length
 ·have h1:=(h.key i _ hx).rep j hj1
  have e1:(lfs T m.k++lfs T m.e).getD j K.oth=(T.get m.k).lf.getD j K.oth:=by
   simp only [List.getD_eq_getElem?_getD]; rw [List.getElem?_append_left hj1]
  rw [e1]
  have e2:(ents[i].key.cells.toList++ents[i].val.cells.toList).getD j undef=ents[i].key.cells.getD j undef:=by
   simp only [List.getD_eq_getElem?_getD]
   rw [List.getElem?_append_left (by omega),Array.getElem?_toList,Array.getD_eq_getD_getElem?]
  rw [e2]
  exact h1
 ·have hj2:j - (T.get m.k).lf.length<(T.get m.e).lf.length:=by rw [List.length_append] at hj; simp only [lfs] at hj; omega
  have h1:=(h.val i _ hx).rep _ hj2
  rw [getD_drop,show (T.get m.k).lf.length+(j - (T.get m.k).lf.length)=j from by omega] at h1
  have e1:(lfs T m.k++lfs T m.e).getD j K.oth=(T.get m.e).lf.getD (j - (T.get m.k).lf.length) K.oth:=by
   simp only [List.getD_eq_getElem?_getD]; rw [List.getElem?_append_right (by simp only [lfs]; omega)]
  rw [e1]
  have e2:(ents[i].key.cells.toList++ents[i].val.cells.toList).getD j undef=ents[i].val.cells.getD (j - (T.get m.k).lf.length) undef:=by
   simp only [List.getD_eq_getElem?_getD]
   rw [List.getElem?_append_right (by omega),hks',Array.getElem?_toList,Array.getD_eq_getD_getElem?]
  rw [e2]
  exact h1
def fnd (lf:List K) (key:List V):List MapEntry→List (List V)→Nat→Option (Nat×Value)
 | x::l,e::xs,i=>match keyEq lf key e with | true=>some (i,x.val) | false=>fnd lf key l xs (i+1)
 | _,_,_=>none
theorem run_asking (hT:TabOk P T) {k:TypeId} (hf:flatKey T k=true) {w w':World} {F:Nat→Prop} {ky:List V} {key:Value} (hk:TyRep T w F k ky key) :
  ∀ (l:List MapEntry) (xs:List (List V)) (i:Nat),l.length=xs.length→(∀ j x,l[j]?=some x→TyRep T w F k (xs.getD j []) x.key)→(Instr.findAsking k key l i).run P w'=.ok (fnd (T.get k).lf ky l xs i) w'
 | [],[],i,_,_=>by simp [Instr.findAsking,fnd,Sem.run_pure]
 | [],_::_,i,h,_=>by simp at h
 | _::_,[],i,h,_=>by simp at h
 | x::l,e::xs,i,hl,h=>by
  have h0:=h 0 x rfl
  simp only [List.getD_cons_zero] at h0
  have hr:=TyRep.eq hT hf hk h0 9998 w'
  simp only [Instr.findAsking,Op.equal,Op.maxDepth,Sem.run_bind,hr,Result.andThen_ok,fnd]
  cases keyEq (T.get k).lf ky e with
  | true=>simp [Sem.run_pure]
  | false =>
   have:=run_asking (w':=w') hT hf hk l xs (i+1) (by simpa using hl) (fun j x hx=>h (j+1) x hx)
   simpa using this
theorem sameNow_cell {d:TypeDesc} {w:World} {F:Nat→Prop} {k:K} (hd:(∃ q,k=.int q∧d=.int q)∨(k=.bool∧d=.bool)∨(k=.str∧d=.string)) {a b:V} {x y:Value} (hx:RepK (lfs T) w F k a x) (hy:RepK (lfs T) w F k b y) :
  Instr.sameNow d x y=some (cellEq k a b):=by
 rcases hd with ⟨q,rfl,rfl⟩ | ⟨rfl,rfl⟩ | ⟨rfl,rfl⟩
 ·cases hx; cases hy; simp [Instr.sameNow,cellEq]
 ·cases hx; cases hy; simp [Instr.sameNow,cellEq]
 ·cases hx; cases hy; simp [Instr.sameNow,cellEq,beq_toListBytes]
theorem find_now {d:TypeDesc} {k:TypeId} {kd:K} (hd:(∃ q,kd=.int q∧d=.int q)∨(kd=.bool∧d=.bool)∨(kd=.str∧d=.string)) (hlf:(T.get k).lf=[kd]) (hag:(T.get k).agg=false) {w:World} {F:Nat→Prop} {ky:List V} {key:Value} (hk:TyRep T w F k ky key) :
  ∀ (l:List MapEntry) (xs:List (List V)) (i:Nat),l.length=xs.length→(∀ j x,l[j]?=some x→TyRep T w F k (xs.getD j []) x.key)→Instr.findNow d key l i=some (fnd (T.get k).lf ky l xs i)
 | [],[],i,_,_=>rfl
 | [],_::_,i,h,_=>by simp at h
 | _::_,[],i,h,_=>by simp at h
 | x::l,e::xs,i,hl,h=>by
  have h0:=h 0 x rfl
  simp only [List.getD_cons_zero] at h0
  have k1:=hk.shape; have k2:=h0.shape
  rw [hag] at k1 k2
  have r1:=hk.rep 0 (by rw [hlf]; simp); have r2:=h0.rep 0 (by rw [hlf]; simp)
  rw [cells_of_one k1] at r1; rw [cells_of_one k2] at r2
  rw [hlf] at r1 r2
  have r1:RepK (lfs T) w F kd (ky.getD 0 V.none) key:=r1
  have r2:RepK (lfs T) w F kd (e.getD 0 V.none) x.key:=r2
  have hs:=sameNow_cell hd r1 r2
  simp only [Instr.findNow,hs,fnd]
  have hke:keyEq (T.get k).lf ky e=cellEq kd (ky.getD 0 V.none) (e.getD 0 V.none):=by
   rw [hlf]; simp only [keyEq,headD_getD]
   cases cellEq kd (ky.getD 0 V.none) (e.getD 0 V.none) <;> rfl
  rw [hke]
  cases cellEq kd (ky.getD 0 V.none) (e.getD 0 V.none) with
  | true=>rfl
  | false=>exact find_now hd hlf hag hk l xs (i+1) (by simpa using hl) (fun j x hx=>h (j+1) x hx)
theorem kd_desc (hT:TabOk P T) {k:TypeId} (hk:(T.get k).kd.isKey=true):∃ d,P.underlying k=some d∧((∃ q,(T.get k).kd=.int q∧d=.int q)∨((T.get k).kd=.bool∧d=.bool)∨((T.get k).kd=.str∧d=.string)):=by
 cases h:(T.get k).kd with
 | int q=>exact ⟨_,hT.get_int h,.inl ⟨q,rfl,rfl⟩⟩
 | bool=>exact ⟨_,hT.get_bool h,.inr (.inl ⟨rfl,rfl⟩)⟩
 | str=>exact ⟨_,hT.get_str h,.inr (.inr ⟨rfl,rfl⟩)⟩
 | sl _=>rw [h] at hk; cases hk
 | mp _=>rw [h] at hk; cases hk
 | oth=>rw [h] at hk; cases hk
theorem run_find (hT:TabOk P T) {k:TypeId} (hf:flatKey T k=true) {w w':World} {F:Nat→Prop} {ky:List V} {key:Value} (hk:TyRep T w F k ky key) (l:List MapEntry) (xs:List (List V)) (hl:l.length=xs.length)
  (h:∀ j x,l[j]?=some x→TyRep T w F k (xs.getD j []) x.key):(Instr.findKey k key l).run P w'=.ok (fnd (T.get k).lf ky l xs 0) w':=by
 obtain ⟨hn,hkk,hcase⟩:=flatKey_spec hf
 rcases hcase with ⟨hag,hlf⟩ | ⟨n,e,hag,har,hea,hel,hlf⟩
 ·obtain ⟨d,hd,hd2⟩:=kd_desc hT (k:=k) (by rw [hlf] at hkk; simpa using hkk)
  simp only [Instr.findKey,Sem.run_bind,run_underlying hd,Result.andThen_ok,find_now hd2 hlf hag hk l xs 0 hl h]
  rfl
 ·have hu:=hT.get_ar har
  simp only [Instr.findKey,Sem.run_bind,run_underlying hu,Result.andThen_ok]
  cases l with
  | nil =>
   cases xs with
   | nil=>rfl
   | cons _ _=>simp at hl
  | cons x l =>
   have:Instr.findNow (.array n e) key (x::l) 0=none:=by simp [Instr.findNow,Instr.sameNow]
   rw [this]
   exact run_asking hT hf hk (x::l) xs 0 hl h
theorem run_check (hT:TabOk P T) {k:TypeId} (hf:flatKey T k=true) {w w':World} {F:Nat→Prop} {ky:List V} {key:Value} (hk:TyRep T w F k ky key) (em:Bool):(Instr.checkKey em 10000 k key).run P w'=.ok () w':=by
 obtain ⟨hn,hkk,hcase⟩:=flatKey_spec hf
 have plain:∀ (t:TypeId) (x:Value) (n:Nat) (w:World),(T.get t).kd.isKey=true→(∃ a,RepK (lfs T) (F:=F) w (T.get t).kd a x)→(Instr.checkKey em (n+1) t x).run P w'=.ok () w':=fun t x n w ht ⟨a,hx⟩=>by
  obtain ⟨d,hd,hd2⟩:=kd_desc hT ht
  refine MapKept.run_checkKey hd ?_ em n
  rcases hd2 with ⟨q,h1,rfl⟩ | ⟨h1,rfl⟩ | ⟨h1,rfl⟩ <;> rw [h1] at hx <;> cases hx <;> simp [MapKept.IsKey]
 rcases hcase with ⟨hag,hlf⟩ | ⟨n,e,hag,har,hea,hel,hlf⟩
 ·have k1:=hk.shape
  rw [hag] at k1
  have r1:=hk.rep 0 hn
  rw [cells_of_one k1,hlf] at r1
  exact plain k key 9999 w (by rw [hlf] at hkk; simpa using hkk) ⟨_,r1⟩
 ·have hu:=hT.get_ar har
  have k1:=hk.shape
  rw [hag] at k1
  obtain ⟨xs,rfl⟩:=k1
  have hen:0<(T.get e).lf.length:=by rw [hel]; simp
  obtain ⟨hok,ht⟩:=hT.get hen
  obtain ⟨i,z,hi,_⟩:=hok.info
  rw [ht] at hi
  have hnn:(T.get k).lf.length=n:=by rw [hlf]; simp
  have hkd:(T.get e).kd.isKey=true:=List.all_eq_true.1 hkk ((T.get e).kd) (by rw [hlf]; exact List.mem_replicate.2 ⟨by omega,rfl⟩)
  have hp:=kind_plain hT (e:=e) rfl hkd
  have hce:P.cellsOf e=1:=by rw [hT.cells' hen,hel]; rfl
  have hxs:xs.size=n:=by rw [← hnn]; exact hk.size
  rw [show (10000:Nat)=9999+1 from rfl,Instr.checkKey]
  simp only [Sem.run_bind,run_underlying hu,Result.andThen_ok]
  simp only [Std.Legacy.Range.forIn_eq_forIn_range',Std.Legacy.Range.size,Nat.sub_zero,Nat.add_one_sub_one,Nat.div_one]
  have go:∀ (is:List Nat),(∀ j∈is,j<n)→(forIn is PUnit.unit (fun j _=>(do Instr.checkKey em 9999 e (← part e xs (j*(← sizeOf e))); pure (ForInStep.yield PUnit.unit):Sem (ForInStep PUnit)))).run P w'=.ok PUnit.unit w':=by
   intro is
   induction is with
   | nil=>intro _; simp [Sem.run_pure]
   | cons j is ih =>
    intro hj
    have hjn:=hj j (List.mem_cons_self)
    have hx:xs[j]?=some (xs.getD j undef):=by rw [Array.getD_eq_getD_getElem?,Array.getElem?_eq_getElem (by omega)]; rfl
    have r:=hk.rep j (by omega)
    rw [show (T.get k).lf.getD j .oth=(T.get e).kd from by rw [hlf,List.getD_eq_getElem?_getD,List.getElem?_replicate,if_pos hjn]; rfl] at r
    have hc:=plain e (xs.getD j undef) 9998 w hkd ⟨_,r⟩
    simp only [List.forIn_cons,Sem.run_bind,run_sizeOf w' hi,hce,Nat.mul_one,run_part_plain w' hp hx,Result.andThen_ok,hc,Sem.run_pure]
    exact ih fun k hk=>hj k (List.mem_cons_of_mem _ hk)
  have:=go (List.range' 0 n 1) (fun j hj=>by
   have:=List.mem_range'_1.1 hj
   omega)
  simp at this ⊢
  rw [this]
  rfl
theorem fnd_spec (lf:List K) (n:Nat) (hn:lf.length=n) (key:List V):∀ (l:List MapEntry) (xs:List (List V)) (i:Nat),l.length=xs.length →
  (fnd lf key l xs i=none∧mlook lf key xs=none∧(∀ val,mset lf key val xs=xs++[key++val])) ∨
  ∃ j x,j<xs.length∧l[j]?=some x∧fnd lf key l xs i=some (i+j,x.val)∧keyEq lf key (xs.getD j [])=true∧mlook lf key xs=some ((xs.getD j []).drop n)∧(∀ val,mset lf key val xs=xs.set j (key++val))
 | [],[],i,_=>.inl ⟨rfl,rfl,fun _=>rfl⟩
 | [],_::_,i,h=>by simp at h
 | _::_,[],i,h=>by simp at h
 | x::l,e::xs,i,h=>by
  cases hk:keyEq lf key e with
  | true=>exact .inr ⟨0,x,by simp,rfl,by simp [fnd,hk],hk,by simp [mlook,hk,hn],fun val=>by simp [mset,hk]⟩
  | false =>
   rcases fnd_spec lf n hn key l xs (i+1) (by simpa using h) with ⟨h1,h2,h3⟩ | ⟨j,y,h0,h1,h2,h3,h4,h5⟩
   ·exact .inl ⟨by simp [fnd,hk,h1],by simp [mlook,hk,h2],fun val=>by simp [mset,hk,h3]⟩
   ·exact .inr ⟨j+1,y,by simpa using h0,h1,by simp [fnd,hk,h2]; omega,h3,by simp [mlook,hk,h4],fun val=>by simp [mset,hk,h5]⟩
theorem srcMap_spec {m:MT} {x:D} {u:Value} {k:List (List V)→Prop} (hf:mapFit T m=true) (hrel:Rel (lfs T) st H a S) (hx:RepD (lfs T) S x u) (h:srcMap m st H x k) :
  ∃ xs,k xs∧((u=.map none∧xs=[])∨∃ b ents clock,u=.map (some b)∧S.w.heap[b]?=some (.map ents clock)∧MV T S.w S.F m ents clock xs):=by
 unfold srcMap at h
 split at h
 ·rename_i m' y
  split at h
  ·rename_i hm
   have hm':m=m':=by simpa using hm
   subst hm'
   refine ⟨_,h,?_⟩
   cases hx with
   | v _ _ _ hk =>
    cases hk with
    | mp0 _ _ h0=>exact .inl ⟨rfl,h0⟩
    | mp _ _ b clock ents us hF hh hok hsz hlen hr=>exact .inr ⟨b,ents,clock,rfl,hh,MV.of hf hok hsz hlen hr⟩
  ·exact h.elim
 ·rename_i r
  obtain ⟨xs,h2,h3⟩:=withMap_spec h
  have ho':S.obj r=.map m xs:=by rw [hrel.getO_obj]; exact h2
  obtain ⟨b,c,clock,ents,us,hb,hh,hok,hsz,hlen,hr⟩:=hrel.wf.map ho'
  refine ⟨xs,h3,.inr ⟨b,ents,clock,?_,hh,MV.of hf hok hsz hlen hr⟩⟩
  cases hx with
  | mp _ _ _ hv=>exact hv m xs ho' _ hb
 ·exact h.elim
theorem zeroV_rep' {lf:TypeId→List K} {S:Sig} {k:K} {u:Value} (hk:k.isElem=true) (h:RepD lf S (zeroD k) u):RepK lf S.w S.F k (zeroV k) u:=zeroV_rep (by cases k <;> simp_all [K.isElem,K.isData]) h
theorem elem_agg (hT:TabOk P T) {m:MT} (hf:mapFit T m=true):(T.get m.e).agg=false→(T.get m.e).lf.length=1:=fun h=>(hT.get (mapFit_spec hf).2.1).1.one h
theorem ok_makeMap (hT:TabOk P T) (t:TypeId) (d:Nat) (q:D→St→Heap→Prop) (ho:o.op=.makeMap t none) (hd:o.dst=some d) (hrel:Rel (lfs T) st H a S) (hinv:Inv S0 S)
  (h:evMakeMap T t d st H q):OpOk P T S0 o a S q:=by
 unfold evMakeMap at h
 split at h
 ·rename_i m hm
  intro next Q hnext
  obtain ⟨h1,h2⟩:=Rel.newLoc hrel hinv d (.map m []) (some (S.w.heap.size,0)) (S.w.alloc (.map #[] 0)) (by rw [alloc_size]; omega) (alloc_old _ _) rfl rfl rfl
   (fun x hx=>by cases hx; exact ⟨Nat.le_refl _,by rw [alloc_size]; exact Nat.lt_succ_self _⟩)
   ⟨S.w.heap.size,0,0,#[],fun _ _=>undef,rfl,alloc_new _ _,⟨rfl,fun i x hx=>by simp at hx,fun i x hx=>by simp at hx,fun i x hx=>by simp at hx,fun i x hx=>by simp at hx⟩,rfl,fun i hi=>by simp at hi,fun i j hi=>by simp at hi⟩
  unfold Oper.wp
  have hrun:(execOp a.eval o).run P S.w=.ok (.value (.map (some S.w.heap.size))) (S.w.alloc (.map #[] 0)):=by
   simp only [execOp,ho,Instr.makeMap]
   simp [Sem.run_bind,Sem.run_pure,newObj]
  rw [hrun]
  refine hnext _ _ _ H _ h h1 h2 (.mp _ _ ⟨trivial,rfl⟩ fun m' xs h3 bc h4=>?_)
  rcases newSig_obj hrel.wf d (.map m []) (some (S.w.heap.size,0)) (S.w.alloc (.map #[] 0)) (.loc d) with ⟨_,_,_,h6⟩ | ⟨h5,_,h6⟩ | ⟨⟨k,hk⟩,_⟩
  ·rw [h6] at h4; cases h4; rfl
  ·rw [h6] at h4
   have:=h5 rfl
   have h7:S.la.getD d none=none:=by
    rw [List.getD_eq_getElem?_getD,List.getElem?_eq_none (by rw [hrel.wf.lalen]; omega)]; rfl
   rw [show S.blk (.loc d)=none from h7] at h4
   cases h4
  ·cases hk
 ·exact h.elim
theorem ok_lookup (hT:TabOk P T) (t:TypeId) (x i:Operand) (ok:Bool) (q:D→St→Heap→Prop) (ho:o.op=.lookup t x i ok) (hrel:Rel (lfs T) st H a S) (hinv:Inv S0 S)
  (h:evLookup T t ok (st.eval x) (st.eval i) st H fun d=>q d st H):OpOk P T S0 o a S q:=by
 have hx:=hrel.eval x
 have hi:=hrel.eval i
 unfold evLookup at h
 split at h
 ·exact h.elim
 ·rename_i m hm
  split at h
  ·rename_i key hf hc
   obtain ⟨f1,f2,f3,f4,f5⟩:=mapFit_spec hf
   have hk:=TyRep.of_closed (flat_one hT f1) hc hi
   have hu:=(hT.get_mp hm).1
   obtain ⟨xs,h1,h2⟩:=srcMap_spec hf hrel hx h
   obtain ⟨hok,ht⟩:=hT.get f2
   obtain ⟨z,hz,hzs,hzr⟩:=hok.zero
   rw [ht] at hz
   have hzt:TyRep T S.w S.F m.e ((T.get m.e).lf.map zeroV) z:=by
    refine ⟨hzs,?_,fun j hj=>?_⟩
    ·exact hok.zshape z S.w (by rw [ht]; exact hz S.w)
    ·obtain ⟨r1,_⟩:=hzr (lfs T) S j hj
     have hk1:=List.all_eq_true.1 f3 ((T.get m.e).lf.getD j .oth) (by rw [List.getD_eq_getElem?_getD,List.getElem?_eq_getElem hj]; exact List.getElem_mem hj)
     have:=zeroV_rep' hk1 r1
     have e1:((T.get m.e).lf.map zeroV).getD j V.none=zeroV ((T.get m.e).lf.getD j .oth):=by simp [List.getD_eq_getElem?_getD,List.getElem?_map,List.getElem?_eq_getElem hj]
     rw [e1]; exact this
   have main:∃ v:Value,TyRep T S.w S.F m.e (mget (T.get m.k).lf ((T.get m.e).lf.map zeroV) key xs) v∧(Instr.lookup t (a.eval x) (a.eval i) ok).run P S.w=.ok (if ok then .tuple #[v,.bool (mhas (T.get m.k).lf key xs)] else v) S.w:=by
    rcases h2 with ⟨hv,h0⟩ | ⟨b,ents,clock,hv,hh,hmv⟩
    ·refine ⟨z,by rw [h0]; exact hzt,?_⟩
     rw [hv,h0]
     have hck:=run_check (w':=S.w) hT f1 hk (#[]:Array MapEntry).isEmpty
     have hfd:=run_find (w':=S.w) hT f1 hk [] [] rfl (fun j x hx=>by simp at hx)
     simp only [Instr.lookup,Sem.run_bind,run_underlying hu,Result.andThen_ok,Sem.run_pure,hck,hfd,fnd,hz S.w]
     cases ok <;> rfl
    ·have hck:=run_check (w':=S.w) hT f1 hk ents.isEmpty
     have hl:ents.toList.length=xs.length:=by simpa using hmv.size
     have hfd:=run_find (w':=S.w) hT f1 hk ents.toList xs hl (fun j x hx=>hmv.key j x (by simpa using hx))
     rcases fnd_spec (T.get m.k).lf (T.get m.k).lf.length rfl key ents.toList xs 0 hl with ⟨e1,e2,_⟩ | ⟨j,y,e0,e1,e2,_,e4,_⟩
     ·refine ⟨z,by simp only [mget,e2]; exact hzt,?_⟩
      rw [hv]
      simp only [Instr.lookup,Sem.run_bind,run_underlying hu,Result.andThen_ok,MapKept.run_getObj_map hh,Sem.run_pure,hck,hfd,e1,hz S.w,mhas,e2]
      cases ok <;> rfl
     ·refine ⟨y.val,by simp only [mget,e4]; exact hmv.val j y (by simpa using e1),?_⟩
      rw [hv]
      simp only [Instr.lookup,Sem.run_bind,run_underlying hu,Result.andThen_ok,MapKept.run_getObj_map hh,Sem.run_pure,hck,hfd,e2,mhas,e4]
      cases ok <;> rfl
   obtain ⟨v,m1,m2⟩:=main
   have m3:=m1.repD (elem_agg hT hf)
   cases ok with
   | true =>
    refine OpOk.value hrel hinv (v:=.tuple #[v,.bool (mhas (T.get m.k).lf key xs)]) (d:=_) ?_ (.tup _ [v,.bool (mhas (T.get m.k).lf key xs)] rfl fun j=>?_) h1
    ·simp only [execOp,ho,Sem.run_bind,m2,Result.andThen_ok]
     rfl
    ·match j with
     | 0=>exact m3
     | 1=>exact RepD.mkBool _
     | j+2=>exact .undef _
   | false =>
    refine OpOk.value hrel hinv (v:=v) (d:=_) ?_ m3 h1
    simp only [execOp,ho,Sem.run_bind,m2,Result.andThen_ok]
    rfl
  ·exact h.elim
theorem setBlock_new {w:World} {b:Nat} {o o':Go.Obj} (h:w.heap[b]?=some o):(setBlock w b o').heap[b]?=some o':=(MapKept.heap_set h).1
theorem setBlock_old (w:World) (b:Nat) (o':Go.Obj) (b':Nat) (h:b'≠b):(setBlock w b o').heap[b']?=w.heap[b']?:=by simp [setBlock,Ne.symm h]
theorem setBlock_size (w:World) (b:Nat) (o':Go.Obj):(setBlock w b o').heap.size=w.heap.size:=by simp [setBlock]
theorem ok_mapUpdate (hT:TabOk P T) (t:TypeId) (x i v:Operand) (q:D→St→Heap→Prop) (ho:o.op=.mapUpdate t x i v∨o.op=.insert t x i v) (hrel:Rel (lfs T) st H a S) (hinv:Inv S0 S)
  (h:evMapUpdate T t (st.eval x) (st.eval i) (st.eval v) st H fun st H=>q .skip st H):OpOk P T S0 o a S q:=by
 have hx:=hrel.eval x
 have hi:=hrel.eval i
 have hv:=hrel.eval v
 unfold evMapUpdate at h
 split at h
 ·rename_i m r hm hxr
  rw [hxr] at hx
  split at h
  ·rename_i key val hf hck hcv
   obtain ⟨f1,f2,f3,f4,f5⟩:=mapFit_spec hf
   have hk:=TyRep.of_closed (flat_one hT f1) hck hi
   have hvl:=TyRep.of_closed (elem_agg hT hf) hcv hv
   have hkl:=(closedT_spec (flat_one hT f1) hck hi).1
   have hvlen:=(closedT_spec (elem_agg hT hf) hcv hv).1
   have hu:=(hT.get_mp hm).1
   obtain ⟨xs,h2,h3⟩:=withMap_spec h
   have ho':S.obj r=.map m xs:=by rw [hrel.getO_obj]; exact h2
   obtain ⟨b,c,clock,ents,us,hb,hh,hok,hsz,hlen,hr⟩:=hrel.wf.map ho'
   have hmv:=MV.of hf hok hsz hlen hr
   have hev:a.eval x=.map (some b):=by
    generalize a.eval x=u at hx
    cases hx with
    | mp _ _ _ hv=>exact hv m xs ho' _ hb
   have hhas:S.has r:=Sig.has_of (by rw [ho']; intro h; cases h)
   have hl:ents.toList.length=xs.length:=by simpa using hmv.size
   have hchk:=run_check (w':=S.w) hT f1 hk false
   have hfd:=run_find (w':=S.w) hT f1 hk ents.toList xs hl (fun j x hx=>hmv.key j x (by simpa using hx))
   have hkv:∀ j,j<(T.get m.k).lf.length→(key++val).getD j V.none=key.getD j V.none:=fun j hj=>by
    simp only [List.getD_eq_getElem?_getD]; rw [List.getElem?_append_left (by omega)]
   have hvv:((key++val).drop (T.get m.k).lf.length)=val:=by rw [← hkl]; simp
   -- the new entries
   have main:∃ ents' clock',MV T S.w S.F m ents' clock' (mset (T.get m.k).lf key val xs)∧(Instr.mapUpdate t (.map (some b)) (a.eval i) (a.eval v)).run P S.w=.ok () (setBlock S.w b (.map ents' clock')):=by
    rcases fnd_spec (T.get m.k).lf (T.get m.k).lf.length rfl key ents.toList xs 0 hl with ⟨e1,_,e3⟩ | ⟨j,y,e0,e1,e2,e3,_,e5⟩
    ·refine ⟨ents.push { key:=a.eval i,val:=a.eval v,born:=clock },clock+1,?_,?_⟩
     ·rw [e3]
      have hsz':=hmv.size
      have gd:∀ i,i<xs.length→(xs++[key++val]).getD i []=xs.getD i []:=fun i hi=>by
       simp only [List.getD_eq_getElem?_getD]; rw [List.getElem?_append_left hi]
      have gl:(xs++[key++val]).getD xs.length []=key++val:=by
       simp [List.getD_eq_getElem?_getD]
      have cs:∀ (i:Nat) (x:MapEntry),(ents.push { key:=a.eval ‹Operand›,val:=a.eval v,born:=clock })[i]?=some x→True:=fun _ _ _=>trivial
      refine ⟨by rw [Array.size_push,hmv.clk],fun i' x' hx'=>?_,by simp [hsz'],fun i' x' hx'=>?_,fun i' x' hx'=>?_,fun i' hi'=>?_⟩
      ·rw [Array.getElem?_push] at hx'
       split at hx'
       ·cases hx'; simp only [hmv.clk]; omega
       ·exact hmv.born i' x' hx'
      ·rw [Array.getElem?_push] at hx'
       split at hx'
       ·rename_i he
        cases hx'
        rw [he,hsz',gl]
        exact hk.congr hkv
       ·have hlt:=(Array.getElem?_eq_some_iff.1 hx').1
        rw [gd i' (by omega)]
        exact hmv.key i' x' hx'
      ·rw [Array.getElem?_push] at hx'
       split at hx'
       ·rename_i he
        cases hx'
        rw [he,hsz',gl,hvv]
        exact hvl
       ·have hlt:=(Array.getElem?_eq_some_iff.1 hx').1
        rw [gd i' (by omega)]
        exact hmv.val i' x' hx'
      ·by_cases he:i' < xs.length
       ·rw [gd i' he]; exact hmv.len i' he
       ·have:i'=xs.length:=by simp at hi'; omega
        rw [this,gl,List.length_append,hkl,hvlen]
     ·simp only [Instr.mapUpdate,Sem.run_bind,run_underlying hu,Result.andThen_ok,MapKept.run_getObj_map hh,hchk,hfd,e1,MapKept.run_setObj_map _ hh]
      rfl
    ·have e1':ents[j]?=some y:=by simpa using e1
     refine ⟨ents.modify j fun e=>{ e with key:=a.eval i,val:=a.eval v },clock,?_,?_⟩
     ·rw [e5]
      have hjl:j<xs.length:=e0
      refine ⟨by rw [Array.size_modify]; exact hmv.clk,fun i' x' hx'=>?_,by rw [Array.size_modify,List.length_set]; exact hmv.size,fun i' x' hx'=>?_,fun i' x' hx'=>?_,fun i' hi'=>?_⟩
      ·rw [Array.getElem?_modify] at hx'
       split at hx'
       ·rename_i he
        subst he
        rw [e1'] at hx'
        cases hx'
        exact hmv.born j y e1'
       ·exact hmv.born i' x' hx'
      ·rw [Array.getElem?_modify] at hx'
       rw [set_getD_gen]
       split at hx'
       ·rename_i he
        subst he
        rw [e1'] at hx'
        cases hx'
        rw [if_pos ⟨rfl,hjl⟩]
        exact hk.congr hkv
       ·rename_i he
        rw [if_neg (fun h=>he h.1.symm)]
        exact hmv.key i' x' hx'
      ·rw [Array.getElem?_modify] at hx'
       rw [set_getD_gen]
       split at hx'
       ·rename_i he
        subst he
        rw [e1'] at hx'
        cases hx'
        rw [if_pos ⟨rfl,hjl⟩,hvv]
        exact hvl
       ·rename_i he
        rw [if_neg (fun h=>he h.1.symm)]
        exact hmv.val i' x' hx'
      ·rw [set_getD_gen]
       split
       ·rw [List.length_append,hkl,hvlen]
       ·exact hmv.len i' (by simpa using hi')
     ·have hsame:=TyRep.same (flatKey_spec f1).2.1 hk (hmv.key j y e1') e3
      have hstay:(Instr.keyThatStays (((ents[0+j]?).map (·.key)).getD (a.eval i)) (a.eval i)).run P S.w=.ok (a.eval i) S.w:=by
       rw [Nat.zero_add,e1']
       simp only [Option.map_some,Option.getD_some,← hsame.1,Instr.keyThatStays,hsame.2,if_true,Sem.run_pure]
      simp only [Instr.mapUpdate,Sem.run_bind,run_underlying hu,Result.andThen_ok,MapKept.run_getObj_map hh,hchk,hfd,e2,hstay,MapKept.run_setObj_map _ hh]
      rw [Nat.zero_add]
      rfl
   obtain ⟨ents',clock',n1,n2⟩:=main
   obtain ⟨us',o1,o2,o3,o4⟩:=n1.to hf
   have hlt:b<S.w.heap.size:=(Array.getElem?_eq_some_iff.1 hh).1
   obtain ⟨g1,g2,_⟩:=Rel.upd hrel hinv r (.map m (mset (T.get m.k).lf key val xs)) (some (b,c)) (setBlock S.w b (.map ents' clock')) hhas (by rw [setBlock_size]; exact Nat.le_refl _)
    (fun b' _ hne=>setBlock_old _ _ _ _ (fun he=>hne _ hb he.symm)) rfl rfl rfl
    (fun y hy=>by cases hy; exact ⟨.inl ⟨_,hb,rfl⟩,by rw [setBlock_size]; exact hlt⟩)
    (by
     obtain ⟨j1,j2⟩:=S.upd_at hrel.wf hhas (.map m (mset (T.get m.k).lf key val xs)) (some (b,c)) (setBlock S.w b (.map ents' clock'))
     refine ⟨fun bc j3 j4=>?_,fun e' xs' j3=>(by rw [j1] at j3; cases j3),fun m' xs' j3=>?_⟩
     ·rw [j1] at j3; cases j3
     ·rw [j1] at j3; cases j3
      exact ⟨xs,ho',by rw [j2,hb]⟩)
    (fun i hi=>trivial)
    (fun mD mK=>⟨b,c,clock',ents',us',rfl,by rw [Sig.upd_w]; exact setBlock_new hh,o1,o2,o3,fun i j hi hj=>by rw [Sig.upd_w,Sig.upd_F]; exact mK (o4 i j hi hj)⟩)
   refine skip_ok (S':=S.upd r (.map m (mset (T.get m.k).lf key val xs)) (some (b,c)) (setBlock S.w b (.map ents' clock'))) ?_ g1 g2 ?_
   ·rw [Sig.upd_w]
    rcases ho with ho | ho <;> (simp only [execOp,ho,Sem.run_bind,hev,n2,Result.andThen_ok]; rfl)
   ·cases r <;> exact h3
  ·exact h.elim
 ·exact h.elim
theorem ok_range (hT:TabOk P T) (t:TypeId) (x:Operand) (d:Nat) (q:D→St→Heap→Prop) (ho:o.op=.range t x) (hd:o.dst=some d) (hrel:Rel (lfs T) st H a S) (hinv:Inv S0 S)
  (h:evRange T t d (st.eval x) st H q):OpOk P T S0 o a S q:=by
 have hx:=hrel.eval x
 unfold evRange at h
 split at h
 ·rename_i m hm
  split at h
  ·rename_i hf hnm
   have hu:=(hT.get_mp hm).1
   obtain ⟨xs,h1,h2⟩:=srcMap_spec hf hrel hx h
   have main:∃ mb,a.eval x=.map mb∧(Instr.range t (a.eval x)).run P S.w=.ok (.pointer (some ⟨S.w.heap.size,0,none⟩)) (S.w.alloc (.mapIter mb xs.length #[] xs.length)):=by
    rcases h2 with ⟨hv,h0⟩ | ⟨b,ents,clock,hv,hh,hmv⟩
    ·exact ⟨none,hv,by rw [hv,h0]; exact run_range_nilMap S.w t m.k m.e hu⟩
    ·refine ⟨some b,hv,?_⟩
     rw [hv,run_range_map S.w t m.k m.e b ents clock hu hh,hmv.clk,hmv.size]
   obtain ⟨mb,m1,m2⟩:=main
   intro next Q hnext
   have hw:=alloc_old S.w (.mapIter mb xs.length #[] xs.length)
   have hxd:RepD (lfs T) (newSig S d (.iter m (st.eval x) xs.length []) (some (S.w.heap.size,0)) (S.w.alloc (.mapIter mb xs.length #[] xs.length))) (st.eval x) (.map mb):=by
    have:=newSig_repD hrel.wf (i:=d) (ob:=.iter m (st.eval x) xs.length []) (bc:=some (S.w.heap.size,0)) hw hx
    rw [scrub_plain hnm,m1] at this
    exact this
   obtain ⟨g1,g2⟩:=Rel.newLoc hrel hinv d (.iter m (st.eval x) xs.length []) (some (S.w.heap.size,0)) (S.w.alloc (.mapIter mb xs.length #[] xs.length)) (by rw [alloc_size]; omega) hw rfl rfl rfl
    (fun x hx=>by cases hx; exact ⟨Nat.le_refl _,by rw [alloc_size]; exact Nat.lt_succ_self _⟩)
    ⟨S.w.heap.size,0,mb,rfl,alloc_new _ _,hxd,List.nodup_nil,fun j hj=>by cases hj⟩
   unfold Oper.wp
   have hrun:(execOp a.eval o).run P S.w=.ok (.value (.pointer (some ⟨S.w.heap.size,0,none⟩))) (S.w.alloc (.mapIter mb xs.length #[] xs.length)):=by
    simp only [execOp,ho,Sem.run_bind,m2,Result.andThen_ok]
    rfl
   rw [hrun]
   refine hnext _ _ _ H _ h1 g1 g2 (.ptr _ _ _ ⟨trivial,rfl⟩ fun bc h3 h4=>?_)
   rcases newSig_obj hrel.wf d (.iter m (st.eval x) xs.length []) (some (S.w.heap.size,0)) (S.w.alloc (.mapIter mb xs.length #[] xs.length)) (.loc d) with ⟨_,_,_,h6⟩ | ⟨h5,_,h6⟩ | ⟨⟨k,hk⟩,_⟩
   ·rw [h6] at h4; cases h4; rfl
   ·rw [h6] at h4
    have:=h5 rfl
    have h7:S.la.getD d none=none:=by
     rw [List.getD_eq_getElem?_getD,List.getElem?_eq_none (by rw [hrel.wf.lalen]; omega)]; rfl
    rw [show S.blk (.loc d)=none from h7] at h4
    cases h4
   ·cases hk
  ·exact h.elim
 ·exact h.elim
theorem Wf.iter {lf:TypeId→List K} (h:Wf lf S) {r:Ref} {m:MT} {x:D} {n:Nat} {seen:List Nat} (ho:S.obj r=.iter m x n seen) :
  ∃ b c mb,S.blk r=some (b,c)∧S.w.heap[b]?=some (.mapIter mb n seen.reverse.toArray n)∧RepD lf S x (.map mb)∧seen.Nodup∧(∀ j∈seen,j<n):=by
 have:=h.obj r
 rw [ho] at this
 exact this
theorem key_rep (hT:TabOk P T) {m:MT} (hf:mapFit T m=true) {ents:Array MapEntry} {clock:Nat} {xs:List (List V)} (hmv:MV T S.w S.F m ents clock xs) {j:Nat} {x:MapEntry} (hx:ents[j]?=some x) :
  RepD (lfs T) S (keyD T m (xs.getD j [])) x.key∧RepD (lfs T) S (elemD T m (xs.getD j [])) x.val :=
 ⟨(hmv.key j x hx).repD (flat_one hT (mapFit_spec hf).1),(hmv.val j x hx).repD (elem_agg hT hf)⟩
theorem nodup_le:∀ (n:Nat) (l:List Nat),l.Nodup→(∀ x∈l,x<n)→l.length≤n
 | 0,l,_,h=>by
  cases l with
  | nil=>simp
  | cons x r=>exact absurd (h x List.mem_cons_self) (by omega)
 | n+1,l,hn,h=>by
  by_cases hm:n∈l
  ·have:=nodup_le n (l.erase n) (hn.erase n) fun x hx=>by
    have h1:=(hn.mem_erase_iff).1 hx
    have:=h x h1.2
    omega
   rw [List.length_erase_of_mem hm] at this
   omega
  ·have:=nodup_le n l hn fun x hx=>by
    have:=h x hx
    have:x≠n:=fun he=>hm (he▸hx)
    omega
   omega
theorem ok_next (hT:TabOk P T) (it:Operand) (q:D→St→Heap→Prop) (ho:o.op=.next it false) (hrel:Rel (lfs T) st H a S) (hinv:Inv S0 S)
  (h:evNext T (st.eval it) st H q):OpOk P T S0 o a S q:=by
 have hx:=hrel.eval it
 unfold evNext at h
 split at h
 ·rename_i i hit
  rw [hit] at hx
  split at h
  ·rename_i m x n seen hob
   split at h
   ·rename_i hf
    have ho':S.obj (.loc i)=.iter m x n seen:=by rw [hrel.getO_obj]; exact hob
    obtain ⟨b,c,mb,hb,hh,hxr,hnd,hlt⟩:=hrel.wf.iter ho'
    have hev:a.eval it=.pointer (some ⟨b,0,none⟩):=by
     generalize a.eval it=u at hx
     cases hx with
     | ptr _ _ _ _ hp=>exact hp _ (by rw [ho']; rfl) hb
    obtain ⟨xs,⟨hn,hno,hyes⟩,h2⟩:=srcMap_spec hf hrel hxr h
    have over:(Instr.next (.pointer (some ⟨b,0,none⟩)) false o.type).run P S.w=.ok (.tuple #[.bool false]) S.w→(∀ j,j<n→j∈seen)→OpOk P T S0 o a S q:=fun hr hall=>by
     refine OpOk.value hrel hinv (v:=.tuple #[.bool false]) (d:=_) ?_ (.tup _ [.bool false] rfl fun j=>?_) (hno hall)
     ·simp only [execOp,ho,hev,Sem.run_bind,hr,Result.andThen_ok]
      rfl
     ·match j with
      | 0=>exact RepD.mkBool _
      | j+1=>exact .undef _
    rcases h2 with ⟨hv,h0⟩ | ⟨bm,ents,clock,hv,hhm,hmv⟩
    ·injection hv with hv
     subst hv
     refine over ?_ (fun j hj=>by rw [h0] at hn; simp at hn; omega)
     simp only [Instr.next,getObj,Sem.run_bind,Sem.run,hh,Result.andThen]
     rfl
    ·injection hv with hv
     subst hv
     have hsz:=hmv.size
     have hbn:∀ x∈ents.toList,x.born<n:=fun x hx=>by
      obtain ⟨k,hk⟩:=List.getElem?_of_mem hx
      have hk':ents[k]?=some x:=by simpa using hk
      rw [hmv.born k x hk']
      have:=(Array.getElem?_eq_some_iff.1 hk').1
      omega
     rcases run_next_at (P:=P) S.w o.type b bm n n seen.reverse.toArray ents clock hh hhm hbn (Nat.le_refl _) with ⟨hl0,hr⟩ | ⟨e,he,w1,hw1,hr⟩
     ·refine over hr fun j hj=>?_
      have hj':j<ents.size:=by omega
      have:=all_seen ents seen.reverse.toArray hl0 ents[j] (by simp)
      rw [hmv.born j _ (Array.getElem?_eq_getElem hj')] at this
      simpa using this
     ·obtain ⟨hem,hes⟩:=mem_left he
      obtain ⟨k,hk⟩:=List.getElem?_of_mem hem
      have hk':ents[k]?=some e:=by simpa using hk
      have hbk:=hmv.born k e hk'
      have hkn:k<n:=by have:=(Array.getElem?_eq_some_iff.1 hk').1; omega
      have hks:k ∉ seen:=by rw [hbk] at hes; simpa using hes
      have hnd':(k::seen).Nodup:=List.nodup_cons.2 ⟨hks,hnd⟩
      have hlt':∀ j∈k::seen,j<n:=fun j hj=>by
       rcases List.mem_cons.1 hj with h | h
       ·rw [h]; exact hkn
       ·exact hlt j h
      have hq:=hyes k hkn hks (by have:=nodup_le n _ hnd' hlt'; simp at this; omega)
      have hheap:w1.heap=S.w.heap∧w1.os=S.w.os∧w1.tape=S.w.tape∧w1.output=S.w.output:=by rcases hw1 with rfl | rfl <;> exact ⟨rfl,rfl,rfl,rfl⟩
      have hclk:clock=n:=by rw [hmv.clk]; omega
      have hpush:seen.reverse.toArray.push e.born=(k::seen).reverse.toArray:=by rw [hbk]; simp
      rw [hclk,hpush] at hr
      have hhas:S.has (.loc i):=Sig.has_of (by rw [ho']; intro h; cases h)
      obtain ⟨g1,g2,mD⟩:=Rel.upd hrel hinv (.loc i) (.iter m x n (k::seen)) (some (b,c)) (setBlock w1 b (.mapIter (some bm) n (k::seen).reverse.toArray n)) hhas (by rw [setBlock_size,hheap.1]; exact Nat.le_refl _)
       (fun b' _ hne=>by rw [setBlock_old _ _ _ _ (fun he=>hne _ hb he.symm),hheap.1]) hheap.2.1 hheap.2.2.1 hheap.2.2.2
       (fun y hy=>by cases hy; exact ⟨.inl ⟨_,hb,rfl⟩,by rw [setBlock_size,hheap.1]; exact hrel.wf.lt _ _ hb⟩)
       (by
        obtain ⟨j1,j2⟩:=S.upd_at hrel.wf hhas (.iter m x n (k::seen)) (some (b,c)) (setBlock w1 b (.mapIter (some bm) n (k::seen).reverse.toArray n))
        refine ⟨fun bc j3 j4=>⟨by rw [ho']; rfl,by rw [j2] at j4; rw [hb]; exact j4⟩,fun e' xs' j3=>(by rw [j1] at j3; cases j3),fun m' xs' j3=>(by rw [j1] at j3; cases j3)⟩)
       (fun i hi=>by cases hi)
       (fun mD mK=>⟨b,c,some bm,rfl,by rw [Sig.upd_w]; exact setBlock_new (by rw [hheap.1]; exact hh),mD hxr,hnd',hlt'⟩)
      obtain ⟨kr,er⟩:=key_rep hT hf hmv hk'
      intro next Q hnext
      unfold Oper.wp
      have hrun:(execOp a.eval o).run P S.w=.ok (.value (.tuple #[.bool true,e.key,e.val])) (setBlock w1 b (.mapIter (some bm) n (k::seen).reverse.toArray n)):=by
       simp only [execOp,ho,hev,Sem.run_bind,hr,Result.andThen_ok]
       rfl
      rw [hrun]
      have:=hnext _ (.tuple #[.bool true,e.key,e.val]) _ H _ hq g1 g2 (.tup _ [.bool true,e.key,e.val] rfl fun j=>by
       match j with
       | 0=>exact RepD.mkBool _
       | 1=>exact mD kr
       | 2=>exact mD er
       | j+3=>exact .undef _)
      rw [Sig.upd_w] at this
      exact this
   ·exact h.elim
  ·exact h.elim
 ·exact h.elim
theorem ok_entry (hT:TabOk P T) (it:Operand) (q:D→St→Heap→Prop) (ho:o.op=.entry it) (hrel:Rel (lfs T) st H a S) (hinv:Inv S0 S)
  (h:evEntry T (st.eval it) st H fun d=>q d st H):OpOk P T S0 o a S q:=by
 have hx:=hrel.eval it
 unfold evEntry at h
 split at h
 ·rename_i i hit
  rw [hit] at hx
  split at h
  ·rename_i m x n k seen hob
   split at h
   ·rename_i hf
    have ho':S.obj (.loc i)=.iter m x n (k::seen):=by rw [hrel.getO_obj]; exact hob
    obtain ⟨b,c,mb,hb,hh,hxr,hnd,hlt⟩:=hrel.wf.iter ho'
    have hev:a.eval it=.pointer (some ⟨b,0,none⟩):=by
     generalize a.eval it=u at hx
     cases hx with
     | ptr _ _ _ _ hp=>exact hp _ (by rw [ho']; rfl) hb
    have hkn:=hlt k List.mem_cons_self
    obtain ⟨xs,⟨hn,hq⟩,h2⟩:=srcMap_spec hf hrel hxr h
    rcases h2 with ⟨hv,h0⟩ | ⟨bm,ents,clock,hv,hhm,hmv⟩
    ·rw [h0] at hn; simp at hn; omega
    ·injection hv with hv
     subst hv
     have hsz:=hmv.size
     have hclk:clock=n:=by rw [hmv.clk]; omega
     have hk':ents[k]?=some ents[k]:=Array.getElem?_eq_getElem (by omega)
     have hbk:=hmv.born k _ hk'
     have hnb:(ents.toList.map (·.born)).Nodup:=by
      rw [List.nodup_iff_pairwise_ne,List.pairwise_iff_getElem]
      intro i j hi hj hij
      simp only [List.getElem_map,Array.getElem_toList]
      rw [hmv.born i _ (Array.getElem?_eq_getElem (by simpa using hi)),hmv.born j _ (Array.getElem?_eq_getElem (by simpa using hj))]
      omega
     have hr:=run_entry_at (P:=P) S.w b bm n seen.reverse.toArray ents clock ents[k] (by rw [hh,hbk]; simp [hclk]) hhm (by simp) hnb
     obtain ⟨kr,er⟩:=key_rep hT hf hmv hk'
     refine OpOk.value hrel hinv (v:=.tuple #[ents[k].key,ents[k].val]) (d:=_) ?_ (.tup _ [ents[k].key,ents[k].val] rfl fun j=>?_) hq
     ·simp only [execOp,ho,hev,Sem.run_bind,hr,Result.andThen_ok]
      rfl
     ·match j with
      | 0=>exact kr
      | 1=>exact er
      | j+2=>exact .undef _
   ·exact h.elim
  ·exact h.elim
 ·exact h.elim
end Go.Abs
