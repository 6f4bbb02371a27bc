/-
  Texts AbsE, AbsM of this proof, joined.
-/
import Derived.Lib.ConvBytes
import Derived.Laws.MakeOwn
import Derived.Maps.AppendAt
import Derived.Laws.BytesArg
import Derived.Test.YthhnadeoioeniaaGreatP1
set_option linter.unusedVariables false
set_option linter.unusedSimpArgs false
namespace Go.Abs
variable {P:Program} {T:Tab} {S0:Sig} {o:Oper} {a:Act} {S:Sig} {st:St} {H:Heap}
theorem Rel.newFrozenW (hrel:Rel (lfs T) st H a S) (hinv:Inv S0 S) (w':World) (hw:∀ b,b<S.w.heap.size→w'.heap[b]?=S.w.heap[b]?) (hsz:w'.heap.size=S.w.heap.size+1) (hos:w'.os=S.w.os) (htape:w'.tape=S.w.tape) (hout:w'.output=S.w.output) :
  ∃ S':Sig,S'.w=w'∧S'.F=(fun b=>S.F b∨b=S.w.heap.size)∧Rel (lfs T) st H a S'∧Inv S0 S' ∧
   (∀ {d:D} {u:Value},RepD (lfs T) S d u→RepD (lfs T) S' d u)∧(∀ {k:K} {x:V} {u:Value},RepK (lfs T) S.w S.F k x u→RepK (lfs T) S'.w S'.F k x u):=by
 have hwf:=hrel.wf
 let S':Sig:={ S with w:=w',F:=fun b=>S.F b∨b=S.w.heap.size }
 have hb:∀ r,S'.blk r=S.blk r:=fun r=>by cases r <;> rfl
 have hob:∀ r,S'.obj r=S.obj r:=fun r=>by cases r <;> rfl
 have hFw:∀ b,S.F b→S'.w.heap[b]?=S.w.heap[b]?:=fun b hb=>hw b (hwf.frozen b hb).1
 have mD:∀ {d:D} {u:Value},RepD (lfs T) S d u→RepD (lfs T) S' d u:=fun {d u} h =>
  RepD.mono (S:=S) (S':=S') (Nat.le_refl _) (fun b hb=>.inl hb) hFw (p:=fun _=>false) (fun r _ _=>.refl (hob r) (hb r)) (anyR_false d) h
 have mK:∀ {k:K} {x:V} {u:Value},RepK (lfs T) S.w S.F k x u→RepK (lfs T) S'.w S'.F k x u:=fun h=>RepK.mono (w:=S.w) (w':=S'.w) (F:=S.F) (F':=S'.F) (fun b hb=>.inl hb) hFw h
 refine ⟨S',rfl,rfl,⟨hrel.H,hrel.L,hrel.size,hrel.defers,fun j=>mD (hrel.rep j),?_⟩,?_,mD,mK⟩
 ·refine ⟨fun b hb'=>?_,fun r r' x x' h h'=>hwf.inj r r' x x' (hb r▸h) (hb r'▸h'),fun r x h=>?_,fun r=>?_,hwf.own,hwf.mulen,hwf.lalen,hwf.mark.1,fun d hd=>?_⟩
  ·rw [show S'.w=w' from rfl,hsz]
   rcases hb' with hb' | hb'
   ·exact ⟨Nat.lt_succ_of_lt (hwf.frozen b hb').1,fun r x h=>(hwf.frozen b hb').2 r x (hb r▸h)⟩
   ·exact ⟨by omega,fun r x h=>by have:=hwf.lt r x (hb r▸h); omega⟩
  ·rw [show S'.w=w' from rfl,hsz]
   exact Nat.lt_succ_of_lt (hwf.lt r x (hb r▸h))
  ·rw [hob,hb]
   have:=hwf.obj r
   cases hr:S.obj r with
   | cells cs =>
    rw [hr] at this
    obtain ⟨b,c,e,arr,h3,h4,h5,h6⟩:=this
    exact ⟨b,c,e,arr,h3,by rw [← h4]; exact hw b (hwf.lt r _ h3),h5,fun j hj=>⟨mD (h6 j hj).1,(h6 j hj).2⟩⟩
   | row e xs =>
    rw [hr] at this
    rcases this with h3 | ⟨b,c,arr,h3,h4,h5,h6,h7,h9,h8⟩
    ·exact .inl h3
    ·exact .inr ⟨b,c,arr,h3,by rw [← h4]; exact hw b (hwf.lt r _ h3),h5,h6,h7,h9,fun x y hx hy=>mK (h8 x y hx hy)⟩
   | map m xs =>
    rw [hr] at this
    obtain ⟨b,c,clock,ents,us,h3,h4,h5,h6,h7,h8⟩:=this
    exact ⟨b,c,clock,ents,us,h3,by rw [← h4]; exact hw b (hwf.lt r _ h3),h5,h6,h7,fun x y hx hy=>mK (h8 x y hx hy)⟩
   | iter m x n s =>
    rw [hr] at this
    obtain ⟨b,c,mb,h3,h4,h5,h6⟩:=this
    exact ⟨b,c,mb,h3,by rw [← h4]; exact hw b (hwf.lt r _ h3),mD h5,h6⟩
   | dead=>rw [hr] at this; exact this
  ·obtain ⟨h1,h2,h3⟩:=hwf.mark.2 d hd
   have hlt:d<S.w.heap.size:=(Array.getElem?_eq_some_iff.1 h1).1
   exact ⟨(hw d hlt).trans h1,fun r x hx=>h2 r x (hb r▸hx),fun hF=>hF.elim h3 fun e=>by omega⟩
 ·have he:=hinv.ext
  refine ⟨⟨?_,hos.trans he.os,htape.trans he.tape,hout.trans he.output,fun b hb' hn=>?_,fun b hb'=>.inl (he.F b hb'),fun b hb' hF=>?_,he.len,fun k hk=>(he.keep k hk).trans (.refl rfl rfl),fun k x hx=>he.fresh k x hx⟩,fun k x h=>hinv.loc k x h,hinv.mkd⟩
  ·rw [show S'.w=w' from rfl,hsz]; have:=he.size; omega
  ·obtain ⟨h1,h2⟩:=he.block b hb' hn
   exact ⟨(hw b (Nat.lt_of_lt_of_le hb' he.size)).trans h1,h2⟩
  ·rcases hF with hF | hF
   ·exact he.Fnew b hb' hF
   ·have:=he.size; omega
theorem Rel.newFrozen (hrel:Rel (lfs T) st H a S) (hinv:Inv S0 S) (e:TypeId) (arr:Array Value) :
  ∃ S':Sig,S'.w=S.w.alloc (.cells arr e)∧S'.F=(fun b=>S.F b∨b=S.w.heap.size)∧Rel (lfs T) st H a S'∧Inv S0 S' ∧
   (∀ {d:D} {u:Value},RepD (lfs T) S d u→RepD (lfs T) S' d u)∧(∀ {k:K} {x:V} {u:Value},RepK (lfs T) S.w S.F k x u→RepK (lfs T) S'.w S'.F k x u) :=
 Rel.newFrozenW hrel hinv _ (alloc_old S.w (.cells arr e)) (alloc_size _ _) rfl rfl rfl
theorem ok_boxF (hT:TabOk P T) (e:TypeId) (x:Operand) (ys:List V) (q:D→St→Heap→Prop) (ho:o.op=.box e x) (hrel:Rel (lfs T) st H a S) (hinv:Inv S0 S)
  (hc:closed (T.get e).lf (st.eval x).cells=some ys) (h:q (.elt e ys 0) st H):OpOk P T S0 o a S q:=by
 intro next Q hnext
 obtain ⟨k1,k2,k3⟩:=closed_spec _ _ _ hc
 have hcell:(st.eval x).cells.all D.isCell=true:=by
  rw [List.all_eq_true]
  intro c hc'
  obtain ⟨j,hj,rfl⟩:=List.getElem_of_mem hc'
  have:=k3 j (by omega)
  rw [List.getD_eq_getElem?_getD,List.getElem?_eq_getElem hj] at this
  rw [show (st.eval x).cells[j]=_ from this]; rfl
 obtain ⟨h1,h2⟩:=(hrel.eval x).cells hcell
 obtain ⟨S',w1,w2,r1,r2,mD,mK⟩:=Rel.newFrozen hrel hinv e (a.eval x).cells
 unfold Oper.wp
 have hrun:(execOp a.eval o).run P S.w=.ok (.value (.pointer (some ⟨S.w.heap.size,0,none⟩))) (S.w.alloc (.cells (a.eval x).cells e)):=by
  simp only [execOp,ho,Instr.box]
  rfl
 rw [hrun,← w1]
 have hnew:S'.w.heap[S.w.heap.size]?=some (.cells (a.eval x).cells e (0,0)):=by rw [w1]; exact alloc_new _ _
 refine hnext _ _ st H S' h r1 r2 (.elt e ys 0 S.w.heap.size 0 (fun j=>(a.eval x).cells.getD j undef) (by rw [w2]; exact .inr rfl) (fun j hj=>?_) (fun j hj=>?_))
 ·rw [Nat.zero_add]
  exact cell_of hnew (by rw [h1,k2]; exact hj)
 ·have hj':j<(T.get e).lf.length:=hj
  have:=(h2 j (by omega)).1
  rw [k3 j hj'] at this
  generalize (a.eval x).cells.getD j undef=u at *
  cases this with
  | v _ _ _ h=>exact mK h
theorem foldl_set (cs:Array Value) (off:Nat):∀ (l:List Value) (k:Nat),((l.zipIdx k).foldl (fun cs (x:Value×Nat)=>cs.setIfInBounds (off+x.2) x.1) cs).size=cs.size ∧
  ∀ j,((l.zipIdx k).foldl (fun cs (x:Value×Nat)=>cs.setIfInBounds (off+x.2) x.1) cs).getD j undef=if off+k≤j∧j<off+k+l.length∧j<cs.size then l.getD (j - (off+k)) undef else cs.getD j undef:=by
 intro l
 induction l generalizing cs with
 | nil=>intro k; exact ⟨rfl,fun j=>by rw [if_neg (by rw [List.length_nil]; omega)]; rfl⟩
 | cons v r ih =>
  intro k
  simp only [List.zipIdx_cons,List.foldl_cons]
  obtain ⟨h1,h2⟩:=ih (cs.setIfInBounds (off+k) v) (k+1)
  refine ⟨by rw [h1]; simp,fun j=>?_⟩
  rw [h2 j]
  simp only [Array.size_setIfInBounds]
  have hg:(cs.setIfInBounds (off+k) v).getD j undef=if j=off+k∧off+k<cs.size then v else cs.getD j undef:=by
   simp only [Array.getD_eq_getD_getElem?,Array.getElem?_setIfInBounds]
   by_cases h:off+k=j
   ·subst h
    by_cases h3:off+k<cs.size
    ·simp [h3]
    ·simp [h3]
   ·rw [if_neg h,if_neg (fun h4=>h h4.1.symm)]
  rw [hg]
  by_cases h3:j=off+k
  ·subst h3
   rw [if_neg (by omega)]
   by_cases h4:off+k<cs.size
   ·rw [if_pos ⟨rfl,h4⟩,if_pos ⟨by omega,by simp,h4⟩]; simp
   ·rw [if_neg (fun h=>h4 h.2),if_neg (fun h=>h4 h.2.2)]
  ·by_cases h4:off+(k+1)≤j∧j<off+(k+1)+r.length∧j<cs.size
   ·rw [if_pos h4,if_pos ⟨by omega,by simp; omega,h4.2.2⟩]
    rw [show j - (off+k)=(j - (off+(k+1)))+1 from by omega]
    rfl
   ·rw [if_neg h4,if_neg (fun h=>h3 h.1),if_neg (fun h=>h4 ⟨by omega,by have:=h.2.1; simp at this; omega,h.2.2⟩)]
theorem fill_step (cells:Array Value) (off:Nat) (v:Value):(v.cells.zipIdx.foldl (fun cs (x:Value×Nat)=>cs.setIfInBounds (off+x.2) x.1) cells).size=cells.size ∧
  ∀ j,(v.cells.zipIdx.foldl (fun cs (x:Value×Nat)=>cs.setIfInBounds (off+x.2) x.1) cells).getD j undef=if off≤j∧j<off+v.cells.size∧j<cells.size then v.cells.getD (j - off) undef else cells.getD j undef:=by
 have h:=foldl_set cells off v.cells.toList 0
 have e:v.cells.zipIdx.foldl (fun cs (x:Value×Nat)=>cs.setIfInBounds (off+x.2) x.1) cells=(v.cells.toList.zipIdx 0).foldl (fun cs (x:Value×Nat)=>cs.setIfInBounds (off+x.2) x.1) cells:=by
  rw [← Array.foldl_toList,Array.toList_zipIdx]
 rw [e]
 refine ⟨h.1,fun j=>?_⟩
 rw [h.2 j]
 simp only [Nat.add_zero,Array.length_toList]
 have e2:∀ n,v.cells.toList.getD n undef=v.cells.getD n undef:=fun n=>by simp [List.getD_eq_getElem?_getD,Array.getD_eq_getD_getElem?]
 rw [e2]
theorem fill_parts (hT:TabOk P T) {s:TypeId} {place:Nat→Option (Nat×Nat)} (hps:∀ (i o':Nat) (t:TypeId),partAt T s i=some (o',t)→place i=some (o',(T.get t).lf.length)) :
  ∀ (l:List (Nat×D)) (m:List (Nat×Value)) (zs:List D) (cells:Array Value) (cs:List D),l.length=m.length→(∀ j,j<l.length→∃ i d v,l[j]?=some (i,d)∧m[j]?=some (i,v)∧RepD (lfs T) S d v) →
   cells.size=zs.length→(∀ j,j<zs.length→RepD (lfs T) S (zs.getD j .undef) (cells.getD j undef))→partsOf T s zs l=some cs →
   ∃ cells',Instr.fill place cells m=some cells'∧cells'.size=cs.length∧∀ j,j<cs.length→RepD (lfs T) S (cs.getD j .undef) (cells'.getD j undef)
 | [],[],zs,cells,cs,_,_,hs,hr,h=>by
  simp only [partsOf,Option.some.injEq] at h
  subst h
  exact ⟨cells,rfl,hs,hr⟩
 | [],_::_,_,_,_,hl,_,_,_,_=>by simp at hl
 | _::_,[],_,_,_,hl,_,_,_,_=>by simp at hl
 | (i,d)::l,(i',v)::m,zs,cells,cs,hl,hlm,hs,hr,h=>by
  obtain ⟨i0,d0,v0,h1,h2,h3⟩:=hlm 0 (by simp)
  simp at h1 h2
  obtain ⟨rfl,rfl⟩:=h1
  obtain ⟨rfl,rfl⟩:=h2
  simp only [partsOf] at h
  split at h
  ·cases h
  ·rename_i o' t hf
   split at h
   ·rename_i hc0
    obtain ⟨⟨hdl,hle⟩,hcell⟩:(d.cells.length=(T.get t).lf.length∧o' + d.cells.length≤zs.length)∧d.cells.all D.isCell=true:=by simpa using hc0
    obtain ⟨hv1,hv2⟩:=h3.cells hcell
    obtain ⟨g1,g2⟩:=fill_step cells o' v
    have hp:=hps i' o' t hf
    obtain ⟨cells',q1,q2,q3⟩:=fill_parts hT hps l m (setCells zs o' d.cells) (v.cells.zipIdx.foldl (fun cs (x:Value×Nat)=>cs.setIfInBounds (o' + x.2) x.1) cells) cs (by simpa using hl)
     (fun j hj=>by
      obtain ⟨i1,d1,v1,r1,r2,r3⟩:=hlm (j+1) (by simpa using hj)
      exact ⟨i1,d1,v1,by simpa using r1,by simpa using r2,r3⟩)
     (by rw [g1,setCells_length]; exact hs)
     (fun j hj=>by
      rw [setCells_length] at hj
      rw [setCells_getD _ _ _ _ hle,g2 j,hv1]
      by_cases hj2:o'≤j∧j<o' + d.cells.length
      ·rw [if_pos hj2,if_pos ⟨hj2.1,hj2.2,by omega⟩]
       exact (hv2 (j - o') (by omega)).1
      ·rw [if_neg hj2,if_neg (fun h=>hj2 ⟨h.1,h.2.1⟩)]
       exact hr j hj) h
    refine ⟨cells',?_,q2,q3⟩
    simp only [Instr.fill,hp]
    rw [if_neg (by simp; omega)]
    exact q1
   ·cases h
theorem map_rel (hrel:Rel (lfs T) st H a S) (parts:Array (Nat×Operand)):(parts.toList.map fun p=>(p.1,st.eval p.2)).length=((parts.map fun p=>(p.1,a.eval p.2)).toList).length ∧
  ∀ j,j<(parts.toList.map fun p=>(p.1,st.eval p.2)).length→∃ i d v,(parts.toList.map fun p=>(p.1,st.eval p.2))[j]?=some (i,d)∧((parts.map fun p=>(p.1,a.eval p.2)).toList)[j]?=some (i,v)∧RepD (lfs T) S d v:=by
 refine ⟨by simp,fun j hj=>?_⟩
 have hj':j<parts.toList.length:=by simpa using hj
 refine ⟨parts.toList[j].1,st.eval parts.toList[j].2,a.eval parts.toList[j].2,?_,?_,hrel.eval _⟩
 ·simp [List.getElem?_map,List.getElem?_eq_getElem hj']
 ·simp [List.getElem?_map,Array.getElem?_eq_getElem (show j<parts.size by simpa using hj')]
theorem ok_build (hT:TabOk P T) (t:TypeId) (parts:Array (Nat×Operand)) (q:D→St→Heap→Prop) (ho:o.op=.build t parts) (hrel:Rel (lfs T) st H a S) (hinv:Inv S0 S)
  (h:match (T.get t).agg&&(!(T.get t).flds.isEmpty||arOk T t)&&Nat.blt 0 (T.get t).lf.length,partsOf T t ((T.get t).lf.map zeroD) (parts.toList.map fun p=>(p.1,st.eval p.2)) with
   | true,some cs=>q (.agg cs) st H
   | _,_=>False):OpOk P T S0 o a S q:=by
 split at h
 ·rename_i cs hb hp
  obtain ⟨⟨hag,hfl⟩,hn⟩:((T.get t).agg=true∧(¬ (T.get t).flds=[]∨arOk T t=true))∧0<(T.get t).lf.length:=by simpa using hb
  obtain ⟨hok,ht⟩:=hT.get hn
  obtain ⟨z,hz,hzs,hzr⟩:=hok.zero
  have hz':=hz S.w
  rw [ht] at hz'
  obtain ⟨place,hps,hbuild⟩:∃ place:Nat→Option (Nat×Nat),(∀ (i o':Nat) (t':TypeId),partAt T t i=some (o',t')→place i=some (o',(T.get t').lf.length)) ∧
    ∀ (m:Array (Nat×Value)) (cells':Array Value),Instr.fill place z.cells m.toList=some cells'→(Instr.build t m).run P S.w=.ok (.agg cells') S.w:=by
   cases har:(T.get t).ar with
   | none =>
    have hfl':(T.get t).flds≠[]:=by
     rcases hfl with h | h
     ·exact h
     ·unfold arOk at h; rw [har] at h; cases h
    obtain ⟨fs,ps,hu,hrun,hps⟩:=hok.places hfl'
    rw [ht] at hu
    refine ⟨fun i=>ps[i]?,fun i o' t' h=>hps i o' t' (by unfold partAt at h; rw [har] at h; exact h),fun m cells' hm=>?_⟩
    simp only [Instr.build,Sem.run_bind,hz',Result.andThen_ok,run_underlying hu,hrun S.w,hm]
    rfl
   | some p =>
    obtain ⟨n,e⟩:=p
    have hu:=hT.get_ar har
    have hpl:∀ (i o':Nat) (t':TypeId),partAt T t i=some (o',t')→o'=i*(T.get e).lf.length∧t'=e:=fun i o' t' h=>by
     unfold partAt at h
     rw [har] at h
     simp only [Option.some.injEq,Prod.mk.injEq] at h
     exact ⟨h.1.symm,h.2.symm⟩
    by_cases hen:0<(T.get e).lf.length
    ·obtain ⟨hoke,hte⟩:=hT.get hen
     have hse:=hoke.size S.w
     rw [hte] at hse
     refine ⟨fun i=>some (i*(T.get e).lf.length,(T.get e).lf.length),fun i o' t' h=>by obtain ⟨rfl,rfl⟩:=hpl i o' t' h; rfl,fun m cells' hm=>?_⟩
     simp only [Instr.build,Sem.run_bind,hz',Result.andThen_ok,run_underlying hu,hse,hm]
     rfl
    ·exfalso
     rcases hfl with h | h
     ·obtain ⟨fs,hu2,_⟩:=hok.fexact h
      rw [ht,hu] at hu2
      cases hu2
     ·unfold arOk at h; rw [har] at h
      exact hen (by simpa using h)
  obtain ⟨hl,hlm⟩:=map_rel hrel parts
  obtain ⟨cells',q1,q2,q3⟩:=fill_parts (S:=S) hT hps _ _ ((T.get t).lf.map zeroD) z.cells cs hl hlm (by simpa using hzs) (fun j hj=>by
   have hj':j<(T.get t).lf.length:=by simpa using hj
   have:=(hzr (lfs T) S j hj').1
   rw [show ((T.get t).lf.map zeroD).getD j .undef=zeroD ((T.get t).lf.getD j .oth) from by
    simp [List.getD_eq_getElem?_getD,List.getElem?_map,List.getElem?_eq_getElem hj']]
   exact this) hp
  refine OpOk.value hrel hinv (v:=.agg cells') ?_ ?_ h
  ·simp only [execOp,ho,Sem.run_bind,hbuild _ _ q1,Result.andThen_ok]
   rfl
  ·have:cells'=cells'.toList.toArray:=by simp
   rw [this]
   exact .agg cs cells'.toList (by simp [q2]) (repD_of_list (by simp [q2]) fun j hj=>by
    have e2:cells'.toList.getD j undef=cells'.getD j undef:=by simp [List.getD_eq_getElem?_getD,Array.getD_eq_getD_getElem?]
    rw [e2]
    exact q3 j (by simpa [q2] using hj))
 ·exact h.elim
theorem fill_elems (hS:True) {sz:Nat} {lf:List K} (hsz:lf.length=sz) {n:Nat}:∀ (l:List (Nat×D)) (m:List (Nat×Value)) (k:Nat) (cells:Array Value) (xs:List (List V)),l.length=m.length →
   (∀ j,j<l.length→∃ i d v,l[j]?=some (i,d)∧m[j]?=some (i,v)∧RepD (lfs T) S d v)→k+l.length≤n→cells.size=n*sz→elems lf n k l=some xs →
   k+xs.length=n∧(∀ i,i<xs.length→(xs.getD i []).length=sz)∧∃ cells',Instr.fill (fun i=>some (i*sz,sz)) cells m=some cells'∧cells'.size=n*sz ∧
    (∀ j,j<k*sz→cells'.getD j undef=cells.getD j undef)∧∀ i j,i<xs.length→j<sz→RepK (lfs T) S.w S.F (lf.getD j .oth) ((xs.getD i []).getD j V.none) (cells'.getD ((k+i)*sz+j) undef)
 | [],[],k,cells,xs,_,_,hk,hc,h=>by
  simp only [elems] at h
  split at h
  ·rename_i hkn
   have hkn':k=n:=by simpa using hkn
   simp only [Option.some.injEq] at h
   subst h
   exact ⟨by simpa using hkn',fun i hi=>by simp at hi,cells,rfl,hc,fun j _=>rfl,fun i j hi=>by simp at hi⟩
  ·cases h
 | [],_::_,_,_,_,hl,_,_,_,_=>by simp at hl
 | _::_,[],_,_,_,hl,_,_,_,_=>by simp at hl
 | (i,d)::l,(i',v)::m,k,cells,xs,hl,hlm,hk,hc,h=>by
  obtain ⟨i0,d0,v0,h1,h2,h3⟩:=hlm 0 (by simp)
  simp at h1 h2
  obtain ⟨rfl,rfl⟩:=h1
  obtain ⟨rfl,rfl⟩:=h2
  simp only [elems] at h
  split at h
  ·rename_i hik
   have hik':i'=k:=by simpa using hik
   subst hik'
   split at h
   ·rename_i c hcl
    obtain ⟨c1,c2,c3⟩:=closed_spec _ _ _ hcl
    rw [plainL_length] at c2
    have hall:d.cells.all D.isCell=true:=by
     rw [List.all_eq_true]
     intro x hx
     obtain ⟨j,hj,rfl⟩:=List.getElem_of_mem hx
     have:=c3 j (by omega)
     rw [plainL_getD _ _ _ (by omega) hj] at this
     rw [show d.cells.getD j .undef=d.cells[j] from by rw [List.getD_eq_getElem?_getD,List.getElem?_eq_getElem hj]; rfl] at this
     cases hdj:d.cells[j] <;> rw [hdj] at this <;> simp [D.plain] at this <;> rfl
    obtain ⟨hv1,hv2⟩:=h3.cells hall
    obtain ⟨g1,g2⟩:=fill_step cells (i' * sz) v
    cases hrec:elems lf n (i' + 1) l with
    | none=>rw [hrec] at h; cases h
    | some ys =>
     rw [hrec] at h
     simp only [Option.map_some,Option.some.injEq] at h
     subst h
     have hbound:i' * sz+sz≤n*sz:=by
      have h7:=Nat.mul_le_mul_right sz (show i' + 1≤n by simp at hk; omega)
      rw [Nat.add_mul,Nat.one_mul] at h7
      exact h7
     obtain ⟨q1,q2,cells',q3,q4,q5,q6⟩:=fill_elems hS hsz l m (i' + 1) (v.cells.zipIdx.foldl (fun cs (x:Value×Nat)=>cs.setIfInBounds (i' * sz+x.2) x.1) cells) ys (by simpa using hl)
      (fun j hj=>by
       obtain ⟨i1,d1,v1,r1,r2,r3⟩:=hlm (j+1) (by simpa using hj)
       exact ⟨i1,d1,v1,by simpa using r1,by simpa using r2,r3⟩) (by simp at hk; omega) (by rw [g1]; exact hc) hrec
     refine ⟨by simp; omega,fun i hi=>?_,cells',?_,q4,fun j hj=>?_,fun i j hi hj=>?_⟩
     ·cases i with
      | zero=>simp [c1,hsz]
      | succ i=>exact q2 i (by simpa using hi)
     ·simp only [Instr.fill]
      rw [if_neg (by simp; omega)]
      exact q3
     ·rw [q5 j (by rw [Nat.add_mul,Nat.one_mul]; omega),g2 j,if_neg (by omega)]
     ·cases i with
      | zero =>
       rw [Nat.add_zero,q5 (i' * sz+j) (by rw [Nat.add_mul,Nat.one_mul]; omega),g2,if_pos ⟨by omega,by omega,by omega⟩]
       rw [show i' * sz+j - i' * sz=j from by omega]
       have h5:=c3 j (by omega)
       have h6:=plain_rep (k:=lf.getD j .oth) (hv2 j (by omega)).1
       rw [← plainL_getD _ _ _ (by omega) (by omega),h5] at h6
       cases h6 with
       | v _ _ _ h6=>exact h6
      | succ i =>
       have:=q6 i j (by simpa using hi) hj
       rw [show i' + (i+1)=i' + 1+i from by omega]
       exact this
   ·cases h
  ·cases h
theorem Rel.newRowB (hrel:Rel (lfs T) st H a S) (hinv:Inv S0 S) (i:Nat) (e:TypeId) (xs:List (List V)) (c:Nat) (arr:Array Value) (hsz:arr.size=c*(lfs T e).length) (hxc:xs.length≤c) (hcm:c≤maxLen) (hlen:∀ i,i<xs.length→(xs.getD i []).length=(lfs T e).length)
  (hrep:∀ i j,i<xs.length→j<(lfs T e).length→RepK (lfs T) S.w S.F ((lfs T e).getD j .oth) ((xs.getD i []).getD j V.none) (arr.getD (i*(lfs T e).length+j) undef)) :
  ∃ S',S'.w=S.w.alloc (.cells arr e)∧Rel (lfs T) (Abs.newLoc i (.row e xs) st) H a S'∧Inv S0 S'∧RepD (lfs T) S' (.osl (.loc i) xs.length) (.slice (some ⟨S.w.heap.size,0,none⟩) xs.length c):=by
 have hw:=alloc_old S.w (.cells arr e)
 obtain ⟨h1,h2⟩:=Rel.newLoc hrel hinv i (.row e xs) (some (S.w.heap.size,c)) (S.w.alloc (.cells arr e)) (by rw [alloc_size]; omega) hw rfl rfl rfl
  (fun x hx=>by cases hx; exact ⟨Nat.le_refl _,by rw [alloc_size]; exact Nat.lt_succ_self _⟩)
  (.inr ⟨S.w.heap.size,c,arr,rfl,alloc_new _ _,hsz,hxc,hcm,hlen,fun i j hi hj=>RepK.mono (w:=S.w) (F:=S.F) (fun _ h=>h) (fun b hb=>hw b (hrel.wf.frozen b hb).1) (hrep i j hi hj)⟩)
 refine ⟨_,rfl,h1,h2,.osl _ _ _ ⟨trivial,rfl⟩ fun e' xs' h3=>?_⟩
 rcases newSig_obj hrel.wf i (.row e xs) (some (S.w.heap.size,c)) (S.w.alloc (.cells arr e)) (.loc i) with ⟨_,_,h5,h6⟩ | ⟨h5,h4,h6⟩ | ⟨⟨k,hk⟩,_⟩
 ·rw [h5] at h3; cases h3
  exact ⟨Nat.le_refl _,fun _=>by rw [h6]; rfl⟩
 ·have:=h5 rfl
  rw [h4] at h3
  have h7:S.L.getD i .dead=.dead:=by
   rw [List.getD_eq_getElem?_getD,List.getElem?_eq_none (by omega)]; rfl
  rw [show S.obj (.loc i)=.dead from h7] at h3
  cases h3
 ·cases hk
theorem ok_buildSlice (hT : TabOk P T) (lit : Bool) (t : TypeId) (n : Nat) (parts : Array (Nat × Operand)) (q : D → St → Heap → Prop) (ho : o.op = .buildSlice t n parts) (hrel : Rel (lfs T) st H a S) (hinv : Inv S0 S)
    (h : match (T.get t).el with
      | some e => (match Nat.blt 0 (T.get e).lf.length && Nat.ble (n * (T.get e).lf.length) 16777216 && Nat.ble parts.toList.length n, elems (T.get e).lf n 0 (parts.toList.map fun p => (p.1, st.eval p.2)) with
        | true, some xs => (match o.dst, lit with
          | some d, true => q (.osl (.loc d) n) (newLoc d (.row e xs) st) H
          | _, _ => q (.v (.sl e) (.l xs)) st H)
        | _, _ => False)
      | none => False) : OpOk P T S0 o a S q := by
  split at h
  · rename_i e he
    split at h
    · rename_i xs hb hx
      obtain ⟨⟨hn, hlim⟩, hlen⟩ : (0 < (T.get e).lf.length ∧ n * (T.get e).lf.length ≤ 16777216) ∧ parts.size ≤ n := by simpa using hb
      have hu := hT.get_el he
      obtain ⟨hok, ht⟩ := hT.get hn
      have hs := hok.size S.w
      obtain ⟨z, hz, hzs, hzr⟩ := hok.zero
      have hz' := hz S.w
      rw [ht] at hz' hs
      obtain ⟨hl, hlm⟩ := map_rel hrel parts
      have hz0 : ∀ z0 : Array Value, ((Array.range (n * (T.get e).lf.length)).map (fun i => z0[i % z0.size]!)).size = n * (T.get e).lf.length := fun z0 => by simp
      obtain ⟨q1, q2, cells', q3, q4, _, q6⟩ := fill_elems (T := T) (S := S) trivial (sz := (T.get e).lf.length) rfl (n := n) _ _ 0 ((Array.range (n * (T.get e).lf.length)).map (fun i => (if n * (T.get e).lf.length = 0 then #[] else z.cells)[i % (if n * (T.get e).lf.length = 0 then #[] else z.cells).size]!)) xs hl hlm (by simpa using hlen) (hz0 _) hx
      intro next Q hnext
      unfold Oper.wp
      have hrun : (execOp a.eval o).run P S.w = .ok (.value (.slice (some ⟨S.w.heap.size, 0, none⟩) n n)) (S.w.alloc (.cells cells' e)) := by
        simp only [execOp, ho, Instr.buildSlice, Sem.run_bind, run_underlying hu, Result.andThen_ok, hs]
        rw [if_neg (by omega)]
        by_cases h0 : n * (T.get e).lf.length = 0
        · rw [if_pos h0] at q3
          rw [if_pos h0, Sem.run_bind]
          simp only [Sem.run_bind, show ∀ (α : Type) (x : α), (pure x : Sem α).run P S.w = .ok x S.w from fun _ _ => rfl, Result.andThen_ok, q3]
          rfl
        · rw [if_neg h0] at q3
          rw [if_neg h0, Sem.run_bind]
          simp only [Sem.run_bind, hz', show ∀ (α : Type) (x : α), (pure x : Sem α).run P S.w = .ok x S.w from fun _ _ => rfl, Result.andThen_ok, q3]
          rfl
      rw [hrun]
      have hxs : n = xs.length := by omega
      have data : q (.v (.sl e) (.l xs)) st H → next (a.put o.dst (.slice (some ⟨S.w.heap.size, 0, none⟩) n n)) (S.w.alloc (.cells cells' e)) := fun h => by
       obtain ⟨S', w1, w2, r1, r2, mD, mK⟩ := Rel.newFrozen hrel hinv e cells'
       rw [← w1]
       refine hnext _ _ st H S' h r1 r2 (.v _ _ _ ?_)
       have hnew : S'.w.heap[S.w.heap.size]? = some (.cells cells' e (0, 0)) := by rw [w1]; exact alloc_new _ _
       have := RepK.sl (lf := lfs T) (w := S'.w) (F := S'.F) e (.l xs) S.w.heap.size 0 n (fun i j => cells'.getD (i * (T.get e).lf.length + j) undef) (by rw [w2]; exact .inr rfl) (by
           have h9 := Nat.le_mul_of_pos_right n hn
           refine ⟨by show xs.length ≤ n; omega, ?_⟩
           unfold big; omega) (fun i hi => q2 i hi)
         (fun i j hi hj => by
           have hi' : i < xs.length := hi
           have hj' : j < (T.get e).lf.length := hj
           have h7 := Nat.mul_le_mul_right (T.get e).lf.length (show i + 1 ≤ n by omega)
           rw [Nat.add_mul, Nat.one_mul] at h7
           rw [show 0 + i * (lfs T e).length + j = i * (T.get e).lf.length + j from by simp [lfs]]
           exact cell_of hnew (by omega))
         (fun i j hi hj => by
           have := q6 i j hi hj
           rw [Nat.zero_add] at this
           exact RepK.mono (w := S.w) (w' := S'.w) (F := S.F) (F' := S'.F) (fun b hb => by rw [w2]; exact .inl hb) (fun b hb => by rw [w1]; exact alloc_old _ _ _ (hrel.wf.frozen b hb).1) this)
       have e2 : (V.l xs).list.length = n := by show xs.length = n; omega
       rw [e2] at this
       exact this
      split at h
      · rename_i d hd
        have h9 := Nat.le_mul_of_pos_right n hn
        obtain ⟨S', g1, g2, g3, g4⟩ := Rel.newRowB hrel hinv d e xs n cells' (by simpa [lfs] using q4) (by omega) (by unfold maxLen; omega) (fun i hi => q2 i hi) (fun i j hi hj => by
          have := q6 i j hi hj
          rw [Nat.zero_add] at this
          exact this)
        rw [← g1]
        refine hnext _ _ _ H S' h g2 g3 ?_
        rw [← hxs] at g4
        exact g4
      · exact data h
    · exact h.elim
  · exact h.elim
theorem run_append_zero {t ty e:TypeId} {A A':Option Addr} {n c c' sz:Nat} {w:World} (ht:P.underlying t=some (.slice e)) (hs:(sizeOf e).run P w=.ok sz w) (hn:n≤c) :
  (Builtin.append_ #[t,t] ty #[.slice A n c,.slice A' 0 c']).run P w=.ok (.slice A n c) w:=by
 have hf:(Builtin.firstCells sz 0 (.slice A' 0 c')).run P w=.ok #[] w:=by
  cases A' with
  | none=>rfl
  | some x=>simp [Builtin.firstCells,loadCells,loadCellsFrom,Sem.run,pure]
 simp only [Builtin.append_]
 simp [run_underlying ht,hs,Builtin.lenOf,hn,Sem.run,pure,hf]
 cases A with
 | none=>simp [storeCells,Sem.run,pure]
 | some x=>simp [storeCells,Sem.run,pure]
theorem srcOf_spec {e:TypeId} {x:D} {u:Value} {k:List (List V)→Prop} (hrel:Rel (lfs T) st H a S) (hn:0<(T.get e).lf.length) (hy:RepD (lfs T) S x u) (h:srcOf e st H x k) :
  ∃ ys,((ys=[]∧∃ A c,u=.slice A 0 c)∨(∃ (b off c:Nat) (us:Nat→Nat→Value),u=.slice (some ⟨b,off,none⟩) ys.length c∧0<ys.length∧(∀ i,i<ys.length→(ys.getD i []).length=(T.get e).lf.length) ∧
    (∀ i j,i<ys.length→j<(T.get e).lf.length→S.w.cell? ⟨b,off+i*(T.get e).lf.length+j,none⟩=some (us i j)) ∧
    (∀ i j,i<ys.length→j<(T.get e).lf.length→RepK (lfs T) S.w S.F ((T.get e).lf.getD j .oth) ((ys.getD i []).getD j V.none) (us i j))))∧k ys:=by
 unfold srcOf at h
 split at h
 ·rename_i e' yy
  split at h
  ·rename_i hee
   have hee':e=e':=by simpa using hee
   subst hee'
   refine ⟨yy.list,?_,h⟩
   cases hy with
   | v _ _ _ hk =>
    cases hk with
    | sl0 _ _ A c h0=>exact .inl ⟨h0,A,c,rfl⟩
    | sl _ _ b off c us hb hc hlen hcell hrep =>
     by_cases h0:yy.list=[]
     ·exact .inl ⟨h0,some ⟨b,off,none⟩,c,by rw [h0]; rfl⟩
     ·exact .inr ⟨b,off,c,us,rfl,List.length_pos_iff.2 h0,hlen,hcell,hrep⟩
  ·exact h.elim
 ·rename_i r n
  obtain ⟨xs,h1,h2,h3⟩:=withRow_spec h
  have ho':S.obj r=.row e xs:=by rw [hrel.getO_obj]; exact h1
  refine ⟨xs,?_,h3⟩
  cases hy with
  | osl _ _ _ _ hu =>
   have hu':=(hu e _ ho').2 h2.symm
   rcases hrel.wf.row ho' with ⟨h5,h6⟩ | ⟨b,c,arr,h5,h6,h7,h8,h9,h10,h11⟩
   ·rw [h5] at hu'
    rw [h6] at h2
    exact .inl ⟨h6,none,0,hu'⟩
   ·by_cases h0:xs=[]
    ·rw [h0] at h2
     simp at h2
     exact .inl ⟨h0,some ⟨b,0,none⟩,c,by rw [hu',h5,← h2]; rfl⟩
    ·refine .inr ⟨b,0,c,fun i j=>arr.getD (i*(T.get e).lf.length+j) undef,by rw [hu',h5,h2]; rfl,List.length_pos_iff.2 h0,h10,fun i j hi hj=>?_,fun i j hi hj=>h11 i j hi hj⟩
     rw [Nat.zero_add]
     have h12:=Nat.mul_le_mul_right (T.get e).lf.length (show i+1≤c by omega)
     rw [Nat.add_mul,Nat.one_mul] at h12
     have h7':arr.size=c*(T.get e).lf.length:=h7
     exact cell_of h6 (by omega)
 ·refine ⟨[],.inl ⟨rfl,?_⟩,h⟩
  cases hy
  exact ⟨none,0,rfl⟩
 ·exact h.elim
theorem ok_append0 (hT:TabOk P T) (t e:TypeId) (x y:Operand) (sx sy:D) (q:D→St→Heap→Prop) (ho:o.op=.call { callee:=.builtin .append,args:=#[x,y],argTypes:=#[t,t] }) (he:(T.get t).el=some e) (hn:0<(T.get e).lf.length)
  (hrel:Rel (lfs T) st H a S) (hinv:Inv S0 S) (hx:RepD (lfs T) S sx (a.eval x)) (hy:RepD (lfs T) S sy (a.eval y)) (h:evAppend0 e sx sy st H q):OpOk P T S0 o a S q:=by
 have hu:=hT.get_el he
 obtain ⟨hok,ht⟩:=hT.get hn
 have hs:=hok.size S.w
 obtain ⟨i,z,hi,hz,hisz,hzs,hby⟩:=hok.info
 rw [ht] at hs hi
 unfold evAppend0 at h
 split at h
 ·rename_i r n
  obtain ⟨xs,h1,h2,hsr⟩:=withRow_spec h
  have ho':S.obj r=.row e xs:=by rw [hrel.getO_obj]; exact h1
  have hhas:S.has r:=Sig.has_of (by rw [ho']; intro h; cases h)
  obtain ⟨ys,hsrc,h3,h4⟩:=srcOf_spec hrel hn hy hsr
  have hv:a.eval x=rowVal n (S.blk r):=by
   generalize a.eval x=u at hx
   cases hx with
   | osl _ _ _ _ hu'=>exact (hu' e _ ho').2 h2.symm
  have go:∀ v' S',(Builtin.append_ #[t,t] o.type #[a.eval x,a.eval y]).run P S.w=.ok v' S'.w→Rel (lfs T) (stSet st r (.row e (xs++ys))) (hSet H r (.row e (xs++ys))) a S'→Inv S0 S' →
    RepD (lfs T) S' (.osl r (n+ys.length)) v'→OpOk P T S0 o a S q:=by
   intro v' S' hr g1 g2 g3 next Q hnext
   unfold Oper.wp
   have hrun:(execOp a.eval o).run P S.w=.ok (.value v') S'.w:=by
    simp only [execOp,ho,resolve,invoke,Sem.run_bind,builtin]
    simp [Sem.run,pure,hr]
   rw [hrun]
   refine hnext _ _ _ _ S' ?_ g1 g2 g3
   cases r <;> exact h4
  rcases hsrc with ⟨rfl,A,c,hv2⟩ | ⟨b2,off2,c2,us,hv2,hpos,hlen2,hcell2,hrep2⟩
  ·-- nothing is appended
   obtain ⟨g1,g2,g3⟩:=Rel.upd hrel hinv r (.row e (xs++[])) (S.blk r) S.w hhas (Nat.le_refl _) (fun _ _ _=>rfl) rfl rfl rfl (fun x hx=>⟨.inl ⟨x,hx,rfl⟩,hrel.wf.lt r x hx⟩)
    (by
     obtain ⟨j1,j2⟩:=S.upd_at hrel.wf hhas (.row e (xs++[])) (S.blk r) S.w
     refine ⟨fun bc j3 _=>?_,fun e' xs' j3=>?_,fun e' xs' j3=>(by rw [j1] at j3; cases j3)⟩
     ·rw [j1] at j3; cases j3
     ·rw [j1] at j3; cases j3
      exact ⟨xs,ho',by simp,fun _=>j2⟩)
    (fun _ _=>trivial)
    (fun mD mK=>by
     rw [List.append_nil]
     rcases hrel.wf.row ho' with h5 | ⟨b,c,arr,h5,h6,h7,h8,h9,h10,h11⟩
     ·exact .inl h5
     ·exact .inr ⟨b,c,arr,h5,by rw [Sig.upd_w]; exact h6,h7,h8,h9,h10,fun i j hi hj=>by rw [Sig.upd_w,Sig.upd_F]; exact h11 i j hi hj⟩)
   have hvv:∃ A c,rowVal n (S.blk r)=.slice A n c∧n≤c:=by
    rcases hrel.wf.row ho' with ⟨h5,h6⟩ | ⟨b,c,arr,h5,h6,h7,h8,_⟩
    ·rw [h5]; rw [h6] at h2; simp at h2; subst h2; exact ⟨none,0,rfl,Nat.le_refl _⟩
    ·rw [h5]; exact ⟨_,c,rfl,by omega⟩
   obtain ⟨A',c',hv3,hle⟩:=hvv
   refine go (rowVal n (S.blk r)) _ ?_ g1 g2 ?_
   ·rw [hv,hv2,hv3,Sig.upd_w]
    exact run_append_zero hu hs hle
   ·have h5:=g3 (d:=.osl r n) (u:=rowVal n (S.blk r)) (by rw [← hv]; exact hx)
    simpa using h5
  ·have hm:0<ys.length:=hpos
   -- the cells that come
   let news:List Value:=(List.range (ys.length*(T.get e).lf.length)).map fun k=>us (k / (T.get e).lf.length) (k % (T.get e).lf.length)
   have hnl:news.length=ys.length*(T.get e).lf.length:=by simp [news]
   have hng:∀ i j,i<ys.length→j<(T.get e).lf.length→news[i*(T.get e).lf.length+j]?=some (us i j):=fun i j hi hj=>by
    have h7:=Nat.mul_le_mul_right (T.get e).lf.length (show i+1≤ys.length by omega)
    rw [Nat.add_mul,Nat.one_mul] at h7
    have hk:i*(T.get e).lf.length+j<ys.length*(T.get e).lf.length:=by omega
    simp only [news,List.getElem?_map,List.getElem?_range hk,Option.map_some]
    rw [Nat.mul_comm i,Nat.mul_add_div hn,Nat.div_eq_of_lt hj,Nat.mul_add_mod,Nat.mod_eq_of_lt hj,Nat.add_zero]
   have hnews:∀ k u,news[k]?=some u→S.w.cell? ((⟨b2,off2,none⟩:Addr).add k)=some u:=fun k u hk=>by
    have hlt:k<ys.length*(T.get e).lf.length:=by rw [← hnl]; exact (List.getElem?_eq_some_iff.1 hk).1
    have hi2:k / (T.get e).lf.length<ys.length:=Nat.div_lt_of_lt_mul (by rw [Nat.mul_comm]; exact hlt)
    have hj2:k % (T.get e).lf.length<(T.get e).lf.length:=Nat.mod_lt _ hn
    have:=hng _ _ hi2 hj2
    rw [Nat.div_add_mod' k (T.get e).lf.length,hk] at this
    cases this
    rw [add_plain,← hcell2 _ _ hi2 hj2]
    congr 2
    have:=Nat.div_add_mod' k (T.get e).lf.length
    omega
   have hone:∀ u∈news,u.oneCell'=true:=fun u hu=>by
    simp only [news,List.mem_map,List.mem_range] at hu
    obtain ⟨k,hk,rfl⟩:=hu
    exact (hrep2 _ _ (Nat.div_lt_of_lt_mul (by rw [Nat.mul_comm]; exact hk)) (Nat.mod_lt _ hn)).one
   -- the row as it stands
   have hown:∃ olds:List Value,S.w.ownsRow 0 e (T.get e).lf.length (rowVal n (S.blk r)) n olds∧(rowVal n (S.blk r)).ownBlock=(S.blk r).map (·.1) ∧
     ∀ i j,i<xs.length→j<(T.get e).lf.length→RepK (lfs T) S.w S.F ((T.get e).lf.getD j .oth) ((xs.getD i []).getD j V.none) (olds.getD (i*(T.get e).lf.length+j) undef):=by
    rcases hrel.wf.row ho' with ⟨h5,h6⟩ | ⟨b,c,arr,h5,h6,h7,h8,h9,h10,h11⟩
    ·rw [h5]; rw [h6] at h2; simp at h2; subst h2
     exact ⟨[],⟨by simp,.inl ⟨rfl,rfl⟩⟩,rfl,fun i j hi=>by rw [h6] at hi; simp at hi⟩
    ·rw [h5]
     have hnc:=Nat.mul_le_mul_right (T.get e).lf.length (show n≤c by omega)
     have h7':arr.size=c*(T.get e).lf.length:=h7
     refine ⟨arr.toList.take (n*(T.get e).lf.length),⟨by simp; omega,.inr ⟨b,c,arr,rfl,Nat.zero_le _,h6,by omega,h9,h7',rfl⟩⟩,rfl,fun i j hi hj=>?_⟩
     have h12:=Nat.mul_le_mul_right (T.get e).lf.length (show i+1≤n by omega)
     rw [Nat.add_mul,Nat.one_mul] at h12
     rw [getD_take _ _ _ _ (by omega)]
     have e2:∀ k,arr.toList.getD k undef=arr.getD k undef:=fun k=>by simp [List.getD_eq_getElem?_getD,Array.getD_eq_getD_getElem?]
     rw [e2]
     exact h11 i j hi hj
   obtain ⟨olds,hown,hblk,holds⟩:=hown
   have hol:olds.length=n*(T.get e).lf.length:=hown.1
   have hlim:n+ys.length≤549755813888:=h3
   obtain ⟨v',w',hr,hown',hg,hnil,hat⟩:=run_append_own_at (P:=P) S.w 0 t o.type e i z (T.get e).lf.length i.bytes hu hi hz hisz rfl hzs hn (rowVal n (S.blk r)) n olds hown ⟨b2,off2,none⟩ ys.length c2 news hnl hnews hone
    (by unfold maxLen; omega) (by have:=Nat.mul_le_mul hlim hby; omega) (Nat.zero_le _)
   obtain ⟨_,hown2⟩:=hown'
   rcases hown2 with ⟨_,h0⟩ | ⟨g,cap,cur,hv',_,hh',hncap,hcap,hcur,htake⟩
   ·omega
   ·have hblk':g=S.w.heap.size∨(∃ y,S.blk r=some y∧g=y.1):=by
     rw [hv',hblk] at hat
     rcases hat with h5 | h5
     ·right
      cases hb:S.blk r with
      | none=>rw [hb] at h5; simp [Value.ownBlock] at h5
      | some y=>rw [hb] at h5; simp [Value.ownBlock] at h5; exact ⟨y,rfl,h5⟩
     ·left
      simpa [Value.ownBlock] using h5
    have hglt:g<w'.heap.size:=by
     rcases Nat.lt_or_ge g w'.heap.size with h5 | h5
     ·exact h5
     ·rw [Array.getElem?_eq_none h5] at hh'; cases hh'
    have hcurg:∀ k,k<(n+ys.length)*(T.get e).lf.length→cur.getD k undef=(olds++news).getD k undef:=fun k hk=>by
     rw [← htake,getD_take _ _ _ _ hk]
     simp [List.getD_eq_getElem?_getD,Array.getD_eq_getD_getElem?]
    obtain ⟨g1,g2,g3⟩:=Rel.upd hrel hinv r (.row e (xs++ys)) (some (g,cap)) w' hhas hg.size
     (fun b hb hne=>hg.block b hb (fun h5=>by
      rw [hblk] at h5
      cases hb2:S.blk r with
      | none=>rw [hb2] at h5; cases h5
      | some y=>rw [hb2] at h5; simp at h5; exact hne y hb2 h5.symm)) hg.os hg.tape hg.output
     (fun x hx=>by
      cases hx
      refine ⟨?_,hglt⟩
      rcases hblk' with h5 | ⟨y,h5,h6⟩
      ·right; show S.w.heap.size≤g; omega
      ·exact .inl ⟨y,h5,h6⟩)
     (by
      obtain ⟨j1,j2⟩:=S.upd_at hrel.wf hhas (.row e (xs++ys)) (some (g,cap)) w'
      refine ⟨fun bc j3 _=>?_,fun e' xs' j3=>?_,fun e' xs' j3=>(by rw [j1] at j3; cases j3)⟩
      ·rw [j1] at j3; cases j3
      ·rw [j1] at j3; cases j3
       exact ⟨xs,ho',by simp,fun h5=>by simp at h5; rw [h5] at hm; simp at hm⟩)
     (fun _ _=>trivial)
     (fun mD mK=>.inr ⟨g,cap,cur,rfl,by rw [Sig.upd_w]; exact hh',hcur,by simp; omega,hcap,fun i hi=>by
       simp at hi
       by_cases hin:i<xs.length
       ·have h12:(xs++ys).getD i []=xs.getD i []:=by simp [List.getD_eq_getElem?_getD,List.getElem?_append_left hin]
        rw [h12]
        rcases hrel.wf.row ho' with ⟨_,h6⟩ | ⟨b,c,arr,h5,h6,h7,h8,h9,h10,h11⟩
        ·rw [h6] at hin; simp at hin
        ·exact h10 i hin
       ·have h12:(xs++ys).getD i []=ys.getD (i - xs.length) []:=by simp [List.getD_eq_getElem?_getD,List.getElem?_append_right (by omega:xs.length≤i)]
        rw [h12]
        exact hlen2 _ (by omega),
      fun i j hi hj=>by
       rw [Sig.upd_w,Sig.upd_F]
       simp at hi
       have hj':j<(T.get e).lf.length:=hj
       have h13:=Nat.mul_le_mul_right (T.get e).lf.length (show i+1≤n+ys.length by omega)
       rw [Nat.add_mul i,Nat.one_mul] at h13
       rw [hcurg _ (by simp only [lfs]; omega)]
       by_cases hin:i<xs.length
       ·have h12:(xs++ys).getD i []=xs.getD i []:=by simp [List.getD_eq_getElem?_getD,List.getElem?_append_left hin]
        have h14:=Nat.mul_le_mul_right (T.get e).lf.length (show i+1≤n by omega)
        rw [Nat.add_mul i,Nat.one_mul] at h14
        have h15:(olds++news).getD (i*(lfs T e).length+j) undef=olds.getD (i*(T.get e).lf.length+j) undef:=by
         rw [List.getD_eq_getElem?_getD,List.getElem?_append_left (by simp only [lfs]; omega),← List.getD_eq_getElem?_getD]
        rw [h12,h15]
        exact mK (holds i j hin hj')
       ·have h12:(xs++ys).getD i []=ys.getD (i - xs.length) []:=by simp [List.getD_eq_getElem?_getD,List.getElem?_append_right (by omega:xs.length≤i)]
        have h14:n*(T.get e).lf.length≤i*(T.get e).lf.length:=Nat.mul_le_mul_right _ (by omega)
        have h15:(olds++news).getD (i*(lfs T e).length+j) undef=us (i - xs.length) j:=by
         rw [List.getD_eq_getElem?_getD,List.getElem?_append_right (by simp only [lfs]; omega)]
         have h16:i*(lfs T e).length+j - olds.length=(i - xs.length)*(T.get e).lf.length+j:=by
          rw [hol,Nat.sub_mul,h2]; simp only [lfs]; omega
         rw [h16,hng _ _ (by omega) hj']; rfl
        rw [h12,h15]
        exact mK (hrep2 _ _ (by omega) hj')⟩)
    refine go v' _ ?_ g1 g2 ?_
    ·rw [hv,hv2,Sig.upd_w]; exact hr
    ·obtain ⟨j1,j2⟩:=S.upd_at hrel.wf hhas (.row e (xs++ys)) (some (g,cap)) w'
     refine .osl _ _ _ ⟨Sig.inb_mono (S:=S) (by rw [Sig.upd_len]; exact Nat.le_refl _) (by cases r <;> first | trivial | exact hhas),by rw [hv']; rfl⟩ fun e' xs' j3=>?_
     rw [j1] at j3
     cases j3
     exact ⟨by simp; omega,fun _=>by rw [j2,hv']; rfl⟩
 ·exact h.elim
theorem ok_append (hT:TabOk P T) (t e:TypeId) (x y:Operand) (d:Nat) (q:D→St→Heap→Prop) (ho:o.op=.call { callee:=.builtin .append,args:=#[x,y],argTypes:=#[t,t] }) (he:(T.get t).el=some e) (hn:0<(T.get e).lf.length)
  (hrel:Rel (lfs T) st H a S) (hinv:Inv S0 S) (h:evAppend e d (st.eval x) (st.eval y) st H q):OpOk P T S0 o a S q:=by
 have hx:=hrel.eval x
 have hy:=hrel.eval y
 unfold evAppend at h
 split at h
 ·rename_i hnil
  rw [hnil] at hx
  obtain ⟨h1,h2,h3⟩:=Rel.newRow hrel hinv d e
  have hv:a.eval x=.slice none 0 0:=by
   generalize a.eval x=u at hx
   cases hx; rfl
  have:=ok_append0 hT t e x y _ _ q ho he hn h1 h2 (by rw [hv]; exact h3) (newSig_repD (w':=S.w) hrel.wf (fun _ _=>rfl) hy) h
  exact this
 ·exact ok_append0 hT t e x y _ _ q ho he hn hrel hinv hx hy h
theorem zeroV_rep {lf:TypeId→List K} {S:Sig} {k:K} {u:Value} (hk:k.isData=true) (h:RepD lf S (zeroD k) u):RepK lf S.w S.F k (zeroV k) u:=by
 cases k with
 | int k=>cases h with | v _ _ _ h=>exact h
 | bool=>cases h with | v _ _ _ h=>exact h
 | str=>cases h with | v _ _ _ h=>exact h
 | sl e=>cases h with | nil=>exact .sl0 e (.l []) none 0 rfl
 | mp m=>cases hk
 | oth=>cases hk
theorem madeCells_getD (z:Array Value) (n m i j:Nat) (hm:z.size=m) (hj:j<m) (hi:i*m+j<n):(madeCells z n).getD (i*m+j) undef=z.getD j undef:=by
 have hm0:0<m:=by omega
 unfold madeCells
 rw [Array.getD_eq_getD_getElem?,Array.getElem?_map,Array.getElem?_range,if_pos hi]
 simp only [Option.map_some,Option.getD_some,hm]
 have:(i*m+j) % m=j:=by rw [Nat.mul_add_mod',Nat.mod_eq_of_lt hj]
 rw [this,Array.getD_eq_getD_getElem?,getElem!_pos z j (by omega),Array.getElem?_eq_getElem (by omega)]; rfl
theorem ok_makeSlice (hT:TabOk P T) (t:TypeId) (x y:Operand) (d:Nat) (q:D→St→Heap→Prop) (ho:o.op=.makeSlice t x y) (hrel:Rel (lfs T) st H a S) (hinv:Inv S0 S)
  (h:evMakeSlice T t d (st.eval x) (st.eval y) st H q):OpOk P T S0 o a S q:=by
 have hx:=hrel.eval x
 have hy:=hrel.eval y
 unfold evMakeSlice at h
 split at h
 ·rename_i e k m k' m' he h1 h2
  rw [h1] at hx; rw [h2] at hy
  have ex:=hx.int_inv; have ey:=hy.int_inv
  split at h
  ·rename_i hb
   obtain ⟨hn,hdat⟩:0<(T.get e).lf.length∧(T.get e).lf.all K.isData=true:=by rw [Bool.and_eq_true,Nat.blt_eq] at hb; exact hb
   obtain ⟨h3,h4,h5,h6⟩:=h
   have hu:=hT.get_el he
   obtain ⟨hok,ht⟩:=hT.get hn
   obtain ⟨i,z,hi,hz,hisz,hzs,hby⟩:=hok.info
   obtain ⟨z2,hz2,_,hz2r⟩:=hok.zero
   rw [ht] at hi hz2
   have hzz:z2=z:=by
    have:=hz2 S.w
    simp [zeroValue,typeInfo,hi,hz,program,Sem.run,pure] at this
    exact this.symm
   subst hzz
   intro next Q hnext
   unfold Oper.wp
   have hl:m.int≤549755813888:=by simpa [lim] using h5
   have hbytes:(i.bytes:Int)*m.int≤281474976710656:=by
    have h7:((i.bytes:Nat):Int)≤256:=by omega
    have:=Int.mul_le_mul h7 hl h3 (by omega)
    omega
   have hr:=run_make (P:=P) S.w t e i z2 hu hi hz k k' m.int m'.int h3 (by omega) (by rw [h4]; exact hbytes) (by omega)
   have hrun:(execOp a.eval o).run P S.w=.ok (.value (.slice (some ⟨S.w.heap.size,0,none⟩) m.int.toNat m.int.toNat)) (S.w.alloc (.cells (madeCells z2.cells (m.int.toNat*i.size)) e)):=by
    rw [h4] at hr
    rw [h4] at ey
    simp only [execOp,ho,ex,ey,Sem.run_bind,hr,Result.andThen_ok]
    rfl
   rw [hrun]
   have hzl:(zeroRow (T.get e).lf m.int.toNat).length=m.int.toNat:=by simp [zeroRow]
   have hzg:∀ i,i<m.int.toNat→(zeroRow (T.get e).lf m.int.toNat).getD i []=(T.get e).lf.map zeroV:=fun i hi=>by
    simp [zeroRow,List.getD_eq_getElem?_getD,List.getElem?_replicate,hi]
   obtain ⟨S',g1,g2,g3,g4⟩:=Rel.newRowB hrel hinv d e (zeroRow (T.get e).lf m.int.toNat) m.int.toNat (madeCells z2.cells (m.int.toNat*i.size)) (by rw [size_madeCells,hisz]) (by rw [hzl]; exact Nat.le_refl _) (by unfold maxLen; omega)
    (fun i hi=>by rw [hzl] at hi; rw [hzg i hi]; simp [lfs])
    (fun r j hr' hj=>by
     rw [hzl] at hr'
     have hj':j<(T.get e).lf.length:=hj
     rw [hzg r hr',hisz]
     have h7:=Nat.mul_le_mul_right (T.get e).lf.length (show r+1≤m.int.toNat by omega)
     rw [Nat.add_mul,Nat.one_mul] at h7
     rw [show (lfs T e).length=(T.get e).lf.length from rfl,madeCells_getD _ _ (T.get e).lf.length r j hzs hj' (by omega)]
     have h8:((T.get e).lf.map zeroV).getD j V.none=zeroV ((T.get e).lf.getD j .oth):=by
      simp [List.getD_eq_getElem?_getD,hj']
     rw [h8]
     refine zeroV_rep ?_ (hz2r (lfs T) S j hj').1
     rw [List.getD_eq_getElem?_getD,List.getElem?_eq_getElem hj']
     exact List.all_eq_true.1 hdat _ (List.getElem_mem hj'))
   rw [← g1]
   rw [hzl] at g4
   exact hnext _ _ _ H S' h6 g2 g3 g4
  ·exact h.elim
 ·exact h.elim
theorem ok_convert (hT:TabOk P T) (s t:TypeId) (x:Operand) (q:D→St→Heap→Prop) (ho:o.op=.convert s t x) (hrel:Rel (lfs T) st H a S) (hinv:Inv S0 S)
  (h:evConvert T s t (st.eval x) fun d=>q d st H):OpOk P T S0 o a S q:=by
 have hx:=hrel.eval x
 unfold evConvert at h
 split at h
 ·rename_i k n h1
  rw [h1] at hx
  have ex:=hx.int_inv
  split at h
  ·rename_i k' hk hk'
   have hs:=hT.get_int (t:=s) (by simpa using hk)
   have hd:=hT.get_int hk'
   refine OpOk.value hrel hinv (v:=.int k' (k'.wrap n.int)) (d:=_) ?_ (RepD.mkInt _) h
   simp only [execOp,ho,ex,Sem.run_bind]
   simp [Sem.run,pure,convert,run_underlying hs,run_underlying hd,Conv.intToInt]
  ·exact h.elim
 ·rename_i e y h1
  rw [h1] at hx
  split at h
  ·rename_i e' he'
   split at h
   ·rename_i hc
    simp only [Bool.and_eq_true,decide_eq_true_eq] at hc
    obtain ⟨⟨⟨q1,q2⟩,q3⟩,q4⟩:=hc
    have he:e=e':=Nat.eq_of_beq_eq_true q1
    subst he
    have hs:=hT.get_el he'
    have hb:=hT.get_int q2
    have hd:=hT.get_str q4
    have fin:(convert s t (a.eval x)).run P S.w=.ok (.string (strV y.list)) S.w→y.list.length≤big→OpOk P T S0 o a S q:=by
     intro hr hz
     refine OpOk.value hrel hinv (v:=.string (strV y.list)) (d:=_) ?_ (RepD.mkStr _ (by simpa [strV,ByteArray.size] using hz)) h
     simp only [execOp,ho,Sem.run_bind,hr,Result.andThen_ok]
     rfl
    generalize a.eval x=u at hx fin
    cases hx with
    | v _ _ _ hk =>
     cases hk with
     | sl0 _ _ A c h0 =>
      refine fin ?_ (by rw [h0]; exact Nat.zero_le _)
      have e0:strV y.list=ByteArray.empty:=by rw [h0]; rfl
      rw [e0]
      cases A with
      | none=>exact run_convert_bytes_nil S.w s e hs hb 0 c t hd
      | some A =>
       have hl:(loadCells A 0).run P S.w=.ok (([]:List Int).map (Value.int .u8)).toArray S.w:=run_loadCells_list (P:=P) S.w A [] (fun j v hj=>by simp at hj)
       rw [run_convert_bytes_string S.w s t e _ 0 c hs hb hd,run_bytesToString S.w A 0 c [] hl]
       rfl
     | sl _ _ b off c us hF hc hlen hcell hrep =>
      refine fin ?_ (by omega)
      have hl1:(lfs T e).length=1:=by simp only [lfs,q3]; rfl
      have:=run_convert_bytes_arg (P:=P) S.w s e hs hb b off y.list.length c (y.list.map fun c=>(c.headD V.none).int) (by simp) (fun i hi=>by
       have h1:=hcell i 0 hi (by omega)
       have h2:=hrep i 0 hi (by omega)
       rw [hl1,Nat.mul_one,Nat.add_zero] at h1
       rw [h1]
       simp only [lfs,q3,List.getD_cons_zero] at h2
       generalize us i 0=w at h2 ⊢
       cases h2
       simp [List.getD_eq_getElem?_getD,List.getElem?_eq_getElem hi]
       cases y.list[i] <;> rfl) t hd
      rw [this]
      simp [strOfNums,strV,List.map_map,Function.comp_def]
   ·exact h.elim
  ·exact h.elim
 ·rename_i y h1
  rw [h1] at hx
  have ex:=hx.str_inv
  split at h
  ·rename_i e hk he
   have hs:=hT.get_str (t:=s) (by simpa using hk)
   have hd:=hT.get_el he
   split at h
   ·rename_i hke hlf
    have hue:=hT.get_int (t:=e) (k:=.u8) (by simpa using hke)
    have hlf':(T.get e).lf=[.int .u8]:=by simpa using hlf
    intro next Q hnext
    unfold Oper.wp
    have hr:=Lib.run_convert_string_bytes (P:=P) S.w s t e y.str hs hd hue
    have hrun:(execOp a.eval o).run P S.w=.ok (.value (.slice (some ⟨S.w.heap.size,0,none⟩) y.str.size (grownCap S.w y.str.size 0 e))) (Lib.bytesWorld S.w e y.str):=by
     simp only [execOp,ho,ex,Sem.run_bind,hr,Result.andThen_ok]
     rfl
    rw [hrun]
    have hw':(Lib.bytesWorld S.w e y.str).os=S.w.os∧(Lib.bytesWorld S.w e y.str).tape=S.w.tape∧(Lib.bytesWorld S.w e y.str).output=S.w.output:=by
     unfold Lib.bytesWorld World.freeze
     rw [if_neg (by decide)]
     exact ⟨rfl,rfl,rfl⟩
    obtain ⟨S',w1,w2,r1,r2,_,_⟩:=Rel.newFrozenW hrel hinv (Lib.bytesWorld S.w e y.str) (fun b hb=>Lib.bytesWorld_at_old _ _ _ _ hb) (Lib.bytesWorld_size _ _ _) hw'.1 hw'.2.1 hw'.2.2
    rw [← w1]
    have hlen:(bytesV y.str).length=y.str.size:=by simp [bytesV]
    refine hnext _ _ st H S' h r1 r2 (.v _ _ _ ?_)
    have hbg:∀ i,i<y.str.size→(bytesV y.str).getD i []=[.i ((y.str.data.toList.getD i 0).toNat:Int)]:=fun i hi=>by
     have hi':i<y.str.data.toList.length:=by simpa using hi
     simp only [bytesV,List.getD_eq_getElem?_getD,List.getElem?_map,List.getElem?_eq_getElem hi',Option.map_some,Option.getD_some]
    have:=RepK.sl (lf:=lfs T) (w:=S'.w) (F:=S'.F) e (.l (bytesV y.str)) S.w.heap.size 0 (grownCap S.w y.str.size 0 e) (fun i _=>.int .u8 ((y.str.data.toList.getD i 0).toNat:Int)) (by rw [w2]; exact .inr rfl)
     ⟨by show (bytesV y.str).length≤_; rw [hlen]; exact grownCap_ge _ _ _ _,grownCap_le_maxLen _ _ _ _ hx.str_len⟩
     (fun i hi=>by
      have hi':i<y.str.size:=by rw [← hlen]; exact hi
      show ((bytesV y.str).getD i []).length=_
      rw [hbg i hi']; simp [lfs,hlf'])
     (fun i j hi hj=>by
      have hi':i<y.str.size:=by rw [← hlen]; exact hi
      have hj':j=0:=by simp [lfs,hlf'] at hj; exact hj
      subst hj'
      rw [w1,show 0+i*(lfs T e).length+0=i by simp [lfs,hlf']]
      exact Lib.bytesWorld_cell _ _ _ _ hi')
     (fun i j hi hj=>by
      have hi':i<y.str.size:=by rw [← hlen]; exact hi
      have hj':j=0:=by simp [lfs,hlf'] at hj; exact hj
      subst hj'
      show RepK _ _ _ ((lfs T e).getD 0 .oth) (((bytesV y.str).getD i []).getD 0 V.none) _
      rw [hbg i hi',show (lfs T e).getD 0 .oth=.int .u8 by simp [lfs,hlf']]
      exact .int .u8 _)
    have e2:(V.l (bytesV y.str)).list.length=y.str.size:=hlen
    rw [e2] at this
    exact this
   ·exact h.elim
  ·rename_i hk he
   have hs:=hT.get_str (t:=s) (by simpa using hk)
   split at h
   ·rename_i hk2
    have hd:=hT.get_str (t:=t) (by simpa using hk2)
    refine OpOk.value hrel hinv (v:=.string y.str) (d:=_) ?_ (.v _ _ _ (.str _ hx.str_len)) h
    simp only [execOp,ho,ex,Sem.run_bind]
    simp [Sem.run,pure,convert,run_underlying hs,run_underlying hd]
   ·exact h.elim
  ·exact h.elim
 ·exact h.elim
end Go.Abs
namespace Go.Abs
variable {P:Program} {T:Tab} {S0:Sig} {o:Oper} {a:Act} {S:Sig} {st:St} {H:Heap}
theorem Ref.beq_iff {r r':Ref}:Ref.beq r r'=true↔r=r':=by
 cases r <;> cases r' <;> simp [Ref.beq]
theorem memR_iff:∀ {l:List Ref} {r:Ref},memR r l=true↔r∈l
 | [],r=>by simp [memR]
 | x::l,r=>by
  simp only [memR]
  cases h:Ref.beq r x with
  | true=>simp [Ref.beq_iff.1 h]
  | false =>
   have hne:r≠x:=fun he=>by rw [he,Ref.beq_iff.2 rfl] at h; cases h
   simp [memR_iff (l:=l),hne]
theorem memR_false {l:List Ref} {r:Ref}:memR r l=false↔r ∉ l:=by
 rw [← memR_iff]; cases memR r l <;> simp
theorem idxR_spec:∀ {l:List Ref} {r:Ref},r∈l→idxR r l<l.length∧∀ d,l.getD (idxR r l) d=r
 | [],r,h=>by cases h
 | x::l,r,h=>by
  simp only [idxR]
  cases hb:Ref.beq r x with
  | true=>exact ⟨by simp,fun d=>by simp [Ref.beq_iff.1 hb]⟩
  | false =>
   have hne:r≠x:=fun he=>by rw [he,Ref.beq_iff.2 rfl] at hb; cases hb
   have h':r∈l:=by
    rcases List.mem_cons.1 h with h | h
    ·exact absurd h hne
    ·exact h
   obtain ⟨h1,h2⟩:=idxR_spec h'
   exact ⟨by simpa using h1,fun d=>by simpa using h2 d⟩
theorem getD_mem:∀ {l:List Ref} {i:Nat} (d:Ref),i<l.length→l.getD i d∈l:=fun {l i} d h=>by
 rw [List.getD_eq_getElem?_getD,List.getElem?_eq_getElem h]
 exact List.getElem_mem h
theorem idxR_getD:∀ {l:List Ref} {i:Nat} (d:Ref),nodupR l=true→i<l.length→idxR (l.getD i d) l=i
 | [],i,d,_,h=>by simp at h
 | x::l,0,d,_,_=>by simp [idxR,Ref.beq_iff.2]
 | x::l,i+1,d,hn,h=>by
  obtain ⟨h1,h2⟩:memR x l=false∧nodupR l=true:=by simpa [nodupR] using hn
  have h':i<l.length:=by simpa using h
  have hm:l.getD i d∈l:=getD_mem d h'
  have hne:Ref.beq (l.getD i d) x=false:=by
   cases hb:Ref.beq (l.getD i d) x with
   | false=>rfl
   | true=>rw [Ref.beq_iff.1 hb] at hm; exact absurd hm (memR_false.1 h1)
  simp only [List.getD_cons_succ,idxR,hne]
  rw [idxR_getD d h2 h']
mutual
theorem anyR_refs {p:Ref→Bool}:∀ (d:D),D.anyR p d=false↔∀ r∈d.refs,p r=false
 | .v _ _=>by simp [D.anyR,D.refs]
 | .nil=>by simp [D.anyR,D.refs]
 | .elt _ _ _=>by simp [D.anyR,D.refs]
 | .ln _=>by simp [D.anyR,D.refs]
 | .skip=>by simp [D.anyR,D.refs]
 | .undef=>by simp [D.anyR,D.refs]
 | .ptr _ _=>by simp [D.anyR,D.refs]
 | .relt _ _ _ _ _=>by simp [D.anyR,D.refs]
 | .osl _ _=>by simp [D.anyR,D.refs]
 | .mp _=>by simp [D.anyR,D.refs]
 | .agg cs=>by simp only [D.anyR,D.refs]; exact anyL_refs cs
 | .tup cs=>by simp only [D.anyR,D.refs]; exact anyL_refs cs
 | .fn _ cs=>by simp only [D.anyR,D.refs]; exact anyL_refs cs
theorem anyL_refs {p:Ref→Bool}:∀ (l:List D),D.anyL p l=false↔∀ r∈D.refsL l,p r=false
 | []=>by simp [D.anyL,D.refsL]
 | d::r=>by
  simp only [D.anyL,D.refsL,List.mem_append]
  cases h:D.anyR p d with
  | true =>
   simp only [Bool.true_eq_false,false_iff]
   intro hf
   have:=(anyR_refs d).2 fun r hr=>hf r (.inl hr)
   rw [h] at this; cases this
  | false =>
   have h1:=(anyR_refs d).1 h
   refine Iff.trans (show _↔D.anyL p r=false from Iff.rfl) ?_
   rw [anyL_refs r]
   exact ⟨fun h2 x hx=>hx.elim (h1 x) (h2 x),fun h2 x hx=>h2 x (.inr hx)⟩
end
mutual
theorem refs_mapR (f:Ref→Ref):∀ (d:D),(D.mapR f d).refs=d.refs.map f
 | .v _ _=>rfl | .nil=>rfl | .elt _ _ _=>rfl | .ln _=>rfl | .skip=>rfl | .undef=>rfl
 | .ptr _ _=>rfl | .relt _ _ _ _ _=>rfl | .osl _ _=>rfl | .mp _=>rfl
 | .agg cs=>refs_mapRL f cs
 | .tup cs=>refs_mapRL f cs
 | .fn _ cs=>refs_mapRL f cs
theorem refs_mapRL (f:Ref→Ref):∀ (l:List D),D.refsL (D.mapRL f l)=(D.refsL l).map f
 | []=>rfl
 | d::r=>by simp only [D.mapRL,D.refsL,List.map_append,refs_mapR f d,refs_mapRL f r]
end
mutual
theorem mapR_back (f g:Ref→Ref):∀ (d:D),(∀ r∈d.refs,g (f r)=r)→D.mapR g (D.mapR f d)=d
 | .v _ _,_=>rfl | .nil,_=>rfl | .elt _ _ _,_=>rfl | .ln _,_=>rfl | .skip,_=>rfl | .undef,_=>rfl
 | .ptr r _,h=>by simp [D.mapR,h r (by simp [D.refs])]
 | .relt r _ _ _ _,h=>by simp [D.mapR,h r (by simp [D.refs])]
 | .osl r _,h=>by simp [D.mapR,h r (by simp [D.refs])]
 | .mp r,h=>by simp [D.mapR,h r (by simp [D.refs])]
 | .agg cs,h=>by simp only [D.mapR]; rw [mapRL_back f g cs h]
 | .tup cs,h=>by simp only [D.mapR]; rw [mapRL_back f g cs h]
 | .fn _ cs,h=>by simp only [D.mapR]; rw [mapRL_back f g cs h]
theorem mapRL_back (f g:Ref→Ref):∀ (l:List D),(∀ r∈D.refsL l,g (f r)=r)→D.mapRL g (D.mapRL f l)=l
 | [],_=>rfl
 | d::r,h=>by
  simp only [D.refsL,List.mem_append] at h
  simp only [D.mapRL]
  rw [mapR_back f g d fun x hx=>h x (.inl hx),mapRL_back f g r fun x hx=>h x (.inr hx)]
end
theorem mapRL_eq (f:Ref→Ref):∀ (l:List D),D.mapRL f l=l.map (D.mapR f)
 | []=>rfl
 | d::r=>by simp [D.mapRL,mapRL_eq f r]
theorem mapRL_length (f:Ref→Ref) (l:List D):(D.mapRL f l).length=l.length:=by simp [mapRL_eq]
theorem mapRL_getD (f:Ref→Ref) (l:List D) (j:Nat):(D.mapRL f l).getD j .undef=D.mapR f (l.getD j .undef):=by
 rw [mapRL_eq]
 simp only [List.getD_eq_getElem?_getD,List.getElem?_map]
 cases l[j]? <;> rfl
theorem refs_getD:∀ {l:List D} {j:Nat} {r:Ref},r∈(l.getD j .undef).refs→r∈D.refsL l
 | [],j,r,h=>by simp [D.refs] at h
 | d::l,0,r,h=>by simp only [D.refsL,List.mem_append]; exact .inl h
 | d::l,j+1,r,h=>by simp only [D.refsL,List.mem_append]; exact .inr (refs_getD (l:=l) (j:=j) h)
structure KeepR (S S':Sig) (r r':Ref):Prop where
 inb:S'.inb r'
 cells:∀ bc,(S'.obj r').isPt=true→S'.blk r'=some bc→(S.obj r).isPt=true∧S.blk r=some bc
 row:∀ e xs,S'.obj r'=.row e xs→∃ xs0,S.obj r=.row e xs0∧xs0.length≤xs.length∧(xs0.length=xs.length→S'.blk r'=S.blk r)
 map:∀ m xs,S'.obj r'=.map m xs→∃ xs0,S.obj r=.map m xs0∧S'.blk r'=S.blk r
theorem RepD.ren {lf:TypeId→List K} {S S':Sig} (hF:∀ b,S.F b→S'.F b) (hw:∀ b,S.F b→S'.w.heap[b]?=S.w.heap[b]?) (f:Ref→Ref) {d:D} {u:Value} (h:RepD lf S d u)
  (hk:∀ r∈d.refs,KeepR S S' r (f r)):RepD lf S' (d.mapR f) u:=by
 induction h with
 | v k x u h=>exact .v k x u (h.mono hF hw)
 | nil=>exact .nil
 | agg cs us hl _ ih=>exact .agg _ us (by rw [mapRL_length]; exact hl) fun j=>by rw [mapRL_getD]; exact ih j fun r hr=>hk r (refs_getD hr)
 | tup cs us hl _ ih=>exact .tup _ us (by rw [mapRL_length]; exact hl) fun j=>by rw [mapRL_getD]; exact ih j fun r hr=>hk r (refs_getD hr)
 | ptr r off u h1 h =>
  have k:=hk r (by simp [D.refs])
  exact .ptr _ off u ⟨k.inb,h1.2⟩ fun bc h1 h2=>by
   obtain ⟨a,b⟩:=k.cells bc h1 h2
   exact h bc a b
 | elt e cs off b o us hb hc hr =>
  exact .elt e cs off b o us (hF b hb) (fun j hj=>by rw [← hc j hj]; exact World.cell?_of_block (hw b hb)) fun j hj=>(hr j hj).mono hF hw
 | relt r e n i off u h1 h =>
  have k:=hk r (by simp [D.refs])
  exact .relt _ e n i off u ⟨k.inb,h1.2⟩ fun e' xs h1=>by
   obtain ⟨xs0,a,b,c⟩:=k.row e' xs h1
   obtain ⟨h2,h3⟩:=h e' xs0 a
   exact ⟨by omega,fun he bc hbc=>h3 (by omega) bc (by rw [← c (by omega)]; exact hbc)⟩
 | osl r n u h1 h =>
  have k:=hk r (by simp [D.refs])
  exact .osl _ n u ⟨k.inb,h1.2⟩ fun e xs h1=>by
   obtain ⟨xs0,a,b,c⟩:=k.row e xs h1
   obtain ⟨h2,h3⟩:=h e xs0 a
   exact ⟨by omega,fun he=>by rw [c (by omega)]; exact h3 (by omega)⟩
 | mp r u h1 h =>
  have k:=hk r (by simp [D.refs])
  exact .mp _ u ⟨k.inb,h1.2⟩ fun m xs h1 bc h2=>by
   obtain ⟨xs0,a,b⟩:=k.map m xs h1
   exact h m xs0 a bc (by rw [← b]; exact h2)
 | fn g caps us hl _ ih=>exact .fn g _ us (by rw [mapRL_length]; exact hl) fun j=>by rw [mapRL_getD]; exact ih j fun r hr=>hk r (refs_getD hr)
 | ln n A c h=>exact .ln n A c h
 | skip=>exact .skip
 | undef u=>exact .undef u
def Sig.sub (S:Sig) (rs:List Ref):Sig:={ w:=S.w,F:=S.F,H:=rs.map fun r=>(S.obj r).mapR (renR rs),mu:=rs.map S.blk,L:=[],la:=[] }
theorem sub_loc (S:Sig) (rs:List Ref) (i:Nat):(S.sub rs).obj (.loc i)=.dead∧(S.sub rs).blk (.loc i)=none:=by simp [Sig.obj,Sig.blk,Sig.sub]
theorem sub_own (S:Sig) (rs:List Ref) (i:Nat) (d:Ref) (h:i<rs.length):(S.sub rs).obj (.own i)=(S.obj (rs.getD i d)).mapR (renR rs)∧(S.sub rs).blk (.own i)=S.blk (rs.getD i d):=by
 simp [Sig.obj,Sig.blk,Sig.sub,List.getD_eq_getElem?_getD,List.getElem?_map,List.getElem?_eq_getElem h]
theorem sub_out (S:Sig) (rs:List Ref) (i:Nat) (h:¬ i<rs.length):(S.sub rs).obj (.own i)=.dead∧(S.sub rs).blk (.own i)=none:=by
 simp [Sig.obj,Sig.blk,Sig.sub,List.getD_eq_getElem?_getD,List.getElem?_map,List.getElem?_eq_none (by omega:rs.length≤i)]
theorem mapR_row {f:Ref→Ref} {o:Obj} {e:TypeId} {xs:List (List V)} (h:o.mapR f=.row e xs):o=.row e xs:=by
 cases o with
 | row _ _=>exact h
 | _=>cases h
theorem mapR_map {f:Ref→Ref} {o:Obj} {m:MT} {xs:List (List V)} (h:o.mapR f=.map m xs):o=.map m xs:=by
 cases o with
 | map _ _=>exact h
 | _=>cases h
theorem mapR_isPt (f:Ref→Ref) (o:Obj):(o.mapR f).isPt=o.isPt:=by cases o <;> rfl
theorem sub_keep (S:Sig) {rs:List Ref} {r:Ref} (h:r∈rs):KeepR S (S.sub rs) r (renR rs r):=by
 obtain ⟨h1,h2⟩:=idxR_spec h
 obtain ⟨h3,h4⟩:=sub_own S rs (idxR r rs) (.own 0) h1
 rw [h2] at h3 h4
 refine ⟨?_,fun bc h5 h6=>?_,fun e xs h5=>?_,fun m xs h5=>?_⟩
 ·show idxR r rs<(S.sub rs).H.length
  simpa [Sig.sub] using h1
 ·rw [show (S.sub rs).obj (renR rs r)=_ from h3,mapR_isPt] at h5
  exact ⟨h5,h4.symm.trans h6⟩
 ·exact ⟨xs,mapR_row (h3.symm.trans h5),Nat.le_refl _,fun _=>h4⟩
 ·exact ⟨xs,mapR_map (h3.symm.trans h5),h4⟩
theorem ren_noloc (rs:List Ref) (d:D):D.anyR Ref.isLoc (D.mapR (renR rs) d)=false:=by
 rw [anyR_refs,refs_mapR]
 intro r hr
 obtain ⟨x,_,rfl⟩:=List.mem_map.1 hr
 rfl
theorem renL_noloc (rs:List Ref) (l:List D):D.anyL Ref.isLoc (D.mapRL (renR rs) l)=false:=by
 rw [anyL_refs,refs_mapRL]
 intro r hr
 obtain ⟨x,_,rfl⟩:=List.mem_map.1 hr
 rfl
theorem Wf.sub (hwf:Wf (lfs T) S) {rs:List Ref} (hnd:nodupR rs=true) (hlive:∀ r∈rs,(S.obj r).isDead=false) (hcl:∀ r∈rs,∀ r'∈(S.obj r).refs,r'∈rs):Wf (lfs T) (S.sub rs):=by
 have hblk:∀ r x,(S.sub rs).blk r=some x→∃ i,r=.own i∧i<rs.length∧S.blk (rs.getD i (.own 0))=some x:=fun r x hx=>by
  cases r with
  | loc i=>rw [(sub_loc S rs i).2] at hx; cases hx
  | own i =>
   by_cases hi:i<rs.length
   ·exact ⟨i,rfl,hi,by rw [← (sub_own S rs i (.own 0) hi).2]; exact hx⟩
   ·rw [(sub_out S rs i hi).2] at hx; cases hx
 refine ⟨fun b hb=>⟨(hwf.frozen b hb).1,fun r x hx=>?_⟩,fun r r' x x' hx hx' he=>?_,fun r x hx=>?_,fun r=>?_,fun i=>?_,by simp [Sig.sub],rfl,List.nodup_nil,fun d hd=>(by cases hd)⟩
 ·obtain ⟨i,_,_,h⟩:=hblk r x hx
  exact (hwf.frozen b hb).2 _ x h
 ·obtain ⟨i,rfl,hi,h⟩:=hblk r x hx
  obtain ⟨i',rfl,hi',h'⟩:=hblk r' x' hx'
  have:=hwf.inj _ _ x x' h h' he
  have h1:=idxR_getD (.own 0) hnd hi
  rw [this,idxR_getD (.own 0) hnd hi'] at h1
  rw [h1]
 ·obtain ⟨i,_,_,h⟩:=hblk r x hx
  exact hwf.lt _ x h
 ·cases r with
  | loc i=>rw [(sub_loc S rs i).1,(sub_loc S rs i).2]; rfl
  | own i =>
   by_cases hi:i<rs.length
   ·obtain ⟨h1,h2⟩:=sub_own S rs i (.own 0) hi
    rw [h1,h2]
    have hm:=getD_mem (.own 0) hi
    generalize rs.getD i (.own 0)=r at *
    have:=hwf.obj r
    have hc:=hcl r hm
    cases hr:S.obj r with
    | cells cs =>
     rw [hr] at this hc
     obtain ⟨b,c,e,arr,h3,h4,h5,h6⟩:=this
     refine ⟨b,c,e,arr,h3,h4,by rw [mapRL_length]; exact h5,fun j hj=>?_⟩
     rw [mapRL_length] at hj
     rw [mapRL_getD]
     exact ⟨RepD.ren (S:=S) (S':=S.sub rs) (fun _ h=>h) (fun _ _=>rfl) (renR rs) (h6 j hj).1 fun r' hr'=>sub_keep S (hc r' (refs_getD hr')),(h6 j hj).2⟩
    | row e xs=>rw [hr] at this; exact this
    | map m xs=>rw [hr] at this; exact this
    | iter m x n s=>have:=hlive r hm; rw [hr] at this; cases this
    | dead=>rw [hr] at this; exact this
   ·rw [(sub_out S rs i hi).1,(sub_out S rs i hi).2]; rfl
 ·show ((S.sub rs).H.getD i .dead).free
  by_cases hi:i<rs.length
  ·have h1:=(sub_own S rs i (.own 0) hi).1
   rw [show (S.sub rs).H.getD i .dead=(S.sub rs).obj (.own i) from rfl,h1]
   have hl:=hlive _ (getD_mem (.own 0) hi)
   cases hr:S.obj (rs.getD i (.own 0)) with
   | cells cs=>exact renL_noloc rs cs
   | iter m x n s=>rw [hr] at hl; cases hl
   | _=>trivial
  ·rw [show (S.sub rs).H.getD i .dead=(S.sub rs).obj (.own i) from rfl,(sub_out S rs i hi).1]; trivial
theorem updI_length {α:Type} (f:Nat→α→α):∀ (l:List α) (i:Nat),(updI f i l).length=l.length
 | [],_=>rfl
 | x::l,i=>by simp [updI,updI_length f l]
theorem updI_getD {α:Type} (f:Nat→α→α) (d:α):∀ (l:List α) (i j:Nat),j<l.length→(updI f i l).getD j d=f (i+j) (l.getD j d)
 | [],i,j,h=>by simp at h
 | x::l,i,0,_=>by simp [updI]
 | x::l,i,j+1,h=>by
  simp only [updI,List.getD_cons_succ]
  rw [updI_getD f d l (i+1) j (by simpa using h),show i+1+j=i+(j+1) from by omega]
theorem updI_out {α:Type} (f:Nat→α→α) (d:α) (l:List α) (i j:Nat) (h:¬ j<l.length):(updI f i l).getD j d=d:=by
 rw [List.getD_eq_getElem?_getD,List.getElem?_eq_none (by rw [updI_length]; omega)]; rfl
def newBlk (rs:List Ref) (mu:List (Option (Nat×Nat))) (r:Ref) (x:Option (Nat×Nat)):Option (Nat×Nat):=match memR r rs with | true=>mu.getD (idxR r rs) none | false=>x
def Sig.join (S : Sig) (rs : List Ref) (S1 : Sig) : Sig :=
  { w := S1.w, F := S1.F, H := updI (fun i => newObj rs S1.H (.own i)) 0 S.H, mu := updI (fun i => newBlk rs S1.mu (.own i)) 0 S.mu,
    L := updI (fun i => newObj rs S1.H (.loc i)) 0 S.L, la := updI (fun i => newBlk rs S1.mu (.loc i)) 0 S.la, mks := S.mks }
theorem notDead {o:Obj} (h:o.isDead=false):o≠.dead:=fun he=>by rw [he] at h; cases h
theorem join_in (hwf:Wf (lfs T) S) {rs:List Ref} {S1:Sig} {r:Ref} (h:r∈rs) (hl:S.obj r≠.dead) :
  (S.join rs S1).obj r=(S1.obj (.own (idxR r rs))).mapR (unR rs)∧(S.join rs S1).blk r=S1.blk (.own (idxR r rs)):=by
 have hhas:=Sig.has_of hl
 cases r with
 | loc i =>
  have hi:i<S.L.length:=hhas
  constructor
  ·show (updI _ 0 S.L).getD i .dead=_
   rw [updI_getD _ _ _ _ _ hi]; simp [newObj,memR_iff.2 h]; rfl
  ·show (updI _ 0 S.la).getD i none=_
   rw [updI_getD _ _ _ _ _ (by rw [hwf.lalen]; exact hi)]; simp [newBlk,memR_iff.2 h]; rfl
 | own i =>
  have hi:i<S.H.length:=hhas
  constructor
  ·show (updI _ 0 S.H).getD i .dead=_
   rw [updI_getD _ _ _ _ _ hi]; simp [newObj,memR_iff.2 h]; rfl
  ·show (updI _ 0 S.mu).getD i none=_
   rw [updI_getD _ _ _ _ _ (by rw [hwf.mulen]; exact hi)]; simp [newBlk,memR_iff.2 h]; rfl
theorem join_out {rs:List Ref} {S1:Sig} {r:Ref} (h:r ∉ rs):(S.join rs S1).obj r=S.obj r∧(S.join rs S1).blk r=S.blk r:=by
 have hm:=memR_false.2 h
 have go:∀ {α:Type} (f:Nat→α→α) (d:α) (l:List α) (i:Nat),(∀ x,f i x=x)→(updI f 0 l).getD i d=l.getD i d:=fun f d l i hf=>by
  by_cases hi:i<l.length
  ·rw [updI_getD _ _ _ _ _ hi,Nat.zero_add,hf]
  ·rw [updI_out _ _ _ _ _ hi,List.getD_eq_getElem?_getD,List.getElem?_eq_none (by omega)]; rfl
 cases r with
 | loc i=>exact ⟨go _ _ _ _ fun x=>by simp [newObj,hm],go _ _ _ _ fun x=>by simp [newBlk,hm]⟩
 | own i=>exact ⟨go _ _ _ _ fun x=>by simp [newObj,hm],go _ _ _ _ fun x=>by simp [newBlk,hm]⟩
theorem Rel.join (hrel : Rel (lfs T) st H a S) (hinv : Inv S0 S) {rs : List Ref} (hnd : nodupR rs = true) (hlive : ∀ r ∈ rs, (S.obj r).isDead = false) (hcl : ∀ r ∈ rs, ∀ r' ∈ (S.obj r).refs, r' ∈ rs)
    {S1 : Sig} (hL : S1.L = []) (hla : S1.la = []) (hwf1 : Wf (lfs T) S1) (hext : Ext (S.sub rs) S1) (hlen : S1.H.length = rs.length)
    (hrefs : ∀ i, ∀ r' ∈ (S1.obj (.own i)).refs, r' ∈ ((S.sub rs).obj (.own i)).refs) :
    Rel (lfs T) (updLoc rs S1.H st) (updOwn rs S1.H H) a (S.join rs S1) ∧ Inv S0 (S.join rs S1) ∧
      ∀ {d : D} {u : Value}, D.anyR (Ref.beyond rs.length) d = false → RepD (lfs T) S1 d u → RepD (lfs T) (S.join rs S1) (d.mapR (unR rs)) u := by
  have hwf := hrel.wf
  have hsl : (S.sub rs).H.length = rs.length := by simp [Sig.sub]
  -- blocks of the objects that were not handed over
  have hout : ∀ r x, r ∉ rs → S.blk r = some x → x.1 < S.w.heap.size ∧ S1.w.heap[x.1]? = S.w.heap[x.1]? ∧ (∀ i y, S1.blk (.own i) = some y → y.1 ≠ x.1) ∧ ¬ S1.F x.1 := fun r x hr hx => by
    have hlt := hwf.lt r x hx
    have hno : ∀ i y, (S.sub rs).blk (.own i) = some y → y.1 ≠ x.1 := fun i y hy he => by
      by_cases hi : i < rs.length
      · rw [(sub_own S rs i (.own 0) hi).2] at hy
        have := hwf.inj _ r y x hy hx he
        exact hr (this ▸ getD_mem _ hi)
      · rw [(sub_out S rs i hi).2] at hy; cases hy
    obtain ⟨h1, h2⟩ := hext.block x.1 hlt hno
    refine ⟨hlt, h1, h2, fun hF => ?_⟩
    rcases hext.Fnew x.1 hlt hF with h3 | ⟨i, y, h3, h4⟩
    · exact (hwf.frozen x.1 h3).2 r x hx rfl
    · exact hno i y h3 h4
  have hFw : ∀ b, S.F b → S1.w.heap[b]? = S.w.heap[b]? := fun b hb => (hext.block b (hwf.frozen b hb).1 (fun i y hy he => by
    by_cases hi : i < rs.length
    · rw [(sub_own S rs i (.own 0) hi).2] at hy
      exact (hwf.frozen b hb).2 _ y hy he
    · rw [(sub_out S rs i hi).2] at hy; cases hy)).1
  have hin : ∀ {r}, r ∈ rs → (S.join rs S1).obj r = (S1.obj (.own (idxR r rs))).mapR (unR rs) ∧ (S.join rs S1).blk r = S1.blk (.own (idxR r rs)) := fun {r} h => join_in hwf h (notDead (hlive r h))
  have hsub : ∀ {r}, r ∈ rs → (S.sub rs).obj (.own (idxR r rs)) = (S.obj r).mapR (renR rs) ∧ (S.sub rs).blk (.own (idxR r rs)) = S.blk r ∧ idxR r rs < rs.length := fun {r} h => by
    obtain ⟨h1, h2⟩ := idxR_spec h
    obtain ⟨h3, h4⟩ := sub_own S rs (idxR r rs) (.own 0) h1
    rw [h2] at h3 h4
    exact ⟨h3, h4, h1⟩
  have hlH : (S.join rs S1).H.length = S.H.length := updI_length _ _ _
  have keep : ∀ r, S.inb r → Keep S (S.join rs S1) r := fun r _ => by
    by_cases h : r ∈ rs
    · obtain ⟨h1, h2⟩ := hin h
      obtain ⟨h3, h4, h5⟩ := hsub h
      have k := hext.keep (idxR r rs) (by rw [hsl]; exact h5)
      refine ⟨fun bc h6 h7 => ?_, fun e xs h6 => ?_, fun m xs h6 => ?_⟩
      · rw [h1, mapR_isPt] at h6
        obtain ⟨h9, h10⟩ := k.cells bc h6 (h2.symm.trans h7)
        rw [h3, mapR_isPt] at h9
        exact ⟨h9, h4.symm.trans h10⟩
      · obtain ⟨xs0, h9, h10, h11⟩ := k.row e xs (mapR_row (h1.symm.trans h6))
        exact ⟨xs0, mapR_row (h3.symm.trans h9), h10, fun he => h2.trans ((h11 he).trans h4)⟩
      · obtain ⟨xs0, h9, h10⟩ := k.map m xs (mapR_map (h1.symm.trans h6))
        exact ⟨xs0, mapR_map (h3.symm.trans h9), h2.trans (h10.trans h4)⟩
    · exact .refl (join_out h).1 (join_out h).2
  have mD : ∀ {d : D} {u : Value}, RepD (lfs T) S d u → RepD (lfs T) (S.join rs S1) d u := fun {d u} h =>
    RepD.mono (S := S) (S' := S.join rs S1) (Nat.le_of_eq hlH.symm) (fun b hb => hext.F b hb) hFw (p := fun _ => false) (fun r _ hi => keep r hi) (anyR_false d) h
  have mK : ∀ {k : K} {x : V} {u : Value}, RepK (lfs T) S.w S.F k x u → RepK (lfs T) S1.w S1.F k x u := fun h => RepK.mono (w := S.w) (w' := S1.w) (F := S.F) (F' := S1.F) (fun b hb => hext.F b hb) hFw h
  have keepU : ∀ r, Ref.beyond rs.length r = false → KeepR S1 (S.join rs S1) r (unR rs r) := fun r hr => by
    cases r with
    | loc i => cases hr
    | own i =>
      have hi : i < rs.length := Nat.lt_of_not_le fun h => by rw [show Ref.beyond rs.length (.own i) = true from Nat.ble_eq_true_of_le h] at hr; cases hr
      show KeepR S1 (S.join rs S1) (.own i) (rs.getD i (.own 0))
      have hm := getD_mem (.own 0) hi
      have hx := idxR_getD (.own 0) hnd hi
      generalize rs.getD i (.own 0) = r at *
      obtain ⟨h1, h2⟩ := hin hm
      rw [hx] at h1 h2
      refine ⟨?_, fun bc h6 h7 => ?_, fun e xs h6 => ?_, fun m xs h6 => ?_⟩
      · have := Sig.has_of (notDead (hlive r hm))
        cases r with
        | loc j => trivial
        | own j => show j < (S.join rs S1).H.length; rw [hlH]; exact this
      · rw [h1, mapR_isPt] at h6
        exact ⟨h6, h2.symm.trans h7⟩
      · exact ⟨xs, mapR_row (h1.symm.trans h6), Nat.le_refl _, fun _ => h2⟩
      · exact ⟨xs, mapR_map (h1.symm.trans h6), h2⟩
  have mU : ∀ {d : D} {u : Value}, D.anyR (Ref.beyond rs.length) d = false → RepD (lfs T) S1 d u → RepD (lfs T) (S.join rs S1) (d.mapR (unR rs)) u := fun {d u} hd h =>
    RepD.ren (S := S1) (S' := S.join rs S1) (fun _ h => h) (fun _ _ => rfl) (unR rs) h fun r hr => keepU r ((anyR_refs d).1 hd r hr)
  -- the references of an object behind the call
  have hob : ∀ r, r ∈ rs → ∀ cs, S1.obj (.own (idxR r rs)) = .cells cs → D.anyL (Ref.beyond rs.length) cs = false ∧ ∀ r' ∈ D.refsL (D.mapRL (unR rs) cs), r' ∈ (S.obj r).refs := fun r hr cs hcs => by
    obtain ⟨h3, h4, h5⟩ := hsub hr
    have h6 : ∀ r' ∈ D.refsL cs, ∃ x ∈ (S.obj r).refs, r' = renR rs x := fun r' hr' => by
      have := hrefs (idxR r rs) r' (by rw [hcs]; exact hr')
      rw [h3] at this
      cases ho : S.obj r with
      | cells cs0 =>
        rw [ho] at this
        have : r' ∈ D.refsL (D.mapRL (renR rs) cs0) := this
        rw [refs_mapRL] at this
        obtain ⟨x, hx, rfl⟩ := List.mem_map.1 this
        exact ⟨x, hx, rfl⟩
      | row e xs => rw [ho] at this; simp [Obj.mapR, Obj.refs] at this
      | map m xs => rw [ho] at this; simp [Obj.mapR, Obj.refs] at this
      | iter m x n s => have := hlive r hr; rw [ho] at this; cases this
      | dead => rw [ho] at this; simp [Obj.mapR, Obj.refs] at this
    refine ⟨?_, fun r' hr' => ?_⟩
    · rw [anyL_refs]
      intro r' hr'
      obtain ⟨x, hx, rfl⟩ := h6 r' hr'
      have := (idxR_spec (hcl r hr x hx)).1
      show Nat.ble rs.length (idxR x rs) = false
      cases hb : Nat.ble rs.length (idxR x rs) with
      | false => rfl
      | true => have := Nat.le_of_ble_eq_true hb; omega
    · rw [refs_mapRL] at hr'
      obtain ⟨y, hy, rfl⟩ := List.mem_map.1 hr'
      obtain ⟨x, hx, rfl⟩ := h6 y hy
      have := (idxR_spec (hcl r hr x hx)).2 (.own 0)
      rw [show unR rs (renR rs x) = rs.getD (idxR x rs) (.own 0) from rfl, this]
      exact hx
  have hblk : ∀ r x, (S.join rs S1).blk r = some x → (r ∈ rs ∧ S1.blk (.own (idxR r rs)) = some x) ∨ (r ∉ rs ∧ S.blk r = some x) := fun r x hx => by
    by_cases h : r ∈ rs
    · exact .inl ⟨h, (hin h).2 ▸ hx⟩
    · exact .inr ⟨h, (join_out h).2 ▸ hx⟩
  refine ⟨⟨?_, ?_, hrel.size, hrel.defers, fun j => mD (hrel.rep j), ?_⟩, ?_, mU⟩
  · show updI _ 0 S.H = updI _ 0 H; rw [hrel.H]
  · show updI _ 0 S.L = updI _ 0 st.loc; rw [hrel.L]
  · refine ⟨fun b hb => ⟨(hwf1.frozen b hb).1, fun r x hx => ?_⟩, fun r r' x x' hx hx' he => ?_, fun r x hx => ?_, fun r => ?_, fun i => ?_, by simp [Sig.join, updI_length, hwf.mulen], by simp [Sig.join, updI_length, hwf.lalen], hwf.mark.1, fun d hd => ?_⟩
    · rcases hblk r x hx with ⟨_, h⟩ | ⟨h0, h⟩
      · exact (hwf1.frozen b hb).2 _ x h
      · exact fun he => (hout r x h0 h).2.2.2 (he ▸ hb)
    · rcases hblk r x hx with ⟨h0, h⟩ | ⟨h0, h⟩ <;> rcases hblk r' x' hx' with ⟨h0', h'⟩ | ⟨h0', h'⟩
      · have := hwf1.inj _ _ x x' h h' he
        have e1 := (idxR_spec h0).2 (.own 0)
        have e2 := (idxR_spec h0').2 (.own 0)
        have h9 : idxR r rs = idxR r' rs := by injection this
        rw [← e1, ← e2, h9]
      · exact absurd he ((hout r' x' h0' h').2.2.1 _ x h)
      · exact absurd he.symm ((hout r x h0 h).2.2.1 _ x' h')
      · exact hwf.inj r r' x x' h h' he
    · rcases hblk r x hx with ⟨_, h⟩ | ⟨h0, h⟩
      · exact hwf1.lt _ x h
      · exact Nat.lt_of_lt_of_le (hout r x h0 h).1 hext.size
    · by_cases h : r ∈ rs
      · rw [(hin h).1, (hin h).2]
        have := hwf1.obj (.own (idxR r rs))
        have hob' := hob r h
        cases hr : S1.obj (.own (idxR r rs)) with
        | cells cs =>
          rw [hr] at this
          obtain ⟨b, c, e, arr, h3, h4, h5, h6⟩ := this
          refine ⟨b, c, e, arr, h3, h4, by rw [mapRL_length]; exact h5, fun j hj => ?_⟩
          rw [mapRL_length] at hj
          rw [mapRL_getD]
          exact ⟨mU (anyL_getD j (hob' cs hr).1) (h6 j hj).1, (h6 j hj).2⟩
        | row e xs => rw [hr] at this; exact this
        | map m xs => rw [hr] at this; exact this
        | iter m x n s =>
          have hf := hwf1.own (idxR r rs)
          rw [show S1.H.getD (idxR r rs) .dead = .iter m x n s from hr] at hf
          exact hf.elim
        | dead => rw [hr] at this; exact this
      · rw [(join_out h).1, (join_out h).2]
        have := hwf.obj r
        cases hr : S.obj r with
        | cells cs =>
          rw [hr] at this
          obtain ⟨b, c, e, arr, h3, h4, h5, h6⟩ := this
          exact ⟨b, c, e, arr, h3, by rw [← h4]; exact (hout r _ h h3).2.1, h5, fun j hj => ⟨mD (h6 j hj).1, (h6 j hj).2⟩⟩
        | row e xs =>
          rw [hr] at this
          rcases this with h3 | ⟨b, c, arr, h3, h4, h5, h6, h7, h9, h8⟩
          · exact .inl h3
          · exact .inr ⟨b, c, arr, h3, by rw [← h4]; exact (hout r _ h h3).2.1, h5, h6, h7, h9, fun x y hx hy => mK (h8 x y hx hy)⟩
        | map m xs =>
          rw [hr] at this
          obtain ⟨b, c, clock, ents, us, h3, h4, h5, h6, h7, h8⟩ := this
          exact ⟨b, c, clock, ents, us, h3, by rw [← h4]; exact (hout r _ h h3).2.1, h5, h6, h7, fun x y hx hy => mK (h8 x y hx hy)⟩
        | iter m x n s =>
          rw [hr] at this
          obtain ⟨b, c, mb, h3, h4, h5, h6⟩ := this
          exact ⟨b, c, mb, h3, by rw [← h4]; exact (hout r _ h h3).2.1, mD h5, h6⟩
        | dead => rw [hr] at this; exact this
    · show ((S.join rs S1).obj (.own i)).free
      have hfr := hwf.own i
      by_cases h : Ref.own i ∈ rs
      · rw [(hin h).1]
        have hob' := hob _ h
        cases hr : S1.obj (.own (idxR (.own i) rs)) with
        | cells cs =>
          show D.anyL Ref.isLoc (D.mapRL (unR rs) cs) = false
          rw [anyL_refs]
          intro r' hr'
          have := (hob' cs hr).2 r' hr'
          cases ho : S.obj (.own i) with
          | cells cs0 =>
            rw [ho] at this
            rw [show S.H.getD i .dead = .cells cs0 from ho] at hfr
            exact (anyL_refs cs0).1 hfr r' this
          | row e xs => rw [ho] at this; simp [Obj.refs] at this
          | map m xs => rw [ho] at this; simp [Obj.refs] at this
          | iter m x n s => rw [ho] at this; simp [Obj.refs] at this
          | dead => rw [ho] at this; simp [Obj.refs] at this
        | row e xs => trivial
        | map m xs => trivial
        | iter m x n s =>
          have hf := hwf1.own (idxR (.own i) rs)
          rw [show S1.H.getD (idxR (.own i) rs) .dead = .iter m x n s from hr] at hf
          exact hf.elim
        | dead => trivial
      · rw [(join_out h).1]; exact hfr
    · obtain ⟨h1, h2, h3⟩ := hwf.mark.2 d hd
      have hlt : d < S.w.heap.size := (Array.getElem?_eq_some_iff.1 h1).1
      have hno : ∀ i y, (S.sub rs).blk (.own i) = some y → y.1 ≠ d := fun i y hy => by
        by_cases hi : i < rs.length
        · rw [(sub_own S rs i (.own 0) hi).2] at hy
          exact h2 _ y hy
        · rw [(sub_out S rs i hi).2] at hy; cases hy
      obtain ⟨g1, g2⟩ := hext.block d hlt hno
      refine ⟨g1.trans h1, fun r x hx => ?_, fun hF => ?_⟩
      · rcases hblk r x hx with ⟨_, h⟩ | ⟨_, h⟩
        · exact g2 _ x h
        · exact h2 r x h
      · rcases hext.Fnew d hlt hF with h | ⟨i, y, h, h'⟩
        · exact h3 h
        · exact hno i y h h'
  · have he := hinv.ext
    have hs0 := he.size
    have hlocge : ∀ i x, S.blk (.loc i) = some x → S0.w.heap.size ≤ x.1 := fun i x hx => hinv.loc i x hx
    -- blocks of the callee's view, seen from the call's beginning
    have hold : ∀ i y, (S.sub rs).blk (.own i) = some y → (∃ k, S.blk (.own k) = some y) ∨ S0.w.heap.size ≤ y.1 := fun i y hy => by
      by_cases hi : i < rs.length
      · rw [(sub_own S rs i (.own 0) hi).2] at hy
        generalize rs.getD i (.own 0) = r at hy
        cases r with
        | loc j => exact .inr (hlocge j y hy)
        | own j => exact .inl ⟨j, hy⟩
      · rw [(sub_out S rs i hi).2] at hy; cases hy
    refine ⟨⟨Nat.le_trans hs0 hext.size, hext.os.trans he.os, hext.tape.trans he.tape, hext.output.trans he.output, fun b hb hn => ?_, fun b hb => hext.F b (he.F b hb), fun b hb hF => ?_, by rw [hlH]; exact he.len, fun k hk => (he.keep k hk).trans (keep _ (Nat.lt_of_lt_of_le hk he.len)), fun k x hx => ?_⟩, fun k x hx => ?_, hinv.mkd⟩
    · obtain ⟨h1, h2⟩ := he.block b hb hn
      have hno : ∀ i y, (S.sub rs).blk (.own i) = some y → y.1 ≠ b := fun i y hy hyb => by
        rcases hold i y hy with ⟨k, hk⟩ | h3
        · exact h2 k y hk hyb
        · omega
      obtain ⟨h3, h4⟩ := hext.block b (Nat.lt_of_lt_of_le hb hs0) hno
      refine ⟨h3.trans h1, fun i x hx => ?_⟩
      rcases hblk _ x hx with ⟨_, h⟩ | ⟨_, h⟩
      · exact h4 _ x h
      · exact h2 i x h
    · rcases hext.Fnew b (Nat.lt_of_lt_of_le hb hs0) hF with h3 | ⟨i, y, h3, h4⟩
      · exact he.Fnew b hb h3
      · rcases hold i y h3 with ⟨k, hk⟩ | h5
        · rcases he.fresh k y hk with ⟨z, h6, h7⟩ | h6
          · exact .inr ⟨k, z, h6, by omega⟩
          · omega
        · omega
    · rcases hblk _ x hx with ⟨h0, h⟩ | ⟨_, h⟩
      · obtain ⟨h3, h4, h5⟩ := hsub h0
        rcases hext.fresh _ x h with ⟨y, h6, h7⟩ | h6
        · rw [h4] at h6
          rcases he.fresh k y h6 with ⟨z, h8, h9⟩ | h8
          · exact .inl ⟨z, h8, h7.trans h9⟩
          · right; rw [h7]; exact h8
        · exact .inr (Nat.le_trans hs0 h6)
      · exact he.fresh k x h
    · rcases hblk _ x hx with ⟨h0, h⟩ | ⟨_, h⟩
      · obtain ⟨h3, h4, h5⟩ := hsub h0
        rcases hext.fresh _ x h with ⟨y, h6, h7⟩ | h6
        · rw [h4] at h6
          rw [h7]; exact hinv.loc k y h6
        · exact Nat.le_trans hs0 h6
      · exact hinv.loc k x h
mutual
theorem refs_reshapeD:∀ (c d:D) (r:Ref),r∈(reshapeD c d).refs→r∈c.refs
 | .v k x,d,r,h=>by simp [reshapeD,D.refs] at h
 | .osl x n,d,r,h=>by simpa [reshapeD,D.refs] using h
 | .agg cs,d,r,h=>by
  simp only [reshapeD,D.refs] at h ⊢
  exact refs_reshapeL cs d.cells r h
 | .nil,d,r,h=>by simpa [reshapeD] using h
 | .tup _,d,r,h=>by simpa [reshapeD] using h
 | .ptr _ _,d,r,h=>by simpa [reshapeD] using h
 | .elt _ _ _,d,r,h=>by simpa [reshapeD] using h
 | .relt _ _ _ _ _,d,r,h=>by simpa [reshapeD] using h
 | .mp _,d,r,h=>by simpa [reshapeD] using h
 | .fn _ _,d,r,h=>by simpa [reshapeD] using h
 | .ln _,d,r,h=>by simpa [reshapeD] using h
 | .skip,d,r,h=>by simpa [reshapeD] using h
 | .undef,d,r,h=>by simpa [reshapeD] using h
theorem refs_reshapeL:∀ (l ds:List D) (r:Ref),r∈D.refsL (reshapeL l ds)→r∈D.refsL l
 | [],ds,r,h=>by simp [reshapeL,D.refsL] at h
 | c::l,ds,r,h=>by
  simp only [reshapeL,D.refsL,List.mem_append] at h ⊢
  exact h.imp (refs_reshapeD c _ r) (refs_reshapeL l _ r)
end
theorem reshapes_length:∀ (l r:List Obj),(reshapes l r).length=l.length
 | [],_=>rfl
 | o::l,r=>by simp [reshapes,reshapes_length l]
theorem reshapes_refs:∀ (l os:List Obj) (i:Nat) (r:Ref),r∈((reshapes l os).getD i .dead).refs→r∈(l.getD i .dead).refs
 | [],os,i,r,h=>by simp [reshapes,Obj.refs] at h
 | o::l,os,0,r,h=>by
  simp only [reshapes,List.getD_cons_zero] at h ⊢
  cases o with
  | cells cs=>exact refs_reshapeL cs _ r h
  | row e xs=>simp [reshapeO,Obj.refs] at h
  | map m xs=>simp [reshapeO,Obj.refs] at h
  | iter m x n s=>simp [reshapeO,Obj.refs] at h
  | dead=>simp [reshapeO,Obj.refs] at h
 | o::l,os,i+1,r,h=>by
  simp only [reshapes,List.getD_cons_succ] at h ⊢
  exact reshapes_refs l _ i r h
theorem okRefs_spec {rs:List Ref} {args:List D} (hrel:Rel (lfs T) st H a S) (h:okRefs st H rs args=true) :
  nodupR rs=true∧(∀ r∈D.refsL args,r∈rs)∧(∀ r∈rs,(S.obj r).isDead=false)∧(∀ r∈rs,∀ r'∈(S.obj r).refs,r'∈rs)∧objsOf st H rs=(S.sub rs).H:=by
 unfold okRefs at h
 obtain ⟨⟨h1,h2⟩,h3⟩:(nodupR rs=true∧allIn rs (D.refsL args)=true)∧(rs.all fun r=>!((getO st H r).isDead)&&allIn rs (getO st H r).refs)=true:=by rw [Bool.and_eq_true,Bool.and_eq_true] at h; exact h
 have hall:∀ l,allIn rs l=true→∀ r∈l,r∈rs:=fun l hl r hr=>memR_iff.1 (List.all_eq_true.1 hl r hr)
 refine ⟨h1,hall _ h2,fun r hr=>?_,fun r hr=>?_,?_⟩
 ·have:=List.all_eq_true.1 h3 r hr
  rw [← hrel.getO_obj,Bool.and_eq_true] at this
  simpa using this.1
 ·have:=List.all_eq_true.1 h3 r hr
  rw [Bool.and_eq_true] at this
  rw [hrel.getO_obj]
  exact hall _ this.2
 ·simp only [objsOf,Sig.sub]
  exact List.map_congr_left fun r _=>by rw [hrel.getO_obj]
end Go.Abs
