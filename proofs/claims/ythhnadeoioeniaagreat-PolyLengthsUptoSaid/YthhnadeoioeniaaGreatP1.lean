/-
  Texts AbsC, AbsD of this proof, joined.
-/
import Derived.Laws.IdiomCopy
import Derived.WalkKit
import Derived.Test.YthhnadeoioeniaaGreatP0
set_option linter.unusedVariables false
set_option linter.unusedSimpArgs false
namespace Go.Abs
structure TOk (P:Program) (lf:TypeId→List K) (x:TI):Prop where
 lfs:lf x.t=x.lf
 size:∀ w,(sizeOf x.t).run P w=.ok x.lf.length w
 agg:∀ w,(isAgg x.t).run P w=.ok x.agg w
 one:x.agg=false→x.lf.length=1
 el:∀ e,x.el=some e→P.underlying x.t=some (.slice e)
 ar:∀ n e,x.ar=some (n,e)→P.underlying x.t=some (.array n e)
 mp:∀ m,x.mp=some m→P.underlying x.t=some (.map m.k m.e)∧(∀ w,(isAgg m.k).run P w=.ok m.ka w)∧(∀ w,(isAgg m.e).run P w=.ok m.ea w)
 kb:x.kd=.bool→P.underlying x.t=some .bool
 ki:∀ k,x.kd=.int k→P.underlying x.t=some (.int k)
 ks:x.kd=.str→P.underlying x.t=some .string
 flds:x.flds≠[]→∃ fs,P.underlying x.t=some (.struct fs)∧∀ (i:Nat) (o:Nat) (t:TypeId),x.flds[i]?=some (o,t)→∃ f:Field,fs[i]?=some f∧f.offset=o∧f.type=t
 fexact:x.flds≠[]→∃ fs,P.underlying x.t=some (.struct fs)∧fs.toList.map (fun f=>(f.offset,f.type))=x.flds
 places:x.flds≠[]→∃ (fs:Array Field) (ps:Array (Nat×Nat)),P.underlying x.t=some (.struct fs)∧(∀ w,(fs.mapM (fun f=>do pure (f.offset,← sizeOf f.type):Field→Sem (Nat×Nat))).run P w=.ok ps w)∧∀ (i:Nat) (o:Nat) (t:TypeId),x.flds[i]?=some (o,t)→ps[i]?=some (o,(lf t).length)
 info:∃ i z,P.info? x.t=some i∧i.zero=some z∧i.size=x.lf.length∧z.cells.size=x.lf.length∧i.bytes≤256
 zshape:∀ z w,(zeroValue x.t).run P w=.ok z w→shaped x.agg z
 zero:∃ z,(∀ w,(zeroValue x.t).run P w=.ok z w)∧z.cells.size=x.lf.length∧∀ lf' S j,j<x.lf.length→RepD lf' S (zeroD (x.lf.getD j .oth)) (z.cells.getD j undef)∧(z.cells.getD j undef).oneCell'=true
structure TabOk (P:Program) (T:Tab):Prop where
 rows:∀ x,x∈T→TOk P (fun t=>(T.get t).lf) x
theorem Tab.get_mem {T:Tab} {t:TypeId}:(T.get t∈T∧(T.get t).t=t)∨T.get t=⟨t,false,[],[],none,.oth,none,none⟩:=by
 induction T with
 | nil=>exact .inr rfl
 | cons x r ih =>
  simp only [Tab.get]
  split
  ·rename_i h
   exact .inl ⟨List.mem_cons_self,by simpa using h⟩
  ·rcases ih with ⟨h1,h2⟩ | h
   ·exact .inl ⟨List.mem_cons_of_mem _ h1,h2⟩
   ·exact .inr h
theorem TabOk.get {P:Program} {T:Tab} (h:TabOk P T) {t:TypeId} (hn:0<(T.get t).lf.length):TOk P (fun t=>(T.get t).lf) (T.get t)∧(T.get t).t=t:=by
 rcases Tab.get_mem (T:=T) (t:=t) with ⟨h1,h2⟩ | h0
 ·exact ⟨h.rows _ h1,h2⟩
 ·rw [h0] at hn; simp at hn
theorem TabOk.get_el {P:Program} {T:Tab} (h:TabOk P T) {t e:TypeId} (hn:(T.get t).el=some e):P.underlying t=some (.slice e):=by
 rcases Tab.get_mem (T:=T) (t:=t) with ⟨h1,h2⟩ | h0
 ·have:=(h.rows _ h1).el e hn
  rwa [h2] at this
 ·rw [h0] at hn; simp at hn
theorem TabOk.get_ar {P:Program} {T:Tab} (h:TabOk P T) {t e:TypeId} {n:Nat} (hn:(T.get t).ar=some (n,e)):P.underlying t=some (.array n e):=by
 rcases Tab.get_mem (T:=T) (t:=t) with ⟨h1,h2⟩ | h0
 ·have:=(h.rows _ h1).ar n e hn
  rwa [h2] at this
 ·rw [h0] at hn; simp at hn
theorem TabOk.get_mp {P:Program} {T:Tab} (h:TabOk P T) {t:TypeId} {m:MT} (hn:(T.get t).mp=some m):P.underlying t=some (.map m.k m.e)∧(∀ w,(isAgg m.k).run P w=.ok m.ka w)∧(∀ w,(isAgg m.e).run P w=.ok m.ea w):=by
 rcases Tab.get_mem (T:=T) (t:=t) with ⟨h1,h2⟩ | h0
 ·have:=(h.rows _ h1).mp m hn
  rwa [h2] at this
 ·rw [h0] at hn; simp at hn
theorem withRow_spec {o:Obj} {e:TypeId} {n:Nat} {k:List (List V)→Prop} (h:withRow o e n k):∃ xs,o=.row e xs∧xs.length=n∧k xs:=by
 unfold withRow at h
 split at h
 ·rename_i e' xs
  split at h
  ·rename_i he
   have he':e=e':=Nat.eq_of_beq_eq_true he
   subst he'
   exact ⟨xs,rfl,h.1,h.2⟩
  ·exact h.elim
 ·exact h.elim
theorem TabOk.get_bool {P:Program} {T:Tab} (h:TabOk P T) {t:TypeId} (hn:(T.get t).kd=.bool):P.underlying t=some .bool:=by
 rcases Tab.get_mem (T:=T) (t:=t) with ⟨h1,h2⟩ | h0
 ·have:=(h.rows _ h1).kb hn
  rwa [h2] at this
 ·rw [h0] at hn; simp at hn
theorem TabOk.get_int {P:Program} {T:Tab} (h:TabOk P T) {t:TypeId} {k:IntKind} (hn:(T.get t).kd=.int k):P.underlying t=some (.int k):=by
 rcases Tab.get_mem (T:=T) (t:=t) with ⟨h1,h2⟩ | h0
 ·have:=(h.rows _ h1).ki k hn
  rwa [h2] at this
 ·rw [h0] at hn; simp at hn
theorem TabOk.get_str {P:Program} {T:Tab} (h:TabOk P T) {t:TypeId} (hn:(T.get t).kd=.str):P.underlying t=some .string:=by
 rcases Tab.get_mem (T:=T) (t:=t) with ⟨h1,h2⟩ | h0
 ·have:=(h.rows _ h1).ks hn
  rwa [h2] at this
 ·rw [h0] at hn; simp at hn
theorem TabOk.get_fld {P:Program} {T:Tab} (h:TabOk P T) {s:TypeId} {i o:Nat} {t:TypeId} (hn:(T.get s).flds[i]?=some (o,t)):∃ (fs:Array Field) (f:Field),P.underlying s=some (.struct fs)∧fs[i]?=some f∧f.offset=o∧f.type=t:=by
 rcases Tab.get_mem (T:=T) (t:=s) with ⟨h1,h2⟩ | h0
 ·obtain ⟨fs,h3,h4⟩:=(h.rows _ h1).flds (by intro h0; rw [h0] at hn; simp at hn)
  rw [h2] at h3
  obtain ⟨f,h5,h6,h7⟩:=h4 i o t hn
  exact ⟨fs,f,h3,h5,h6,h7⟩
 ·rw [h0] at hn; simp at hn
variable {P:Program} {T:Tab}
abbrev lfs (T:Tab):TypeId→List K:=fun t=>(T.get t).lf
theorem Rel.eval {st:St} {H:Heap} {a:Act} {S:Sig} (h:Rel (lfs T) st H a S) (x:Operand):RepD (lfs T) S (st.eval x) (a.eval x):=by
 cases x with
 | tmp t=>exact h.rep t
 | func f =>
  refine .fn f [] [] rfl fun j=>?_
  simp only [List.getD_eq_getElem?_getD,List.getElem?_nil,Option.getD_none]
  exact .undef _
 | global g=>exact .undef _
 | const v =>
  simp only [St.eval,Act.eval]
  unfold ofConst
  split
  ·exact .v _ _ _ (.int _ _)
  ·exact .v _ _ _ (.bool _)
  ·split
   ·rename_i hs
    have hs':=Nat.le_of_ble_eq_true hs
    exact .v _ _ _ (.str _ (Nat.le_trans hs' (by decide)))
   ·exact .undef _
  ·exact .nil
  ·exact .undef _
theorem Rel.evalT {st:St} {H:Heap} {a:Act} {S:Sig} (h:Rel (lfs T) st H a S) (t:TypeId) (x:Operand):RepD (lfs T) S (st.evalT T t x) (a.eval x):=by
 unfold St.evalT
 split
 ·split
  ·exact .v _ _ _ (.mp0 _ _ rfl)
  ·exact .undef _
 ·exact h.eval x
theorem St.evalT_eq {t:TypeId} {st:St} {x:Operand} (h:(st.eval x).cells.all D.isCell=true):st.evalT T t x=st.eval x:=by
 unfold St.evalT
 split
 ·simp [St.eval,ofConst,D.cells,D.isCell] at h
 ·rfl
theorem Act.put_size (a:Act) (d:Option Nat) (v:Value):(a.put d v).tmps.size=a.tmps.size:=by
 cases d <;> simp [Act.put]
theorem Act.put_getD (a:Act) (d:Nat) (v:Value) (j:Nat):(a.put (some d) v).tmps.getD j undef=if j=d∧d<a.tmps.size then v else a.tmps.getD j undef:=by
 simp only [Act.put,Array.getD_eq_getD_getElem?,Array.getElem?_setIfInBounds]
 by_cases h:d=j
 ·subst h
  by_cases h2:d<a.tmps.size
  ·simp [h2]
  ·simp [h2]
 ·rw [if_neg h,if_neg (fun h2=>h h2.1.symm)]
theorem set_getD (l:List D) (d:Nat) (x:D) (j:Nat):(l.set d x).getD j .undef=if j=d∧d<l.length then x else l.getD j .undef:=by
 simp only [List.getD_eq_getElem?_getD,List.getElem?_set]
 by_cases h:d=j
 ·subst h
  by_cases h2:d<l.length
  ·simp [h2]
  ·simp [h2]
 ·rw [if_neg h,if_neg (fun h2=>h h2.1.symm)]
theorem Rel.put {st:St} {H:Heap} {a:Act} {S:Sig} (h:Rel (lfs T) st H a S) (dst:Option Nat) {d:D} {v:Value} (hd:RepD (lfs T) S d v):Rel (lfs T) (st.put dst d) H (a.put dst v) S:=by
 cases dst with
 | none=>exact h
 | some i =>
  refine ⟨h.H,h.L,by rw [Act.put_size]; simpa [St.put] using h.size,h.defers,fun j=>?_,h.wf⟩
  rw [Act.put_getD]
  simp only [St.put]
  rw [set_getD,h.size]
  split
  ·exact hd
  ·exact h.rep j
def OpOk (P:Program) (T:Tab) (S0:Sig) (o:Oper) (a:Act) (S:Sig) (q:D→St→Heap→Prop):Prop :=
 ∀ (next:Act→World→Prop) (Q:Exit→Act→World→Prop),
  (∀ d v st' H' S',q d st' H'→Rel (lfs T) st' H' a S'→Inv S0 S'→RepD (lfs T) S' d v→next (a.put o.dst v) S'.w)→o.wp P a S.w next Q
theorem OpOk.value {S0:Sig} {o:Oper} {a:Act} {S:Sig} {q:D→St→Heap→Prop} {st:St} {H:Heap} (hrel:Rel (lfs T) st H a S) (hinv:Inv S0 S) {v:Value} {d:D}
  (hr:(execOp a.eval o).run P S.w=.ok (.value v) S.w) (hd:RepD (lfs T) S d v) (hq:q d st H):OpOk P T S0 o a S q:=by
 intro next Q hn
 unfold Oper.wp
 rw [hr]
 exact hn d v st H S hq hrel hinv hd
section
variable {S0:Sig} {o:Oper} {a:Act} {S:Sig} {st:St} {H:Heap}
theorem RepD.int_inv {lf:TypeId→List K} {k:IntKind} {x:V} {u:Value} (h:RepD lf S (.v (.int k) x) u):u=.int k x.int:=by
 cases h with | v _ _ _ h=>cases h; rfl
theorem RepD.bool_inv {lf:TypeId→List K} {x:V} {u:Value} (h:RepD lf S (.v .bool x) u):u=.bool x.bool:=by
 cases h with | v _ _ _ h=>cases h; rfl
theorem RepD.str_inv {lf:TypeId→List K} {x:V} {u:Value} (h:RepD lf S (.v .str x) u):u=.string x.str:=by
 cases h with | v _ _ _ h=>cases h; rfl
theorem RepD.mkInt {lf:TypeId→List K} {k:IntKind} (n:Int):RepD lf S (.v (.int k) (.i n)) (.int k n):=.v _ _ _ (.int k (.i n))
theorem RepD.mkBool {lf:TypeId→List K} (b:Bool):RepD lf S (.v .bool (.b b)) (.bool b):=.v _ _ _ (.bool (.b b))
theorem RepD.str_len {lf:TypeId→List K} {x:V} {u:Value} (h:RepD lf S (.v .str x) u):x.str.size≤big:=by
 cases h with | v _ _ _ h=>cases h; assumption
theorem RepD.mkStr {lf:TypeId→List K} (s:ByteArray) (h:s.size≤big):RepD lf S (.v .str (.s s)) (.string s):=.v _ _ _ (.str (.s s) h)
theorem run_bind_ok {α β:Type} (m:Sem α) (f:α→Sem β) (w w':World) (x:α) (h:m.run P w=.ok x w'):(m >>= f).run P w=(f x).run P w':=by
 rw [Sem.run_bind,h]; rfl
theorem run_equalIn_bool {t:TypeId} (h:P.underlying t=some .bool) (x y:Bool) (w:World) (d:Nat):(Op.equalIn (d+1) t (.bool x) (.bool y)).run P w=.ok (x == y) w:=by
 simp only [Op.equalIn,Sem.run_bind,run_underlying h,Result.andThen_ok]
 rfl
theorem run_equal_bool {t:TypeId} (h:P.underlying t=some .bool) (x y:Bool) (w:World):(Op.equal t (.bool x) (.bool y)).run P w=.ok (x == y) w :=
 run_equalIn_bool h x y w 9999
theorem ok_un (op:UnOp) (xt:TypeId) (x:Operand) (q:D→St→Heap→Prop) (ho:o.op=.unOp op xt x) (hrel:Rel (lfs T) st H a S) (hinv:Inv S0 S)
  (h:evUn op (st.eval x) fun d=>q d st H):OpOk P T S0 o a S q:=by
 have hx:=hrel.eval x
 unfold evUn at h
 split at h
 ·rename_i m h1
  rw [h1] at hx
  have ex:=hx.bool_inv
  refine OpOk.value hrel hinv (v:=.bool (!m.bool)) (d:=_) ?_ (RepD.mkBool _) h
  simp only [execOp,ho,ex,Op.unary]; rfl
 ·rename_i k m h1
  rw [h1] at hx
  have ex:=hx.int_inv
  refine OpOk.value hrel hinv (v:=.int k (k.wrap (0 - m.int))) (d:=_) ?_ (RepD.mkInt _) h
  simp only [execOp,ho,ex,Op.unary]; rfl
 ·exact h.elim
theorem ok_move (x:Operand) (q:D→St→Heap→Prop) (ho:o.op=.move x∨o.op=.assign x) (hrel:Rel (lfs T) st H a S) (hinv:Inv S0 S) (h:q (st.eval x) st H):OpOk P T S0 o a S q:=by
 refine OpOk.value hrel hinv (v:=a.eval x) ?_ (hrel.eval x) h
 rcases ho with ho | ho <;> simp only [execOp,ho] <;> rfl
theorem ok_pick (c x y:Operand) (q:D→St→Heap→Prop) (ho:o.op=.pick c x y) (hrel:Rel (lfs T) st H a S) (hinv:Inv S0 S)
  (h:match st.eval c with | .v .bool b=>iff b.bool (q (st.eval x) st H) (q (st.eval y) st H) | _=>False):OpOk P T S0 o a S q:=by
 have hc:=hrel.eval c
 split at h
 ·rename_i b h1
  rw [h1] at hc
  have ec:=hc.bool_inv
  cases hb:b.bool with
  | true =>
   rw [hb] at h ec
   refine OpOk.value hrel hinv (v:=a.eval x) ?_ (hrel.eval x) h
   simp only [execOp,ho,ec]; rfl
  | false =>
   rw [hb] at h ec
   refine OpOk.value hrel hinv (v:=a.eval y) ?_ (hrel.eval y) h
   simp only [execOp,ho,ec]; rfl
 ·exact h.elim
theorem mkVal_agg {t:TypeId} {cs:List D} (h:(T.get t).agg=true):mkVal T t cs=.agg cs:=by simp [mkVal,mkVal.iteD,h]
theorem mkVal_one {t:TypeId} {cs:List D} (h:(T.get t).agg=false):mkVal T t cs=cs.headD .undef:=by simp [mkVal,mkVal.iteD,h]
theorem run_loadVar (hT:TabOk P T) {t:TypeId} {b off:Nat} {us:List Value} {cs:List D} (hn:0<(T.get t).lf.length) (hl:us.length=(T.get t).lf.length)
  (hcell:∀ j,j<us.length→S.w.cell? ⟨b,off+j,none⟩=some (us.getD j undef)) (hc:cs.length=us.length) (hrep:∀ j,RepD (lfs T) S (cs.getD j .undef) (us.getD j undef)) :
  ∃ v,(loadVar t ⟨b,off,none⟩).run P S.w=.ok v S.w∧RepD (lfs T) S (mkVal T t cs) v:=by
 obtain ⟨hok,ht⟩:=hT.get hn
 have hagg:=hok.agg S.w
 have hsz:=hok.size S.w
 rw [ht] at hagg hsz
 have hadd:∀ n,(⟨b,off,none⟩:Addr).add n=⟨b,off+n,none⟩:=fun n=>by unfold Addr.add; split <;> simp_all
 cases ha:(T.get t).agg with
 | true =>
  rw [ha] at hagg
  refine ⟨.agg us.toArray,?_,by rw [mkVal_agg ha]; exact .agg cs us hc hrep⟩
  have hload:=run_loadCells_list (P:=P) (w:=S.w) ⟨b,off,none⟩ us (fun j v hj=>by
   rw [hadd]
   have hlt:j<us.length:=(List.getElem?_eq_some_iff.1 hj).1
   rw [hcell j hlt]
   simp [List.getD_eq_getElem?_getD,hj])
  rw [hl] at hload
  simp only [loadVar,Sem.run_bind,hagg,Result.andThen_ok,if_true,hsz,hload]
  rfl
 | false =>
  rw [ha] at hagg
  have h1:=hok.one ha
  have hc0:=hcell 0 (by omega)
  refine ⟨us.getD 0 undef,?_,?_⟩
  ·simp only [loadVar,Sem.run_bind,hagg,Result.andThen_ok,Bool.false_eq_true,if_false,load,Sem.run]
   have:S.w.cell? ⟨b,off,none⟩=some (us.getD 0 undef):=by simpa using hc0
   rw [this]
  ·rw [mkVal_one ha]
   have:=hrep 0
   cases cs with
   | nil=>simp at hc; omega
   | cons c r=>exact this
theorem vcells_length {lf:List K} {cs:List V}:(vcells lf cs).length=lf.length:=by
 induction lf generalizing cs with
 | nil=>rfl
 | cons k r ih=>simp [vcells,ih]
theorem vcells_getD {lf:List K} {cs:List V} {j:Nat} (h:j<lf.length):(vcells lf cs).getD j .undef=.v (lf.getD j .oth) (cs.getD j V.none):=by
 induction lf generalizing cs j with
 | nil=>simp at h
 | cons k r ih =>
  cases j with
  | zero=>cases cs <;> simp [vcells]
  | succ j =>
   simp only [vcells,List.getD_cons_succ]
   rw [ih (by simpa using h)]
   cases cs <;> simp
theorem getD_drop {α:Type} (l:List α) (n j:Nat) (d:α):(l.drop n).getD j d=l.getD (n+j) d:=by
 simp [List.getD_eq_getElem?_getD,List.getElem?_drop]
theorem getD_take {α:Type} (l:List α) (n j:Nat) (d:α) (h:j<n):(l.take n).getD j d=l.getD j d:=by
 simp [List.getD_eq_getElem?_getD,h]
theorem repD_of_list {cs:List D} {us:List Value} (hc:cs.length=us.length) (h:∀ j,j<us.length→RepD (lfs T) S (cs.getD j .undef) (us.getD j undef)) (j:Nat):RepD (lfs T) S (cs.getD j .undef) (us.getD j undef):=by
 by_cases hj:j<us.length
 ·exact h j hj
 ·rw [show cs.getD j .undef=.undef from by simp [List.getD_eq_getElem?_getD,List.getElem?_eq_none (by omega:cs.length≤j)]]
  exact .undef _
theorem run_loadElt (hT:TabOk P T) {e t:TypeId} {b o off:Nat} {us:Nat→Value} {cs:List V} (hn:0<(T.get t).lf.length)
  (hlf:(T.get t).lf=(((T.get e).lf.drop off).take (T.get t).lf.length)) (hle:off+(T.get t).lf.length≤(T.get e).lf.length)
  (hcell:∀ j,j<(T.get e).lf.length→S.w.cell? ⟨b,o+j,none⟩=some (us j))
  (hrep:∀ j,j<(T.get e).lf.length→RepK (lfs T) S.w S.F ((T.get e).lf.getD j .oth) (cs.getD j V.none) (us j)) :
  ∃ v,(loadVar t ⟨b,o+off,none⟩).run P S.w=.ok v S.w∧RepD (lfs T) S (mkVal T t (vcells (T.get t).lf (cs.drop off))) v:=by
 have hlf':∀ j,j<(T.get t).lf.length→(T.get t).lf.getD j .oth=(T.get e).lf.getD (off+j) .oth:=fun j hj=>by
  have this:(T.get t).lf.getD j .oth=(((T.get e).lf.drop off).take (T.get t).lf.length).getD j .oth:=congrArg (fun l=>l.getD j .oth) hlf
  rw [this,getD_take _ _ _ _ hj,getD_drop]
 have hus:∀ j,j<(T.get t).lf.length→((List.range (T.get t).lf.length).map fun j=>us (off+j)).getD j undef=us (off+j):=fun j hj=>by
  simp [List.getD_eq_getElem?_getD,List.getElem?_map,List.getElem?_range hj]
 refine run_loadVar hT (us:=(List.range (T.get t).lf.length).map fun j=>us (off+j)) hn (by simp) (fun j hj=>?_) (by simp [vcells_length]) (repD_of_list (by simp [vcells_length]) fun j hj=>?_)
 ·have hj':j<(T.get t).lf.length:=by simpa using hj
  rw [hus j hj',← hcell (off+j) (by omega)]
  congr 2
  omega
 ·have hj':j<(T.get t).lf.length:=by simpa using hj
  rw [hus j hj',vcells_getD hj',hlf' j hj',getD_drop]
  exact .v _ _ _ (hrep (off+j) (by omega))
theorem Wf.cells {lf:TypeId→List K} (h:Wf lf S) {r:Ref} {cs:List D} (ho:S.obj r=.cells cs) :
  ∃ b c e arr,S.blk r=some (b,c)∧S.w.heap[b]?=some (.cells arr e (0,0))∧arr.size=cs.length∧∀ j,j<cs.length→RepD lf S (cs.getD j .undef) (arr.getD j undef)∧(arr.getD j undef).oneCell'=true:=by
 have:=h.obj r
 rw [ho] at this
 exact this
theorem Wf.row {lf:TypeId→List K} (h:Wf lf S) {r:Ref} {e:TypeId} {xs:List (List V)} (ho:S.obj r=.row e xs) :
  (S.blk r=none∧xs=[])∨∃ b c arr,S.blk r=some (b,c)∧S.w.heap[b]?=some (.cells arr e (0,0))∧arr.size=c*(lf e).length∧xs.length≤c∧c≤maxLen∧(∀ i,i<xs.length→(xs.getD i []).length=(lf e).length) ∧
   ∀ i j,i<xs.length→j<(lf e).length→RepK lf S.w S.F ((lf e).getD j .oth) ((xs.getD i []).getD j V.none) (arr.getD (i*(lf e).length+j) undef):=by
 have:=h.obj r
 rw [ho] at this
 exact this
theorem cell_of {w:World} {b:Nat} {arr:Array Value} {e:TypeId} {fz:Nat×Nat} (h:w.heap[b]?=some (.cells arr e fz)) {j:Nat} (hj:j<arr.size):w.cell? ⟨b,j,none⟩=some (arr.getD j undef):=by
 simp [World.cell?,h,Array.getD_eq_getD_getElem?,hj]
theorem RepD.ptr_inb {lf:TypeId→List K} {r:Ref} {off:Nat} {u:Value} (h:RepD lf S (.ptr r off) u):S.inb r:=by
 cases h with | ptr _ _ _ h _=>exact h.1
theorem RepD.ptr_inv {lf:TypeId→List K} {r:Ref} {off:Nat} {u:Value} (h:RepD lf S (.ptr r off) u) {cs:List D} {bc:Nat×Nat} (h1:S.obj r=.cells cs) (h2:S.blk r=some bc):u=.pointer (some ⟨bc.1,off,none⟩):=by
 cases h with | ptr _ _ _ _ h=>exact h bc (by rw [h1]; rfl) h2
theorem Rel.getO_obj {st:St} {H:Heap} {a:Act} {S:Sig} (h:Rel (lfs T) st H a S) (r:Ref):S.obj r=getO st H r:=by
 cases r with
 | loc i=>simp [Sig.obj,getO,h.L]
 | own i=>simp [Sig.obj,getO,h.H]
theorem run_loadObj (hT:TabOk P T) (hwf:Wf (lfs T) S) {t:TypeId} {r:Ref} {off:Nat} {cs:List D} {u:Value} (hn:0<(T.get t).lf.length) (ho:S.obj r=.cells cs) (hle:off+(T.get t).lf.length≤cs.length)
  (hu:RepD (lfs T) S (.ptr r off) u):∃ v,(Instr.loadAt t u).run P S.w=.ok v S.w∧RepD (lfs T) S (mkVal T t ((cs.drop off).take (T.get t).lf.length)) v:=by
 obtain ⟨b,c,e,arr,hb,hh,hsz,hrep⟩:=hwf.cells ho
 have hu':=hu.ptr_inv ho hb
 subst hu'
 have hus:∀ j,j<(T.get t).lf.length→((List.range (T.get t).lf.length).map fun j=>arr.getD (off+j) undef).getD j undef=arr.getD (off+j) undef:=fun j hj=>by
  simp [List.getD_eq_getElem?_getD,List.getElem?_map,List.getElem?_range hj]
 obtain ⟨v,h1,h2⟩:=run_loadVar (S:=S) hT (t:=t) (b:=b) (off:=off) (us:=(List.range (T.get t).lf.length).map fun j=>arr.getD (off+j) undef) (cs:=(cs.drop off).take (T.get t).lf.length) hn (by simp)
  (fun j hj=>by
   have hj':j<(T.get t).lf.length:=by simpa using hj
   rw [hus j hj']
   exact cell_of hh (by omega))
  (by simp; omega) (repD_of_list (by simp; omega) fun j hj=>by
   have hj':j<(T.get t).lf.length:=by simpa using hj
   rw [hus j hj',getD_take _ _ _ _ hj',getD_drop]
   exact (hrep (off+j) (by omega)).1)
 exact ⟨v,by simpa [Instr.loadAt,Instr.sureAddr] using h1,h2⟩
theorem ok_load (hT:TabOk P T) (t:TypeId) (x:Operand) (q:D→St→Heap→Prop) (ho:o.op=.load t x) (hrel:Rel (lfs T) st H a S) (hinv:Inv S0 S)
  (h:evLoad T t st H (st.eval x) fun d=>q d st H):OpOk P T S0 o a S q:=by
 have hx:=hrel.eval x
 have fin:∀ {d:D},(∃ v,(Instr.loadAt t (a.eval x)).run P S.w=.ok v S.w∧RepD (lfs T) S d v)→q d st H→OpOk P T S0 o a S q:=by
  rintro d ⟨v,h1,h2⟩ hq
  refine OpOk.value hrel hinv (v:=v) ?_ h2 hq
  simp only [execOp,ho,Sem.run_bind,h1,Result.andThen_ok]
  rfl
 unfold evLoad at h
 simp only at h
 split at h
 ·exact h.elim
 ·rename_i hn0
  have hn:0<(T.get t).lf.length:=by simpa using hn0
  split at h
  ·rename_i r off h1
   rw [h1] at hx
   split at h
   ·rename_i cs h2
    split at h
    ·rename_i hle
     exact fin (run_loadObj hT hrel.wf hn (r:=r) (by rw [hrel.getO_obj]; exact h2) (by simpa using hle) hx) h
    ·exact h.elim
   ·exact h.elim
  ·rename_i e cs off h1
   rw [h1] at hx
   split at h
   ·rename_i hlf hle
    refine fin ?_ h
    generalize a.eval x=u at hx
    cases hx with
    | elt _ _ _ b o us hb hc hr =>
     obtain ⟨v,h2,h3⟩:=run_loadElt (S:=S) hT (e:=e) (t:=t) (b:=b) (o:=o) (off:=off) hn (by simpa using hlf) (by simpa using hle) hc hr
     exact ⟨v,by simpa [Instr.loadAt,Instr.sureAddr] using h2,h3⟩
   ·exact h.elim
  ·rename_i r e n' i off h1
   rw [h1] at hx
   split at h
   ·rename_i hlf hle
    obtain ⟨xs,h2,h3,h4,h5⟩:=withRow_spec h
    refine fin ?_ h5
    have ho':S.obj r=.row e xs:=by rw [hrel.getO_obj]; exact h2
    rcases hrel.wf.row ho' with ⟨_,h0⟩ | ⟨b,c,arr,hb,hh,hsz,hxc,_,hlen,hrep⟩
    ·rw [h0] at h3; simp at h3; omega
    ·generalize a.eval x=u at hx
     cases hx with
     | relt _ _ _ _ _ _ hin hu =>
      have hu':=(hu e _ ho').2 h3.symm _ hb
      subst hu'
      have hmul:∀ j,j<(T.get e).lf.length→i*(T.get e).lf.length+j<arr.size:=fun j hj=>by
       rw [hsz]
       have h6:i+1≤c:=by omega
       have h7:=Nat.mul_le_mul_right (T.get e).lf.length h6
       rw [Nat.add_mul] at h7
       simp only [lfs]
       omega
      obtain ⟨v,h6,h7⟩:=run_loadElt (S:=S) hT (e:=e) (t:=t) (b:=b) (o:=i*(T.get e).lf.length) (off:=off) (us:=fun j=>arr.getD (i*(T.get e).lf.length+j) undef) (cs:=xs.getD i []) hn (by simpa using hlf) (by simpa using hle)
       (fun j hj=>cell_of hh (hmul j hj)) (fun j hj=>hrep i j (by omega) hj)
      exact ⟨v,by simpa [Instr.loadAt,Instr.sureAddr] using h6,h7⟩
   ·exact h.elim
  ·exact h.elim
theorem add_plain (b off n:Nat):(⟨b,off,none⟩:Addr).add n=⟨b,off+n,none⟩:=by unfold Addr.add; split <;> simp_all
theorem run_fieldAt (hT:TabOk P T) {s t:TypeId} {i o b off:Nat} (hf:(T.get s).flds[i]?=some (o,t)) (hn:0<(T.get t).lf.length) :
  (Instr.fieldAt s (.pointer (some ⟨b,off,none⟩)) i).run P S.w=.ok (.pointer (some ⟨b,off+o,none⟩)) S.w:=by
 obtain ⟨fs,f,hu,hfs,rfl,rfl⟩:=hT.get_fld hf
 obtain ⟨hok,ht⟩:=hT.get hn
 have hs:=hok.size S.w
 rw [ht] at hs
 have h0:(T.get f.type).lf.length≠0:=by omega
 simp only [Instr.fieldAt,Sem.run_bind,run_underlying hu,Result.andThen_ok,hfs,Instr.sureAddr,fieldPlace]
 simp [Sem.run,pure,hs,h0,add_plain]
theorem ok_fieldAddr (hT:TabOk P T) (s:TypeId) (x:Operand) (f:Nat) (q:D→St→Heap→Prop) (ho:o.op=.fieldAddr s x f) (hrel:Rel (lfs T) st H a S) (hinv:Inv S0 S)
  (h:evFieldAddr T s f st H (st.eval x) fun d=>q d st H):OpOk P T S0 o a S q:=by
 have hx:=hrel.eval x
 have fin:∀ {d:D},(∃ v,(Instr.fieldAt s (a.eval x) f).run P S.w=.ok v S.w∧RepD (lfs T) S d v)→q d st H→OpOk P T S0 o a S q:=by
  rintro d ⟨v,h1,h2⟩ hq
  refine OpOk.value hrel hinv (v:=v) ?_ h2 hq
  simp only [execOp,ho,Sem.run_bind,h1,Result.andThen_ok]
  rfl
 have cells:∀ (r:Ref) (off o:Nat) (t:TypeId),(T.get s).flds[f]?=some (o,t)→0<(T.get t).lf.length→∀ cs,S.obj r=.cells cs→RepD (lfs T) S (.ptr r off) (a.eval x) →
   ∃ v,(Instr.fieldAt s (a.eval x) f).run P S.w=.ok v S.w∧RepD (lfs T) S (.ptr r (off+o)) v:=by
  intro r off o t hf hn cs hob hu
  obtain ⟨b,c,e,arr,hb,_⟩:=hrel.wf.cells hob
  rw [hu.ptr_inv hob hb]
  exact ⟨_,run_fieldAt hT hf hn,.ptr _ _ _ ⟨hu.ptr_inb,rfl⟩ fun bc' h1 h2=>by rw [hb] at h2; cases h2; rfl⟩
 unfold evFieldAddr at h
 split at h
 ·exact h.elim
 ·rename_i o' t hf
  split at h
  ·exact h.elim
  ·rename_i hn0
   have hn:0<(T.get t).lf.length:=by simpa using hn0
   split at h
   ·rename_i r off h1
    rw [h1] at hx
    split at h
    ·rename_i cs h2
     exact fin (cells r off o' t hf hn cs (by rw [hrel.getO_obj]; exact h2) hx) h
    ·exact h.elim
   ·rename_i e cs off h1
    rw [h1] at hx
    refine fin ?_ h
    generalize a.eval x=u at hx
    cases hx with
    | elt _ _ _ b o us hb hc hr=>exact ⟨_,run_fieldAt hT hf hn,by rw [Nat.add_assoc]; exact .elt _ _ _ b o us hb hc hr⟩
   ·rename_i r e n i off h1
    rw [h1] at hx
    obtain ⟨xs,h2,h3,h4,h5⟩:=withRow_spec h
    refine fin ?_ h5
    have ho':S.obj r=.row e xs:=by rw [hrel.getO_obj]; exact h2
    rcases hrel.wf.row ho' with ⟨_,h0⟩ | ⟨b,c,arr,hb,hh,hsz,hxc,_,hlen,hrep⟩
    ·rw [h0] at h3; simp at h3; omega
    ·generalize a.eval x=u at hx
     cases hx with
     | relt _ _ _ _ _ _ hin hu =>
      rw [(hu e _ ho').2 h3.symm _ hb]
      refine ⟨_,run_fieldAt hT hf hn,.relt _ _ _ _ _ _ ⟨hin.1,rfl⟩ fun e' xs h6=>?_⟩
      rw [ho'] at h6
      cases h6
      exact ⟨by omega,fun _ bc hbc=>by rw [hb] at hbc; cases hbc; rw [Nat.add_assoc]⟩
   ·exact h.elim
theorem ok_nilCheck (x:Operand) (q:D→St→Heap→Prop) (ho:o.op=.nilCheck x) (hrel:Rel (lfs T) st H a S) (hinv:Inv S0 S)
  (h:match st.eval x with
   | .ptr r off=>(match getO st H r with
    | .cells _=>q (.ptr r off) st H
    | _=>False)
   | _=>False):OpOk P T S0 o a S q:=by
 have hx:=hrel.eval x
 have cells:∀ (r:Ref) (off:Nat) (cs:List D),S.obj r=.cells cs→RepD (lfs T) S (.ptr r off) (a.eval x)→q (.ptr r off) st H→OpOk P T S0 o a S q:=by
  intro r off cs hob hu hq
  obtain ⟨b,c,e,arr,hb,_⟩:=hrel.wf.cells hob
  have hu':=hu.ptr_inv hob hb
  refine OpOk.value hrel hinv (v:=a.eval x) ?_ hu hq
  simp only [execOp,ho,hu']
  rfl
 split at h
 ·rename_i r off h1
  rw [h1] at hx
  split at h
  ·rename_i cs h2
   exact cells r off cs (by rw [hrel.getO_obj]; exact h2) hx h
  ·exact h.elim
 ·exact h.elim
theorem ok_indexAddr (hT:TabOk P T) (t:TypeId) (x i:Operand) (q:D→St→Heap→Prop) (ho:o.op=.indexAddr t x i) (hrel:Rel (lfs T) st H a S) (hinv:Inv S0 S)
  (h:evIndexAddr T t (st.eval x) (st.eval i) st H fun d=>q d st H):OpOk P T S0 o a S q:=by
 have hx:=hrel.eval x
 have hi:=hrel.eval i
 unfold evIndexAddr at h
 split at h
 ·rename_i e k j he h1
  rw [h1] at hi
  have ei:=hi.int_inv
  have hu:=hT.get_el he
  split at h
  ·exact h.elim
  ·rename_i hpos0
   have hpos:0<(T.get e).lf.length:=by simpa using hpos0
   obtain ⟨hok,ht⟩:=hT.get hpos
   have hs:=hok.size S.w
   rw [ht] at hs
   have go:∀ (b off len cap:Nat) (d:D),a.eval x=.slice (some ⟨b,off,none⟩) len cap→0≤j.int→j.int<len →
     RepD (lfs T) S d (.pointer (some ⟨b,off+j.int.toNat*(T.get e).lf.length,none⟩))→q d st H→OpOk P T S0 o a S q:=by
    intro b off len cap d hv h0 hl hd hq
    refine OpOk.value hrel hinv (v:=_) ?_ hd hq
    simp only [execOp,ho,hv,ei,Instr.indexAt,asIntOf,Sem.run_bind,run_underlying hu,Result.andThen_ok]
    simp [Sem.run,pure,h0,hl,hs,add_plain]
   split at h
   ·rename_i e' y h2
    rw [h2] at hx
    split at h
    ·rename_i hee
     have hee':e=e':=by simpa using hee
     subst hee'
     obtain ⟨h3,h4,h5⟩:=h
     generalize hv:a.eval x=u at hx
     cases hx with
     | v _ _ _ hk =>
      cases hk with
      | sl0 _ _ A c h0=>rw [h0] at h4; simp at h4; omega
      | sl _ _ b off c us hb hc hlen hcell hrep =>
       have hjn:j.int.toNat<y.list.length:=by omega
       exact go b off _ c _ hv h3 h4 (RepD.elt (lf:=lfs T) (S:=S) e (y.list.getD j.int.toNat []) 0 b (off+j.int.toNat*(T.get e).lf.length) (us j.int.toNat) hb (fun j' hj'=>hcell _ _ hjn hj') (fun j' hj'=>hrep _ _ hjn hj')) h5
    ·exact h.elim
   ·rename_i r n h2
    rw [h2] at hx
    obtain ⟨xs,h3,h4,h5,h6,h7⟩:=withRow_spec h
    have ho':S.obj r=.row e xs:=by rw [hrel.getO_obj]; exact h3
    rcases hrel.wf.row ho' with ⟨_,h0⟩ | ⟨b,c,arr,hb,hh,hsz,hxc,_,hlen,hrep⟩
    ·rw [h0] at h4; simp at h4; omega
    ·generalize hv:a.eval x=u at hx
     cases hx with
     | osl _ _ _ hin hu =>
      have hu':=(hu e _ ho').2 h4.symm
      rw [hb] at hu'
      refine go b 0 n c _ (hv.trans hu') h5 h6 (.relt _ _ _ _ _ _ ⟨hin.1,rfl⟩ fun e' xs h8=>?_) h7
      rw [ho'] at h8
      cases h8
      exact ⟨by omega,fun _ bc hbc=>by rw [hb] at hbc; cases hbc; rw [Nat.zero_add]; rfl⟩
   ·exfalso; have:=h.1; have:=h.2.1; omega
   ·exact h.elim
 ·rename_i i0 he
  split at h
  ·rename_i n e m r off har hm h2
   rw [h2] at hx
   split at h
   ·rename_i cs h3
    split at h
    ·rename_i hc
     obtain ⟨hlt,hpos⟩:m<n∧0<(T.get e).lf.length:=by simpa using hc
     have hu:=hT.get_ar har
     obtain ⟨hok,ht⟩:=hT.get hpos
     have hs:=hok.size S.w
     rw [ht] at hs
     have hob:S.obj r=.cells cs:=by rw [hrel.getO_obj]; exact h3
     obtain ⟨b,c,e',arr,hb,_⟩:=hrel.wf.cells hob
     have hu':=hx.ptr_inv hob hb
     have hix:∃ k,a.eval i=.int k (m:Int):=by
      unfold litIx at hm
      split at hm
      ·rename_i k m' h5
       simp only [Option.some.injEq] at hm
       subst hm
       rw [h5] at hi
       exact ⟨k,hi.int_inv⟩
      ·cases hm
     obtain ⟨k,ei⟩:=hix
     refine OpOk.value hrel hinv (v:=.pointer (some ⟨b,off+m*(T.get e).lf.length,none⟩)) (d:=_) ?_ (.ptr r (off+m*(T.get e).lf.length) _ ⟨hx.ptr_inb,rfl⟩ fun bc' h6 h7=>by rw [hb] at h7; cases h7; rfl) h
     have h0:(0:Int)≤(m:Int):=by omega
     have h1:(m:Int)<(n:Int):=by omega
     simp only [execOp,ho,hu',ei,Instr.indexAt,asIntOf,Sem.run_bind,run_underlying hu,Result.andThen_ok,Instr.sureAddr]
     simp [Sem.run,pure,h0,h1,hs,add_plain,run_underlying hu]
    ·exact h.elim
   ·exact h.elim
  ·exact h.elim
 ·exact h.elim
theorem closed_spec:∀ (lf:List K) (cs:List D) (ys:List V),closed lf cs=some ys→ys.length=lf.length∧cs.length=lf.length∧∀ j,j<lf.length→cs.getD j .undef=.v (lf.getD j .oth) (ys.getD j V.none)
 | [],[],ys,h=>by simp [closed] at h; subst h; exact ⟨rfl,rfl,fun j hj=>by simp at hj⟩
 | [],_::_,_,h=>by simp [closed] at h
 | k::lf,[],_,h=>by simp [closed] at h
 | k::lf,d::r,ys,h=>by
  cases d with
  | v k' x =>
   simp only [closed] at h
   split at h
   ·rename_i hk
    have hk':k=k':=by simpa using hk
    subst hk'
    cases hc:closed lf r with
    | none=>rw [hc] at h; cases h
    | some zs =>
     rw [hc] at h
     simp only [Option.map_some,Option.some.injEq] at h
     subst h
     obtain ⟨h1,h2,h3⟩:=closed_spec lf r zs hc
     refine ⟨by simp [h1],by simp [h2],fun j hj=>?_⟩
     cases j with
     | zero=>rfl
     | succ j=>exact h3 j (by simpa using hj)
   ·cases h
  | _=>simp [closed] at h
theorem plain_rep {k:K} {d:D} {u:Value} (h:RepD (lfs T) S d u):RepD (lfs T) S (d.plain k) u:=by
 cases h with
 | nil =>
  cases k with
  | sl e=>exact .v _ _ _ (.sl0 e (.l []) none 0 rfl)
  | _=>exact .nil
 | v k' x u h=>exact .v _ _ _ h
 | agg cs us h1 h2=>exact .agg cs us h1 h2
 | tup cs us h1 h2=>exact .tup cs us h1 h2
 | ptr r off u h1 h2=>exact .ptr r off u h1 h2
 | elt e cs off b o us h1 h2 h3=>exact .elt e cs off b o us h1 h2 h3
 | relt r e n i off u h1 h2=>exact .relt r e n i off u h1 h2
 | osl r n u h1 h2=>exact .osl r n u h1 h2
 | mp r u h1 h2=>exact .mp r u h1 h2
 | fn f caps us h1 h2=>exact .fn f caps us h1 h2
 | ln n A c h=>exact .ln n A c h
 | skip=>exact .skip
 | undef u=>exact .undef u
theorem plainL_getD:∀ (lf:List K) (cs:List D) (j:Nat),j<lf.length→j<cs.length→(plainL lf cs).getD j .undef=(cs.getD j .undef).plain (lf.getD j .oth)
 | [],_,j,h,_=>by simp at h
 | k::lf,[],j,_,h=>by simp at h
 | k::lf,d::r,j,h1,h2=>by
  cases j with
  | zero=>rfl
  | succ j=>exact plainL_getD lf r j (by simpa using h1) (by simpa using h2)
theorem plainL_length:∀ (lf:List K) (cs:List D),(plainL lf cs).length=cs.length
 | [],cs=>by cases cs <;> rfl
 | _::_,[]=>rfl
 | k::lf,d::r=>by simp [plainL,plainL_length lf r]
theorem run_partCells (hT:TabOk P T) {t:TypeId} {cs:List D} {us:List Value} {o':Nat} (hn:0<(T.get t).lf.length) (hle:o' + (T.get t).lf.length≤us.length) (hl:cs.length=us.length)
  (hr:∀ j,RepD (lfs T) S (cs.getD j .undef) (us.getD j undef)):∃ v,(part t us.toArray o').run P S.w=.ok v S.w∧RepD (lfs T) S (mkVal T t ((cs.drop o').take (T.get t).lf.length)) v:=by
 obtain ⟨hok,ht⟩:=hT.get hn
 have hagg:=hok.agg S.w
 have hsz:=hok.size S.w
 rw [ht] at hagg hsz
 cases ha:(T.get t).agg with
 | true =>
  rw [ha] at hagg
  refine ⟨.agg ((us.drop o').take (T.get t).lf.length).toArray,?_,by rw [mkVal_agg ha]; exact .agg ((cs.drop o').take (T.get t).lf.length) ((us.drop o').take (T.get t).lf.length) (by simp; omega) (repD_of_list (by simp; omega) fun j hj=>by
   have hj':j<(T.get t).lf.length:=by simp at hj; omega
   rw [getD_take _ _ _ _ hj',getD_take _ _ _ _ hj',getD_drop,getD_drop]
   exact hr _)⟩
  simp only [part,Sem.run_bind,hagg,Result.andThen_ok,if_true,hsz]
  simp [pure,List.extract_toArray]
 | false =>
  rw [ha] at hagg
  have h1:=hok.one ha
  refine ⟨us.getD o' undef,?_,?_⟩
  ·have:us.toArray[o']?=some (us.getD o' undef):=by
    rw [List.getD_eq_getElem?_getD,List.getElem?_toArray,List.getElem?_eq_getElem (by omega)]; rfl
   simp only [part,Sem.run_bind,hagg,Result.andThen_ok,Bool.false_eq_true,if_false,this]
   rfl
  ·rw [mkVal_one ha]
   have:=hr o'
   rw [h1]
   have e:((cs.drop o').take 1).headD .undef=cs.getD o' .undef:=by
    have hlt:o' < cs.length:=by omega
    rw [List.drop_eq_getElem_cons hlt,List.getD_eq_getElem?_getD,List.getElem?_eq_getElem hlt]
    rfl
   rw [e]
   exact this
theorem chunks_getD (m:Nat):∀ (n:Nat) (vs:List V) (i:Nat),i<n→(chunks m n vs).getD i []=(vs.drop (i*m)).take m
 | 0,_,_,h=>by omega
 | n+1,vs,0,_=>by simp [chunks]
 | n+1,vs,i+1,h=>by
  have:=chunks_getD m n (vs.drop m) i (by omega)
  simp only [chunks,List.getD_cons_succ,this,List.drop_drop]
  rw [Nat.add_mul,Nat.one_mul,Nat.add_comm]
theorem flatten_getD (l:List K):∀ (n i q:Nat),i<n→q<l.length→((List.replicate n l).flatten).getD (i*l.length+q) .oth=l.getD q .oth
 | 0,_,_,h,_=>by omega
 | n+1,i,q,h,hq=>by
  simp only [List.replicate_succ,List.flatten_cons]
  cases i with
  | zero=>simp [List.getD_eq_getElem?_getD,List.getElem?_append_left hq]
  | succ i =>
   have h1:l.length≤(i+1)*l.length+q:=by rw [Nat.add_mul,Nat.one_mul]; omega
   rw [List.getD_eq_getElem?_getD,List.getElem?_append_right h1,← List.getD_eq_getElem?_getD]
   rw [show (i+1)*l.length+q - l.length=i*l.length+q from by rw [Nat.add_mul,Nat.one_mul]; omega]
   exact flatten_getD l n i q (by omega) hq
theorem ok_index (hT:TabOk P T) (t:TypeId) (x i:Operand) (q:D→St→Heap→Prop) (ho:o.op=.index t x i) (hrel:Rel (lfs T) st H a S) (hinv:Inv S0 S)
  (h:evIndex T t (st.eval x) (st.eval i) fun d=>q d st H):OpOk P T S0 o a S q:=by
 have hx:=hrel.eval x
 have hi:=hrel.eval i
 unfold evIndex at h
 split at h
 ·rename_i s k j h1 h2
  rw [h1] at hx; rw [h2] at hi
  have ex:=hx.str_inv
  have ei:=hi.int_inv
  split at h
  ·exact h.elim
  ·rename_i hk
   have hu:=hT.get_str (t:=t) (by simpa using hk)
   obtain ⟨h3,h4,h5⟩:=h
   have hlt:j.int.toNat<s.str.size:=by omega
   refine OpOk.value hrel hinv (v:=.int .u8 ((s.str.data.toList.getD j.int.toNat 0).toNat:Int)) (d:=_) ?_ (RepD.mkInt _) h5
   have hget:s.str[j.int.toNat]?=some (s.str.data.toList.getD j.int.toNat 0):=by
    rw [getElem?_pos s.str j.int.toNat hlt]
    have hlt':j.int.toNat<s.str.data.toList.length:=by simpa using hlt
    rw [List.getD_eq_getElem?_getD,List.getElem?_eq_getElem hlt']
    rfl
   simp only [execOp,ho,ex,ei,Instr.index,asIntOf,Sem.run_bind,run_underlying hu,Result.andThen_ok]
   simp [Sem.run,pure,h3,hget]
 ·rename_i cs k j h1 h2
  rw [h1] at hx; rw [h2] at hi
  have ei:=hi.int_inv
  split at h
  ·rename_i n e har
   split at h
   ·rename_i vs hcl hc
    obtain ⟨hpos,hlf⟩:0<(T.get e).lf.length∧(T.get t).lf=(List.replicate n (T.get e).lf).flatten:=by simpa using hc
    obtain ⟨h3,h4,h5⟩:=h
    have hu:=hT.get_ar har
    obtain ⟨hok,ht⟩:=hT.get hpos
    have hs:=hok.size S.w
    rw [ht] at hs
    generalize hv:a.eval x=u at hx
    cases hx with
    | agg _ us hl hr =>
     obtain ⟨c1,c2,c3⟩:=closed_spec _ _ _ hcl
     rw [plainL_length] at c2
     have hlen:(T.get t).lf.length=n*(T.get e).lf.length:=by rw [hlf]; simp
     obtain ⟨i,hi',hin⟩:∃ i:Nat,j.int.toNat=i∧i<n:=⟨_,rfl,by omega⟩
     have hmul:i*(T.get e).lf.length+(T.get e).lf.length≤us.length:=by
      have h7:=Nat.mul_le_mul_right (T.get e).lf.length (show i+1≤n by omega)
      rw [Nat.add_mul,Nat.one_mul] at h7
      omega
     obtain ⟨v,h6,h7⟩:=run_partCells (S:=S) hT (t:=e) (cs:=(List.range us.length).map fun q=>.v ((T.get t).lf.getD q .oth) (vs.getD q V.none)) (us:=us) (o':=i*(T.get e).lf.length) hpos hmul (by simp)
      (repD_of_list (by simp) fun q hq=>by
       have hq1:q<(T.get t).lf.length:=by omega
       have h8:=plain_rep (k:=(T.get t).lf.getD q .oth) (hr q)
       rw [← plainL_getD _ _ _ hq1 (by omega),c3 q hq1] at h8
       rw [show ((List.range us.length).map fun q=>D.v ((T.get t).lf.getD q .oth) (vs.getD q V.none)).getD q .undef=.v ((T.get t).lf.getD q .oth) (vs.getD q V.none) from by
        simp [List.getD_eq_getElem?_getD,List.getElem?_map,List.getElem?_range hq]]
       exact h8)
     refine OpOk.value hrel hinv (v:=v) ?_ ?_ h5
     ·simp only [execOp,ho,hv,ei,Instr.index,asIntOf,Sem.run_bind,run_underlying hu,Result.andThen_ok]
      simp [Sem.run,pure,h3,h4,hs,hi',h6]
     ·have e1:List.take (T.get e).lf.length (List.drop (i*(T.get e).lf.length) ((List.range us.length).map fun q=>D.v ((T.get t).lf.getD q .oth) (vs.getD q V.none)))=vcells (T.get e).lf ((chunks (T.get e).lf.length n vs).getD i []):=by
       refine List.ext_getElem (by rw [vcells_length]; simp; omega) fun q hq1 hq2=>?_
       rw [vcells_length] at hq2
       have h9:(vcells (T.get e).lf ((chunks (T.get e).lf.length n vs).getD i []))[q]=.v ((T.get e).lf.getD q .oth) (((chunks (T.get e).lf.length n vs).getD i []).getD q V.none):=by
        have:=vcells_getD (lf:=(T.get e).lf) (cs:=(chunks (T.get e).lf.length n vs).getD i []) hq2
        rw [List.getD_eq_getElem?_getD,List.getElem?_eq_getElem (by rw [vcells_length]; exact hq2)] at this
        exact this
       rw [h9]
       simp only [List.getElem_take,List.getElem_drop,List.getElem_map,List.getElem_range]
       rw [chunks_getD _ _ _ _ hin,getD_take _ _ _ _ hq2,getD_drop,hlf,flatten_getD _ _ _ _ hin hq2]
      rw [hi',← e1]
      exact h7
   ·exact h.elim
  ·exact h.elim
 ·exact h.elim
theorem ok_extract (x:Operand) (i:Nat) (q:D→St→Heap→Prop) (ho:o.op=.extract x i) (hrel:Rel (lfs T) st H a S) (hinv:Inv S0 S)
  (h:match st.eval x with
   | .tup ds=>(match Nat.blt i ds.length with
    | true=>q (ds.getD i .undef) st H
    | false=>False)
   | _=>False):OpOk P T S0 o a S q:=by
 have hx:=hrel.eval x
 split at h
 ·rename_i ds h1
  rw [h1] at hx
  split at h
  ·rename_i hlt
   have hlt':i<ds.length:=by simpa using hlt
   generalize hv:a.eval x=u at hx
   cases hx with
   | tup _ us hl hr =>
    refine OpOk.value hrel hinv (v:=us.getD i undef) ?_ (hr i) h
    obtain ⟨y,hy⟩:∃ y,us[i]?=some y:=⟨_,List.getElem?_eq_getElem (by omega)⟩
    have hg:us.getD i undef=y:=by rw [List.getD_eq_getElem?_getD,hy]; rfl
    rw [hg]
    simp only [execOp,ho,hv,Instr.extract]
    simp [Sem.run,pure,hy]
  ·exact h.elim
 ·exact h.elim
theorem ok_makeFunc (f:FuncId) (first caps:Array Operand) (q:D→St→Heap→Prop) (ho:o.op=.makeFunc (.func f) first caps) (hrel:Rel (lfs T) st H a S) (hinv:Inv S0 S)
  (h:match first.toList with
   | []=>q (.fn f (caps.toList.map st.eval)) st H
   | _=>False):OpOk P T S0 o a S q:=by
 split at h
 ·rename_i h1
  have hf:first=#[]:=by simpa using h1
  refine OpOk.value hrel hinv (v:=.func (.func f) #[] (caps.toList.map a.eval).toArray) ?_ (.fn f _ _ (by simp) (repD_of_list (by simp) fun j hj=>?_)) h
  ·have e:caps.map a.eval=(caps.toList.map a.eval).toArray:=by apply Array.ext'; simp
   simp only [execOp,ho,hf,Instr.makeFunc,e]
   simp [Sem.run,pure]
  ·have hj':j<caps.toList.length:=by simpa using hj
   have e1:(caps.toList.map st.eval).getD j .undef=st.eval caps.toList[j]:=by simp [List.getD_eq_getElem?_getD,List.getElem?_map,List.getElem?_eq_getElem hj']
   have e2:(caps.toList.map a.eval).getD j undef=a.eval caps.toList[j]:=by simp [List.getD_eq_getElem?_getD,List.getElem?_map,List.getElem?_eq_getElem hj']
   rw [e1,e2]
   exact hrel.eval _
 ·exact h.elim
theorem ok_field (hT:TabOk P T) (s:TypeId) (x:Operand) (f:Nat) (q:D→St→Heap→Prop) (ho:o.op=.field s x f) (hrel:Rel (lfs T) st H a S) (hinv:Inv S0 S)
  (h:evField T s f (st.eval x) fun d=>q d st H):OpOk P T S0 o a S q:=by
 have hx:=hrel.eval x
 unfold evField at h
 split at h
 ·rename_i o' t cs hf h1
  rw [h1] at hx
  split at h
  ·rename_i hc
   obtain ⟨hn,hle⟩:0<(T.get t).lf.length∧o' + (T.get t).lf.length≤cs.length:=by simpa using hc
   obtain ⟨fs,fd,hu,hfs,rfl,rfl⟩:=hT.get_fld hf
   generalize hv:a.eval x=u at hx
   cases hx with
   | agg _ us hl hr =>
    obtain ⟨v,h2,h3⟩:=run_partCells (S:=S) hT (t:=fd.type) (o':=fd.offset) hn (by omega) hl hr
    refine OpOk.value hrel hinv (v:=v) ?_ h3 h
    simp only [execOp,ho,hv,Instr.field,Sem.run_bind,run_underlying hu,Result.andThen_ok,hfs,asAgg]
    simp [Sem.run,pure,h2]
  ·exact h.elim
 ·exact h.elim
theorem ok_minmax (mx:Bool) (x y:Operand) (ts:Array TypeId) (q:D→St→Heap→Prop) (ho:o.op=.call { callee:=.builtin (if mx then .max else .min),args:=#[x,y],argTypes:=ts }) (hrel:Rel (lfs T) st H a S) (hinv:Inv S0 S)
  (h:evMinMax mx [st.eval x,st.eval y] fun d=>q d st H):OpOk P T S0 o a S q:=by
 have hx:=hrel.eval x
 have hy:=hrel.eval y
 unfold evMinMax at h
 split at h
 ·rename_i k m k' n hl
  simp only [List.cons.injEq,and_true] at hl
  obtain ⟨h1,h2⟩:=hl
  rw [h1] at hx; rw [h2] at hy
  have ex:=hx.int_inv; have ey:=hy.int_inv
  split at h
  ·have hk':k=k':=of_decide_eq_true (by assumption)
   subst hk'
   refine OpOk.value hrel hinv (v:=.int k (if n.int > m.int then n.int else m.int)) ?_ (RepD.mkInt _) h
   simp only [execOp,ho,resolve,invoke,Sem.run_bind]
   simp [Sem.run,pure,builtin,Builtin.max_,ex,ey,Builtin.max2]
  ·have hk':k=k':=of_decide_eq_true (by assumption)
   subst hk'
   refine OpOk.value hrel hinv (v:=.int k (if n.int<m.int then n.int else m.int)) ?_ (RepD.mkInt _) h
   simp only [execOp,ho,resolve,invoke,Sem.run_bind]
   simp [Sem.run,pure,builtin,Builtin.min_,ex,ey,Builtin.min2]
  ·exact h.elim
 ·exact h.elim
end
end Go.Abs
namespace Go.Abs
variable {P:Program} {T:Tab} {S0:Sig} {o:Oper} {a:Act} {S:Sig} {st:St} {H:Heap}
theorem scrubD_undef (i:Nat):scrubD i .undef=.undef:=by simp [scrubD,D.names,D.anyR]
theorem getD_map_scrub (i:Nat) (l:List D) (j:Nat):(l.map (scrubD i)).getD j .undef=scrubD i (l.getD j .undef):=by
 simp only [List.getD_eq_getElem?_getD,List.getElem?_map]
 cases l[j]? with
 | none=>simp [scrubD_undef]
 | some x=>rfl
theorem getD_map_scrubO (i:Nat) (l:List Obj) (j:Nat):(l.map (scrubO i)).getD j .dead=scrubO i (l.getD j .dead):=by
 simp only [List.getD_eq_getElem?_getD,List.getElem?_map]
 cases l[j]? with
 | none=>rfl
 | some x=>rfl
theorem isAt_false {i:Nat} {r:Ref} (h:Ref.isAt i r=false):r≠.loc i:=by
 rintro rfl
 simp [Ref.isAt] at h
theorem set_getD_gen {α:Type} (l:List α) (d:Nat) (x z:α) (j:Nat):(l.set d x).getD j z=if j=d∧d<l.length then x else l.getD j z:=by
 simp only [List.getD_eq_getElem?_getD,List.getElem?_set]
 by_cases h:d=j
 ·subst h
  by_cases h2:d<l.length
  ·simp [h2]
  ·simp [h2]
 ·rw [if_neg h,if_neg (fun h2=>h h2.1.symm)]
theorem scrubO_cells {i:Nat} {o:Obj} {cs:List D} (h:scrubO i o=.cells cs):∃ cs0,o=.cells cs0∧cs=cs0.map (scrubD i):=by
 cases o with
 | cells cs0=>exact ⟨cs0,rfl,by injection h with h; exact h.symm⟩
 | row e xs=>cases h
 | map m xs=>cases h
 | iter m x n s=>cases h
 | dead=>cases h
theorem scrubO_row {i:Nat} {o:Obj} {e:TypeId} {xs:List (List V)} (h:scrubO i o=.row e xs):o=.row e xs:=by
 cases o with
 | cells cs0=>cases h
 | row e xs=>exact h
 | map m xs=>cases h
 | iter m x n s=>cases h
 | dead=>cases h
theorem scrubO_map {i:Nat} {o:Obj} {m:MT} {xs:List (List V)} (h:scrubO i o=.map m xs):o=.map m xs:=by
 cases o with
 | cells cs0=>cases h
 | row e xs=>cases h
 | map m xs=>exact h
 | iter m x n s=>cases h
 | dead=>cases h
theorem scrubO_isPt (i:Nat) (o:Obj):(scrubO i o).isPt=o.isPt:=by cases o <;> rfl
abbrev newSig (S : Sig) (i : Nat) (ob : Obj) (bc : Option (Nat × Nat)) (w' : World) : Sig :=
  { S with w := w', L := (S.L.map (scrubO i)).set i ob, la := S.la.set i bc }
theorem newSig_obj (hwf:Wf (lfs T) S) (i:Nat) (ob:Obj) (bc:Option (Nat×Nat)) (w':World) (r:Ref) :
  (r=.loc i∧i<S.L.length∧(newSig S i ob bc w').obj r=ob∧(newSig S i ob bc w').blk r=bc) ∨
  ((r=.loc i→¬ i<S.L.length)∧(newSig S i ob bc w').obj r=scrubO i (S.obj r)∧(newSig S i ob bc w').blk r=S.blk r) ∨
  ((∃ k,r=.own k)∧(newSig S i ob bc w').obj r=S.obj r∧(newSig S i ob bc w').blk r=S.blk r):=by
 cases r with
 | own k=>exact .inr (.inr ⟨⟨k,rfl⟩,rfl,rfl⟩)
 | loc j =>
  by_cases hj:j=i∧i<S.L.length
  ·obtain ⟨rfl,hi⟩:=hj
   refine .inl ⟨rfl,hi,?_,?_⟩
   ·simp [Sig.obj,set_getD_gen,hi]
   ·simp [Sig.blk,set_getD_gen,hwf.lalen,hi]
  ·refine .inr (.inl ⟨fun h=>by cases h; exact fun hi=>hj ⟨rfl,hi⟩,?_,?_⟩)
   ·simp only [Sig.obj,set_getD_gen,List.length_map,if_neg hj,getD_map_scrubO]
   ·simp only [Sig.blk,set_getD_gen,hwf.lalen,if_neg hj]
theorem newSig_keep (hwf:Wf (lfs T) S) (i:Nat) (ob:Obj) (bc:Option (Nat×Nat)) (w':World) (r:Ref) (hr:Ref.isAt i r=false):Keep S (newSig S i ob bc w') r:=by
 rcases newSig_obj hwf i ob bc w' r with ⟨h,_⟩ | ⟨_,h1,h2⟩ | ⟨_,h1,h2⟩
 ·exact absurd h (isAt_false hr)
 ·refine ⟨fun b h3 h4=>⟨?_,h2▸h4⟩,fun e xs h3=>?_,fun m xs h3=>⟨xs,scrubO_map (h1▸h3),h2⟩⟩
  ·rw [h1,scrubO_isPt] at h3
   exact h3
  ·exact ⟨xs,scrubO_row (h1▸h3),Nat.le_refl _,fun _=>h2⟩
 ·exact .refl h1 h2
theorem newSig_repD (hwf:Wf (lfs T) S) {i:Nat} {ob:Obj} {bc:Option (Nat×Nat)} {w':World} (hw:∀ b,b<S.w.heap.size→w'.heap[b]?=S.w.heap[b]?) {d:D} {u:Value} (h:RepD (lfs T) S d u) :
  RepD (lfs T) (newSig S i ob bc w') (scrubD i d) u:=by
 unfold scrubD
 split
 ·exact .undef _
 ·rename_i hn
  exact RepD.mono (S:=S) (S':=newSig S i ob bc w') (Nat.le_refl _) (fun b hb=>hb) (fun b hb=>hw b (hwf.frozen b hb).1) (p:=Ref.isAt i) (fun r hr _=>newSig_keep hwf i ob bc w' r hr) hn h
theorem Rel.newLoc (hrel:Rel (lfs T) st H a S) (hinv:Inv S0 S) (i:Nat) (ob:Obj) (bc:Option (Nat×Nat)) (w':World)
  (hsz:S.w.heap.size≤w'.heap.size) (hw:∀ b,b<S.w.heap.size→w'.heap[b]?=S.w.heap[b]?) (hos:w'.os=S.w.os) (htape:w'.tape=S.w.tape) (hout:w'.output=S.w.output)
  (hbc:∀ x,bc=some x→S.w.heap.size≤x.1∧x.1<w'.heap.size) (hob:ObjRep (lfs T) (newSig S i ob bc w') ob bc) :
  Rel (lfs T) (Abs.newLoc i ob st) H a (newSig S i ob bc w')∧Inv S0 (newSig S i ob bc w'):=by
 have hwf:=hrel.wf
 have hsub:∀ r x,(newSig S i ob bc w').blk r=some x→(r=.loc i∧bc=some x)∨S.blk r=some x:=fun r x hx=>by
  rcases newSig_obj hwf i ob bc w' r with ⟨h,_,_,h2⟩ | ⟨_,_,h2⟩ | ⟨_,_,h2⟩
  ·exact .inl ⟨h,h2▸hx⟩
  ·exact .inr (h2▸hx)
  ·exact .inr (h2▸hx)
 refine ⟨⟨hrel.H,?_,?_,hrel.defers,fun j=>?_,?_⟩,?_,?_,?_⟩
 ·show (S.L.map (scrubO i)).set i ob=_
  rw [hrel.L]; rfl
 ·show a.tmps.size=(st.tmps.map (scrubD i)).length
  rw [List.length_map]; exact hrel.size
 ·show RepD _ _ ((st.tmps.map (scrubD i)).getD j .undef) _
  rw [getD_map_scrub]
  exact newSig_repD hwf hw (hrel.rep j)
 ·refine ⟨fun b hb=>⟨Nat.lt_of_lt_of_le (hwf.frozen b hb).1 hsz,fun r x hx=>?_⟩,fun r r' x x' hx hx' he=>?_,fun r x hx=>?_,fun r=>?_,hwf.own,hwf.mulen,?_,hwf.mark.1,fun d hd=>?_⟩
  ·have hlt:=(hwf.frozen b hb).1
   rcases hsub r x hx with ⟨_,h⟩ | h
   ·have:=(hbc x h).1; omega
   ·exact (hwf.frozen b hb).2 r x h
  ·rcases hsub r x hx with ⟨h1,h⟩ | h <;> rcases hsub r' x' hx' with ⟨h1',h'⟩ | h'
   ·rw [h1,h1']
   ·have:=(hbc x h).1; have:=hwf.lt r' x' h'; omega
   ·have:=(hbc x' h').1; have:=hwf.lt r x h; omega
   ·exact hwf.inj r r' x x' h h' he
  ·rcases hsub r x hx with ⟨_,h⟩ | h
   ·exact (hbc x h).2
   ·exact Nat.lt_of_lt_of_le (hwf.lt r x h) hsz
  ·rcases newSig_obj hwf i ob bc w' r with ⟨h,_,h1,h2⟩ | ⟨h,h1,h2⟩ | ⟨⟨k,hk⟩,h1,h2⟩
   ·rw [h1,h2]; exact hob
   ·rw [h1,h2]
    have:=hwf.obj r
    cases hr:S.obj r with
    | cells cs =>
     rw [hr] at this
     obtain ⟨b,c,e,arr,h3,h4,h5,h6⟩:=this
     refine ⟨b,c,e,arr,h3,?_,by simpa using h5,fun j hj=>?_⟩
     ·rw [← h4]; exact hw b (hwf.lt r _ h3)
     ·have hj':j<cs.length:=by simpa using hj
      rw [getD_map_scrub]
      exact ⟨newSig_repD hwf hw (h6 j hj').1,(h6 j hj').2⟩
    | row e xs =>
     rw [hr] at this
     rcases this with h3 | ⟨b,c,arr,h3,h4,h5,h6,h7,h9,h8⟩
     ·exact .inl h3
     ·exact .inr ⟨b,c,arr,h3,by rw [← h4]; exact hw b (hwf.lt r _ h3),h5,h6,h7,h9,fun x y hx hy=>RepK.mono (w:=S.w) (w':=w') (F:=S.F) (F':=S.F) (fun _ h=>h) (fun b hb=>hw b (hwf.frozen b hb).1) (h8 x y hx hy)⟩
    | map m xs =>
     rw [hr] at this
     obtain ⟨b,c,clock,ents,us,h3,h4,h5,h6,h7,h8⟩:=this
     exact ⟨b,c,clock,ents,us,h3,by rw [← h4]; exact hw b (hwf.lt r _ h3),h5,h6,h7,fun x y hx hy=>RepK.mono (w:=S.w) (w':=w') (F:=S.F) (F':=S.F) (fun _ h=>h) (fun b hb=>hw b (hwf.frozen b hb).1) (h8 x y hx hy)⟩
    | iter m x n s =>
     rw [hr] at this
     obtain ⟨b,c,mb,h3,h4,h5,h6⟩:=this
     exact ⟨b,c,mb,h3,by rw [← h4]; exact hw b (hwf.lt r _ h3),newSig_repD hwf hw h5,h6⟩
    | dead=>rw [hr] at this; exact this
   ·subst hk
    rw [h1,h2]
    have:=hwf.obj (.own k)
    have hown:=hwf.own k
    cases hr:S.obj (.own k) with
    | cells cs =>
     rw [hr] at this
     have hr':S.H.getD k .dead=.cells cs:=hr
     rw [hr'] at hown
     have hown:D.localL cs=false:=hown
     obtain ⟨b,c,e,arr,h3,h4,h5,h6⟩:=this
     refine ⟨b,c,e,arr,h3,by rw [← h4]; exact hw b (hwf.lt _ _ h3),h5,fun j hj=>⟨?_,(h6 j hj).2⟩⟩
     refine RepD.mono (S:=S) (S':=newSig S i ob bc w') (Nat.le_refl _) (fun b hb=>hb) (fun b hb=>hw b (hwf.frozen b hb).1) (p:=Ref.isLoc) (fun r hr0 _=>?_) (anyL_getD j hown) (h6 j hj).1
     cases r with
     | loc j=>cases hr0
     | own j=>exact .refl rfl rfl
    | row e xs =>
     rw [hr] at this
     rcases this with h3 | ⟨b,c,arr,h3,h4,h5,h6,h7,h9,h8⟩
     ·exact .inl h3
     ·exact .inr ⟨b,c,arr,h3,by rw [← h4]; exact hw b (hwf.lt _ _ h3),h5,h6,h7,h9,fun x y hx hy=>RepK.mono (w:=S.w) (w':=w') (F:=S.F) (F':=S.F) (fun _ h=>h) (fun b hb=>hw b (hwf.frozen b hb).1) (h8 x y hx hy)⟩
    | map m xs =>
     rw [hr] at this
     obtain ⟨b,c,clock,ents,us,h3,h4,h5,h6,h7,h8⟩:=this
     exact ⟨b,c,clock,ents,us,h3,by rw [← h4]; exact hw b (hwf.lt _ _ h3),h5,h6,h7,fun x y hx hy=>RepK.mono (w:=S.w) (w':=w') (F:=S.F) (F':=S.F) (fun _ h=>h) (fun b hb=>hw b (hwf.frozen b hb).1) (h8 x y hx hy)⟩
    | iter m x n s =>
     have hr':S.H.getD k .dead=.iter m x n s:=hr
     rw [hr'] at hown
     exact hown.elim
    | dead=>rw [hr] at this; exact this
  ·show (S.la.set i bc).length=((S.L.map (scrubO i)).set i ob).length
   simp [hwf.lalen]
  ·obtain ⟨h1,h2,h3⟩:=hwf.mark.2 d hd
   have hlt:d<S.w.heap.size:=(Array.getElem?_eq_some_iff.1 h1).1
   refine ⟨(hw d hlt).trans h1,fun r x hx=>?_,h3⟩
   rcases hsub r x hx with ⟨_,h⟩ | h
   ·have:=(hbc x h).1; omega
   ·exact h2 r x h
 ·have he:=hinv.ext
  refine ⟨Nat.le_trans he.size hsz,hos.trans he.os,htape.trans he.tape,hout.trans he.output,fun b hb hn=>?_,he.F,he.Fnew,he.len,fun k hk=>?_,fun k x hx=>he.fresh k x hx⟩
  ·obtain ⟨h1,h2⟩:=he.block b hb hn
   exact ⟨(hw b (Nat.lt_of_lt_of_le hb he.size)).trans h1,h2⟩
  ·exact (he.keep k hk).trans (.refl rfl rfl)
 ·intro k x hx
  rcases hsub (.loc k) x hx with ⟨_,h⟩ | h
  ·exact Nat.le_trans hinv.ext.size (hbc x h).1
  ·exact hinv.loc k x h
 ·exact fun d hd=>hinv.mkd d hd
theorem alloc_old (w:World) (ob:Go.Obj) (b:Nat) (h:b<w.heap.size):(w.alloc ob).heap[b]?=w.heap[b]?:=by
 show (w.heap.push ob)[b]?=_
 rw [Array.getElem?_push,if_neg (by omega)]
theorem alloc_new (w:World) (ob:Go.Obj):(w.alloc ob).heap[w.heap.size]?=some ob:=by
 show (w.heap.push ob)[w.heap.size]?=_
 simp
theorem alloc_size (w:World) (ob:Go.Obj):(w.alloc ob).heap.size=w.heap.size+1:=by
 show (w.heap.push ob).size=_
 simp
theorem Rel.newCells (hrel:Rel (lfs T) st H a S) (hinv:Inv S0 S) (i:Nat) (e:TypeId) (cs:List D) (arr:Array Value) (hl:arr.size=cs.length)
  (hr:∀ j,j<cs.length→RepD (lfs T) S (cs.getD j .undef) (arr.getD j undef)∧(arr.getD j undef).oneCell'=true) :
  ∃ S',S'.w=S.w.alloc (.cells arr e)∧Rel (lfs T) (Abs.newLoc i (.cells (cs.map (scrubD i))) st) H a S'∧Inv S0 S'∧RepD (lfs T) S' (.ptr (.loc i) 0) (.pointer (some ⟨S.w.heap.size,0,none⟩)):=by
 have hw:=alloc_old S.w (.cells arr e)
 obtain ⟨h1,h2⟩:=Rel.newLoc hrel hinv i (.cells (cs.map (scrubD i))) (some (S.w.heap.size,0)) (S.w.alloc (.cells arr e)) (by rw [alloc_size]; omega) hw rfl rfl rfl
  (fun x hx=>by cases hx; exact ⟨Nat.le_refl _,by rw [alloc_size]; exact Nat.lt_succ_self _⟩)
  ⟨S.w.heap.size,0,e,arr,rfl,alloc_new _ _,by simpa using hl,fun j hj=>by
   have hj':j<cs.length:=by simpa using hj
   rw [getD_map_scrub]
   exact ⟨newSig_repD hrel.wf hw (hr j hj').1,(hr j hj').2⟩⟩
 refine ⟨_,rfl,h1,h2,.ptr _ _ _ ⟨trivial,rfl⟩ fun bc h3 h4=>?_⟩
 rcases newSig_obj hrel.wf i (.cells (cs.map (scrubD i))) (some (S.w.heap.size,0)) (S.w.alloc (.cells arr e)) (.loc i) with ⟨_,_,_,h6⟩ | ⟨h5,_,h6⟩ | ⟨⟨k,hk⟩,_⟩
 ·rw [h6] at h4; cases h4; rfl
 ·rw [h6] at h4
  have:=h5 rfl
  have h7:S.la.getD i none=none:=by
   rw [List.getD_eq_getElem?_getD,List.getElem?_eq_none (by rw [hrel.wf.lalen]; omega)]; rfl
  rw [show S.blk (.loc i)=none from h7] at h4
  cases h4
 ·cases hk
theorem Rel.newRow (hrel:Rel (lfs T) st H a S) (hinv:Inv S0 S) (i:Nat) (e:TypeId) :
  Rel (lfs T) (Abs.newLoc i (.row e []) st) H a (newSig S i (.row e []) none S.w)∧Inv S0 (newSig S i (.row e []) none S.w)∧RepD (lfs T) (newSig S i (.row e []) none S.w) (.osl (.loc i) 0) (.slice none 0 0):=by
 obtain ⟨h1,h2⟩:=Rel.newLoc hrel hinv i (.row e []) none S.w (Nat.le_refl _) (fun _ _=>rfl) rfl rfl rfl (fun x hx=>by cases hx) (.inl ⟨rfl,rfl⟩)
 refine ⟨h1,h2,.osl _ _ _ ⟨trivial,rfl⟩ fun e' xs h3=>⟨Nat.zero_le _,fun _=>?_⟩⟩
 rcases newSig_obj hrel.wf i (.row e []) none S.w (.loc i) with ⟨_,_,_,h6⟩ | ⟨h5,_,h6⟩ | ⟨⟨k,hk⟩,_⟩
 ·rw [h6]; rfl
 ·have:=h5 rfl
  have h7:S.la.getD i none=none:=by
   rw [List.getD_eq_getElem?_getD,List.getElem?_eq_none (by rw [hrel.wf.lalen]; omega)]; rfl
  rw [h6,show S.blk (.loc i)=none from h7]; rfl
 ·cases hk
theorem Rel.drop (hrel:Rel (lfs T) st H a S) (hinv:Inv S0 S) (i:Nat) :
  Rel (lfs T) (Abs.newLoc i .dead st) H a (newSig S i .dead none S.w)∧Inv S0 (newSig S i .dead none S.w) :=
 Rel.newLoc hrel hinv i .dead none S.w (Nat.le_refl _) (fun _ _=>rfl) rfl rfl rfl (fun x hx=>by cases hx) rfl
theorem zeroD_scrub (i:Nat) (k:K):scrubD i (zeroD k)=zeroD k:=by cases k <;> simp [zeroD,scrubD,D.names,D.anyR]
theorem scrub_plain {i:Nat} {d:D} (h:D.names i d=false):scrubD i d=d:=by simp [scrubD,h]
theorem ok_alloc (hT:TabOk P T) (e:TypeId) (d:Nat) (q:D→St→Heap→Prop) (ho:o.op=.alloc e) (hd:o.dst=some d) (hn:0<(T.get e).lf.length) (hrel:Rel (lfs T) st H a S) (hinv:Inv S0 S)
  (h:q (.ptr (.loc d) 0) (newLoc d (.cells ((T.get e).lf.map zeroD)) st) H):OpOk P T S0 o a S q:=by
 intro next Q hnext
 obtain ⟨hok,ht⟩:=hT.get hn
 obtain ⟨z,hz,hzs,hzr⟩:=hok.zero
 have hz':=hz S.w
 rw [ht] at hz'
 obtain ⟨S',hw,h1,h2,h3⟩:=Rel.newCells hrel hinv d e ((T.get e).lf.map zeroD) z.cells (by simpa using hzs) (fun j hj=>by
  have hj':j<(T.get e).lf.length:=by simpa using hj
  have:=hzr (lfs T) S j hj'
  rw [show ((T.get e).lf.map zeroD).getD j .undef=zeroD ((T.get e).lf.getD j .oth) from by
   simp [List.getD_eq_getElem?_getD,List.getElem?_map,List.getElem?_eq_getElem hj']]
  exact this)
 rw [show ((T.get e).lf.map zeroD).map (scrubD d)=(T.get e).lf.map zeroD from by simp [List.map_map,Function.comp_def,zeroD_scrub]] at h1
 unfold Oper.wp
 have hrun:(execOp a.eval o).run P S.w=.ok (.value (.pointer (some ⟨S.w.heap.size,0,none⟩))) (S.w.alloc (.cells z.cells e)):=by
  simp only [execOp,ho,Instr.alloc,Sem.run_bind,hz',Result.andThen_ok]
  rfl
 rw [hrun,← hw]
 exact hnext _ _ _ H S' h h1 h2 h3
theorem ok_box (hT:TabOk P T) (e:TypeId) (x:Operand) (d:Nat) (q:D→St→Heap→Prop) (ho:o.op=.box e x) (hrel:Rel (lfs T) st H a S) (hinv:Inv S0 S)
  (hx1:(st.eval x).cells.all D.isCell=true)
  (h:q (.ptr (.loc d) 0) (newLoc d (.cells ((st.eval x).cells.map (scrubD d))) st) H):OpOk P T S0 o a S q:=by
 intro next Q hnext
 obtain ⟨h1,h2⟩:=(hrel.eval x).cells hx1
 obtain ⟨S',hw,h3,h4,h5⟩:=Rel.newCells hrel hinv d e (st.eval x).cells (a.eval x).cells h1 h2
 unfold Oper.wp
 have hrun:(execOp a.eval o).run P S.w=.ok (.value (.pointer (some ⟨S.w.heap.size,0,none⟩))) (S.w.alloc (.cells (a.eval x).cells e)):=by
  simp only [execOp,ho,Instr.box]
  rfl
 rw [hrun,← hw]
 exact hnext _ _ _ H S' h h3 h4 h5
mutual
theorem anyR_false:∀ (d:D),D.anyR (fun _=>false) d=false
 | .v _ _=>rfl | .nil=>rfl | .ptr _ _=>rfl | .elt _ _ _=>rfl | .relt _ _ _ _ _=>rfl | .osl _ _=>rfl | .mp _=>rfl | .ln _=>rfl | .skip=>rfl | .undef=>rfl
 | .agg cs=>anyL_false cs
 | .tup cs=>anyL_false cs
 | .fn _ cs=>anyL_false cs
theorem anyL_false:∀ (l:List D),D.anyL (fun _=>false) l=false
 | []=>rfl
 | d::r=>by simp only [D.anyL,anyR_false d,anyL_false r]
end
def Sig.upd (S:Sig) (r:Ref) (ob:Obj) (bc:Option (Nat×Nat)) (w':World):Sig :=
 match r with
 | .loc i=>{ S with w:=w',L:=S.L.set i ob,la:=S.la.set i bc }
 | .own i=>{ S with w:=w',H:=S.H.set i ob,mu:=S.mu.set i bc }
theorem Sig.upd_len (S:Sig) (r:Ref) (ob:Obj) (bc:Option (Nat×Nat)) (w':World):(S.upd r ob bc w').H.length=S.H.length:=by cases r <;> simp [Sig.upd]
def Sig.has (S:Sig):Ref→Prop
 | .loc i=>i<S.L.length
 | .own i=>i<S.H.length
theorem Sig.upd_w (S:Sig) (r:Ref) (ob:Obj) (bc:Option (Nat×Nat)) (w':World):(S.upd r ob bc w').w=w':=by cases r <;> rfl
theorem Sig.upd_F (S:Sig) (r:Ref) (ob:Obj) (bc:Option (Nat×Nat)) (w':World):(S.upd r ob bc w').F=S.F:=by cases r <;> rfl
theorem Sig.upd_at (hwf:Wf (lfs T) S) {r:Ref} (hh:S.has r) (ob:Obj) (bc:Option (Nat×Nat)) (w':World):(S.upd r ob bc w').obj r=ob∧(S.upd r ob bc w').blk r=bc:=by
 cases r with
 | loc i=>exact ⟨by simp [Sig.upd,Sig.obj,set_getD_gen,show i<S.L.length from hh],by simp [Sig.upd,Sig.blk,set_getD_gen,hwf.lalen,show i<S.L.length from hh]⟩
 | own i=>exact ⟨by simp [Sig.upd,Sig.obj,set_getD_gen,show i<S.H.length from hh],by simp [Sig.upd,Sig.blk,set_getD_gen,hwf.mulen,show i<S.H.length from hh]⟩
theorem Sig.upd_ne (S:Sig) {r r':Ref} (h:r'≠r) (ob:Obj) (bc:Option (Nat×Nat)) (w':World):(S.upd r ob bc w').obj r'=S.obj r'∧(S.upd r ob bc w').blk r'=S.blk r':=by
 cases r with
 | loc i =>
  cases r' with
  | loc j =>
   have hj:¬ (j=i∧i<S.L.length):=fun h2=>h (by rw [h2.1])
   have hj':¬ (j=i∧i<S.la.length):=fun h2=>h (by rw [h2.1])
   exact ⟨by show (S.L.set i ob).getD j .dead=S.L.getD j .dead; rw [set_getD_gen,if_neg hj],by show (S.la.set i bc).getD j none=S.la.getD j none; rw [set_getD_gen,if_neg hj']⟩
  | own j=>exact ⟨rfl,rfl⟩
 | own i =>
  cases r' with
  | own j =>
   have hj:¬ (j=i∧i<S.H.length):=fun h2=>h (by rw [h2.1])
   have hj':¬ (j=i∧i<S.mu.length):=fun h2=>h (by rw [h2.1])
   exact ⟨by show (S.H.set i ob).getD j .dead=S.H.getD j .dead; rw [set_getD_gen,if_neg hj],by show (S.mu.set i bc).getD j none=S.mu.getD j none; rw [set_getD_gen,if_neg hj']⟩
  | loc j=>exact ⟨rfl,rfl⟩
def stSet (st:St) (r:Ref) (ob:Obj):St:=match r with | .loc i=>⟨st.tmps,st.loc.set i ob⟩ | .own _=>st
def hSet (H:Heap) (r:Ref) (ob:Obj):Heap:=match r with | .loc _=>H | .own i=>H.set i ob
theorem Rel.upd (hrel:Rel (lfs T) st H a S) (hinv:Inv S0 S) (r:Ref) (ob:Obj) (bc:Option (Nat×Nat)) (w':World) (hh:S.has r)
  (hsz:S.w.heap.size≤w'.heap.size) (hw:∀ b,b<S.w.heap.size→(∀ x,S.blk r=some x→x.1≠b)→w'.heap[b]?=S.w.heap[b]?) (hos:w'.os=S.w.os) (htape:w'.tape=S.w.tape) (hout:w'.output=S.w.output)
  (hbc:∀ x,bc=some x→((∃ y,S.blk r=some y∧x.1=y.1)∨S.w.heap.size≤x.1)∧x.1<w'.heap.size)
  (hkeep:Keep S (S.upd r ob bc w') r)
  (hown:∀ i,r=.own i→ob.free)
  (hob:(∀ {d:D} {u:Value},RepD (lfs T) S d u→RepD (lfs T) (S.upd r ob bc w') d u)→(∀ {k:K} {x:V} {u:Value},RepK (lfs T) S.w S.F k x u→RepK (lfs T) w' S.F k x u)→ObjRep (lfs T) (S.upd r ob bc w') ob bc) :
  Rel (lfs T) (stSet st r ob) (hSet H r ob) a (S.upd r ob bc w')∧Inv S0 (S.upd r ob bc w')∧(∀ {d:D} {u:Value},RepD (lfs T) S d u→RepD (lfs T) (S.upd r ob bc w') d u):=by
 have hwf:=hrel.wf
 have hFw:∀ b,S.F b→w'.heap[b]?=S.w.heap[b]?:=fun b hb=>hw b (hwf.frozen b hb).1 fun x hx=>(hwf.frozen b hb).2 r x hx
 have keep:∀ r',Keep S (S.upd r ob bc w') r':=fun r'=>by
  by_cases h:r'=r
  ·rw [h]; exact hkeep
  ·obtain ⟨h1,h2⟩:=S.upd_ne h ob bc w'
   exact .refl h1 h2
 have mD:∀ {d:D} {u:Value},RepD (lfs T) S d u→RepD (lfs T) (S.upd r ob bc w') d u:=fun {d u} h =>
  RepD.mono (S:=S) (S':=S.upd r ob bc w') (Nat.le_of_eq (Sig.upd_len S r ob bc w').symm) (fun b hb=>by rw [Sig.upd_F]; exact hb) (fun b hb=>by rw [Sig.upd_w]; exact hFw b hb) (p:=fun _=>false) (fun r' _ _=>keep r') (anyR_false d) h
 have mK:∀ {k:K} {x:V} {u:Value},RepK (lfs T) S.w S.F k x u→RepK (lfs T) w' S.F k x u:=fun h=>RepK.mono (w:=S.w) (w':=w') (F:=S.F) (F':=S.F) (fun _ h=>h) hFw h
 have hsub:∀ r' x,(S.upd r ob bc w').blk r'=some x→(r'=r∧bc=some x)∨(r'≠r∧S.blk r'=some x):=fun r' x hx=>by
  by_cases h:r'=r
  ·subst h
   exact .inl ⟨rfl,(S.upd_at hwf hh ob bc w').2▸hx⟩
  ·exact .inr ⟨h,(S.upd_ne h ob bc w').2▸hx⟩
 refine ⟨⟨?_,?_,?_,by rw [hrel.defers]; cases r <;> rfl,fun j=>?_,?_⟩,?_,mD⟩
 ·cases r with
  | loc i=>exact hrel.H
  | own i=>show S.H.set i ob=H.set i ob; rw [hrel.H]
 ·cases r with
  | loc i=>show S.L.set i ob=st.loc.set i ob; rw [hrel.L]
  | own i=>exact hrel.L
 ·cases r <;> exact hrel.size
 ·have:(stSet st r ob).tmps=st.tmps:=by cases r <;> rfl
  rw [this]
  exact mD (hrel.rep j)
 ·refine ⟨fun b hb=>?_,fun r1 r2 x1 x2 h1 h2 he=>?_,fun r1 x hx=>?_,fun r1=>?_,fun i=>?_,?_,?_,?_⟩
  ·rw [Sig.upd_F] at hb
   rw [Sig.upd_w]
   have hlt:=(hwf.frozen b hb).1
   refine ⟨Nat.lt_of_lt_of_le hlt hsz,fun r1 x hx=>?_⟩
   rcases hsub r1 x hx with ⟨_,h⟩ | ⟨_,h⟩
   ·rcases (hbc x h).1 with ⟨y,hy,hxy⟩ | h3
    ·rw [hxy]; exact (hwf.frozen b hb).2 r y hy
    ·omega
   ·exact (hwf.frozen b hb).2 r1 x h
  ·rcases hsub r1 x1 h1 with ⟨e1,h1'⟩ | ⟨e1,h1'⟩ <;> rcases hsub r2 x2 h2 with ⟨e2,h2'⟩ | ⟨e2,h2'⟩
   ·rw [e1,e2]
   ·rcases (hbc x1 h1').1 with ⟨y,hy,hxy⟩ | h3
    ·exact absurd (hwf.inj r2 r x2 y h2' hy (by omega)) e2
    ·have:=hwf.lt r2 x2 h2'; omega
   ·rcases (hbc x2 h2').1 with ⟨y,hy,hxy⟩ | h3
    ·exact absurd (hwf.inj r1 r x1 y h1' hy (by omega)) e1
    ·have:=hwf.lt r1 x1 h1'; omega
   ·exact hwf.inj r1 r2 x1 x2 h1' h2' he
  ·rw [Sig.upd_w]
   rcases hsub r1 x hx with ⟨_,h⟩ | ⟨_,h⟩
   ·exact (hbc x h).2
   ·exact Nat.lt_of_lt_of_le (hwf.lt r1 x h) hsz
  ·by_cases h:r1=r
   ·subst h
    obtain ⟨h1,h2⟩:=S.upd_at hwf hh ob bc w'
    rw [h1,h2]
    exact hob mD mK
   ·obtain ⟨h1,h2⟩:=S.upd_ne h ob bc w'
    rw [h1,h2]
    have hne:∀ y,S.blk r1=some y→w'.heap[y.1]?=S.w.heap[y.1]?:=fun y hy=>hw y.1 (hwf.lt r1 y hy) fun x hx he=>h (hwf.inj r1 r y x hy hx he.symm)
    have:=hwf.obj r1
    cases hr:S.obj r1 with
    | cells cs =>
     rw [hr] at this
     obtain ⟨b,c,e,arr,h3,h4,h5,h6⟩:=this
     exact ⟨b,c,e,arr,h3,by rw [Sig.upd_w,← h4]; exact hne _ h3,h5,fun j hj=>⟨mD (h6 j hj).1,(h6 j hj).2⟩⟩
    | row e xs =>
     rw [hr] at this
     rcases this with h3 | ⟨b,c,arr,h3,h4,h5,h6,h7,h9,h8⟩
     ·exact .inl h3
     ·exact .inr ⟨b,c,arr,h3,by rw [Sig.upd_w,← h4]; exact hne _ h3,h5,h6,h7,h9,fun x y hx hy=>by rw [Sig.upd_w,Sig.upd_F]; exact mK (h8 x y hx hy)⟩
    | map m xs =>
     rw [hr] at this
     obtain ⟨b,c,clock,ents,us,h3,h4,h5,h6,h7,h8⟩:=this
     exact ⟨b,c,clock,ents,us,h3,by rw [Sig.upd_w,← h4]; exact hne _ h3,h5,h6,h7,fun x y hx hy=>by rw [Sig.upd_w,Sig.upd_F]; exact mK (h8 x y hx hy)⟩
    | iter m x n s =>
     rw [hr] at this
     obtain ⟨b,c,mb,h3,h4,h5,h6⟩:=this
     exact ⟨b,c,mb,h3,by rw [Sig.upd_w,← h4]; exact hne _ h3,mD h5,h6⟩
    | dead=>rw [hr] at this; exact this
  ·cases r with
   | loc k=>exact hwf.own i
   | own k =>
    show ((S.H.set k ob).getD i .dead).free
    rw [set_getD_gen]
    split
    ·exact hown k rfl
    ·exact hwf.own i
  ·cases r with
   | loc k=>exact hwf.mulen
   | own k=>show (S.mu.set k bc).length=(S.H.set k ob).length; simp [hwf.mulen]
  ·cases r with
   | loc k=>show (S.la.set k bc).length=(S.L.set k ob).length; simp [hwf.lalen]
   | own k=>exact hwf.lalen
  ·refine ⟨by have:=hwf.mark.1; cases r <;> exact this,fun d hd=>?_⟩
   have hd:d∈S.mks:=by cases r <;> exact hd
   obtain ⟨h1,h2,h3⟩:=hwf.mark.2 d hd
   have hlt:d<S.w.heap.size:=(Array.getElem?_eq_some_iff.1 h1).1
   rw [Sig.upd_w,Sig.upd_F]
   refine ⟨(hw d hlt fun x hx=>h2 r x hx).trans h1,fun r' x hx=>?_,h3⟩
   rcases hsub r' x hx with ⟨_,h⟩ | ⟨_,h⟩
   ·rcases (hbc x h).1 with ⟨y,hy,hxy⟩ | h4
    ·rw [hxy]; exact h2 r y hy
    ·omega
   ·exact h2 r' x h
 ·have he:=hinv.ext
  have hH:(S.upd r ob bc w').H.length=S.H.length:=by cases r <;> simp [Sig.upd]
  refine ⟨⟨?_,?_,?_,?_,fun b hb hn=>?_,fun b hb=>?_,fun b hb hF=>?_,?_,fun k hk=>(he.keep k hk).trans (keep _),fun k x hx=>?_⟩,fun k x hx=>?_,fun d hd=>hinv.mkd d (by cases r <;> exact hd)⟩
  ·rw [Sig.upd_w]; exact Nat.le_trans he.size hsz
  ·rw [Sig.upd_w]; exact hos.trans he.os
  ·rw [Sig.upd_w]; exact htape.trans he.tape
  ·rw [Sig.upd_w]; exact hout.trans he.output
  ·obtain ⟨h1,h2⟩:=he.block b hb hn
   rw [Sig.upd_w]
   refine ⟨(hw b (Nat.lt_of_lt_of_le hb he.size) fun x hx=>?_).trans h1,fun k x hx=>?_⟩
   ·cases r with
    | loc k=>have:=hinv.loc k x hx; omega
    | own k=>exact h2 k x hx
   ·rcases hsub (.own k) x hx with ⟨e1,h⟩ | ⟨_,h⟩
    ·rcases (hbc x h).1 with ⟨y,hy,hxy⟩ | h3
     ·rw [hxy]; rw [← e1] at hy; exact h2 k y hy
     ·have:=he.size; omega
    ·exact h2 k x h
  ·rw [Sig.upd_F]; exact he.F b hb
  ·rw [Sig.upd_F] at hF; exact he.Fnew b hb hF
  ·rw [hH]; exact he.len
  ·rcases hsub (.own k) x hx with ⟨e1,h⟩ | ⟨_,h⟩
   ·rcases (hbc x h).1 with ⟨y,hy,hxy⟩ | h3
    ·rw [← e1] at hy
     rcases he.fresh k y hy with ⟨z,h4,e2⟩ | h4
     ·exact .inl ⟨z,h4,hxy.trans e2⟩
     ·right; rw [hxy]; exact h4
    ·exact .inr (Nat.le_trans he.size h3)
   ·exact he.fresh k x h
  ·rcases hsub (.loc k) x hx with ⟨e1,h⟩ | ⟨_,h⟩
   ·rcases (hbc x h).1 with ⟨y,hy,hxy⟩ | h3
    ·rw [hxy]; rw [← e1] at hy; exact hinv.loc k y hy
    ·exact Nat.le_trans he.size h3
   ·exact hinv.loc k x h
theorem setCells_length:∀ (cs:List D) (off:Nat) (xs:List D),(setCells cs off xs).length=cs.length
 | cs,_,[]=>rfl
 | cs,off,x::r=>by simp only [setCells]; rw [setCells_length]; simp
theorem setCells_getD:∀ (xs cs:List D) (off j:Nat),off+xs.length≤cs.length→(setCells cs off xs).getD j .undef=if off≤j∧j<off+xs.length then xs.getD (j - off) .undef else cs.getD j .undef
 | [],cs,off,j,_=>by
  rw [if_neg (by rw [List.length_nil]; omega)]; simp [setCells]
 | x::r,cs,off,j,h=>by
  simp only [setCells]
  rw [setCells_getD r (cs.set off x) (off+1) j (by simp at h ⊢; omega),set_getD_gen]
  by_cases h1:j=off
  ·subst h1
   rw [if_neg (by omega),if_pos ⟨rfl,by simp at h; omega⟩,if_pos (by simp)]
   simp
  ·by_cases h2:off+1≤j∧j<off+1+r.length
   ·rw [if_pos h2,if_pos (by simp; omega)]
    rw [show j - off=(j - (off+1))+1 from by omega]
    rfl
   ·rw [if_neg h2,if_neg (fun h3=>h1 h3.1),if_neg (by simp; omega)]
theorem setRow_other (w:World) (g:Nat) (arr:Array Value) (b:Nat) (h:b≠g):(w.setRow g arr).heap[b]?=w.heap[b]?:=by
 simp only [World.setRow,Array.getElem?_modify]
 rw [if_neg (fun e=>h e.symm)]
theorem setRow_size (w:World) (g:Nat) (arr:Array Value):(w.setRow g arr).heap.size=w.heap.size:=by simp [World.setRow]
def putCells (cur:Array Value) (off:Nat) (vs:List Value):Array Value:=(cur.toList.take off++vs++cur.toList.drop (off+vs.length)).toArray
theorem putCells_size (cur:Array Value) (off:Nat) (vs:List Value) (h:off+vs.length≤cur.size):(putCells cur off vs).size=cur.size:=by
 simp [putCells]; omega
theorem putCells_getD (cur:Array Value) (off:Nat) (vs:List Value) (h:off+vs.length≤cur.size) (j:Nat) :
  (putCells cur off vs).getD j undef=if off≤j∧j<off+vs.length then vs.getD (j - off) undef else cur.getD j undef:=by
 have hl:(cur.toList.take off).length=off:=by simp; omega
 simp only [putCells,Array.getD_eq_getD_getElem?,List.getElem?_toArray,List.getD_eq_getElem?_getD,List.append_assoc]
 by_cases h1:j<off
 ·rw [List.getElem?_append_left (by omega),if_neg (by omega),List.getElem?_take,if_pos h1]
  simp
 ·rw [List.getElem?_append_right (by omega),hl]
  by_cases h2:j<off+vs.length
  ·rw [List.getElem?_append_left (by omega),if_pos ⟨by omega,h2⟩]
  ·rw [List.getElem?_append_right (by omega),if_neg (by omega),List.getElem?_drop]
   rw [show off+vs.length+(j - off - vs.length)=j from by omega]
   simp
theorem run_storeBlock (hT:TabOk P T) {t:TypeId} {b off c':Nat} {e:TypeId} {cur:Array Value} {v:Value} (hn:0<(T.get t).lf.length) (hh:S.w.heap[b]?=some (.cells cur e (0,0)))
  (hl:v.cells.size=(T.get t).lf.length) (hle:off+(T.get t).lf.length≤cur.size) (h1:∀ j,j<(T.get t).lf.length→(v.cells.getD j undef).oneCell'=true) :
  (Instr.storeAt t (.pointer (some ⟨b,off,none⟩)) v).run P S.w=.ok () (S.w.setRow b (putCells cur off v.cells.toList)):=by
 obtain ⟨hok,ht⟩:=hT.get hn
 have hs:=hok.size S.w
 rw [ht] at hs
 have hst:=run_storeCells_at (P:=P) b off e v.cells.toList 0 cur S.w hh (by simp; omega) (fun u hu=>by
  obtain ⟨j,hj,rfl⟩:=List.getElem_of_mem hu
  have hj':j<v.cells.size:=by simpa using hj
  have:=h1 j (by omega)
  rw [Array.getD_eq_getD_getElem?,Array.getElem?_eq_getElem hj'] at this
  simpa using this)
 rw [Nat.add_zero] at hst
 simp only [Instr.storeAt,Instr.sureAddr,storeVar,Sem.run_bind,hs,Result.andThen_ok,hl]
 simp [Sem.run,pure,hs,hl]
 exact hst
theorem ok_store_cells (hT:TabOk P T) (hrel:Rel (lfs T) st H a S) (hinv:Inv S0 S) (t:TypeId) (r:Ref) (off:Nat) (cs:List D) (x:D) (u v:Value) (hn:0<(T.get t).lf.length)
  (hl:x.cells.length=(T.get t).lf.length) (hc:x.cells.all D.isCell=true) (hob:S.obj r=.cells cs) (hle:off+(T.get t).lf.length≤cs.length)
  (hu:RepD (lfs T) S (.ptr r off) u) (hv:RepD (lfs T) S x v) (hown:∀ i,r=.own i→D.localL (setCells cs off x.cells)=false) :
  ∃ S',(Instr.storeAt t u v).run P S.w=.ok () S'.w∧Rel (lfs T) (stSet st r (.cells (setCells cs off x.cells))) (hSet H r (.cells (setCells cs off x.cells))) a S'∧Inv S0 S':=by
 obtain ⟨b,c,e,arr,hb,hh,hsz,hrep⟩:=hrel.wf.cells hob
 obtain ⟨hv1,hv2⟩:=hv.cells hc
 have hu':=hu.ptr_inv hob hb
 subst hu'
 have hrun:=run_storeBlock (S:=S) (c':=0) hT (t:=t) (b:=b) (off:=off) (cur:=arr) (v:=v) hn hh (by omega) (by omega) (fun j hj=>(hv2 j (by omega)).2)
 have hhas:S.has r:=by
  cases r with
  | loc i =>
   show i<S.L.length
   by_cases hi:i<S.L.length
   ·exact hi
   ·have:S.obj (.loc i)=.dead:=by simp [Sig.obj,List.getD_eq_getElem?_getD,List.getElem?_eq_none (by omega:S.L.length≤i)]
    rw [this] at hob; cases hob
  | own i =>
   show i<S.H.length
   by_cases hi:i<S.H.length
   ·exact hi
   ·have:S.obj (.own i)=.dead:=by simp [Sig.obj,List.getD_eq_getElem?_getD,List.getElem?_eq_none (by omega:S.H.length≤i)]
    rw [this] at hob; cases hob
 have hvl:v.cells.toList.length=x.cells.length:=by simpa using hv1
 obtain ⟨g1,g2,_⟩:=Rel.upd hrel hinv r (.cells (setCells cs off x.cells)) (some (b,c)) (S.w.setRow b (putCells arr off v.cells.toList)) hhas (by rw [setRow_size]; exact Nat.le_refl _)
  (fun b' _ hne=>setRow_other _ _ _ _ (fun he=>hne _ hb he.symm)) rfl rfl rfl
  (fun y hy=>by cases hy; exact ⟨.inl ⟨_,hb,rfl⟩,by rw [setRow_size]; exact hrel.wf.lt r _ hb⟩)
  (by
   obtain ⟨h1,h2⟩:=S.upd_at hrel.wf hhas (.cells (setCells cs off x.cells)) (some (b,c)) (S.w.setRow b (putCells arr off v.cells.toList))
   exact ⟨fun bc h3 h4=>⟨by rw [hob]; rfl,by rw [h2] at h4; rw [hb]; exact h4⟩,fun e' xs h3=>(by rw [h1] at h3; cases h3),fun e' xs h3=>(by rw [h1] at h3; cases h3)⟩)
  (fun i hi=>hown i hi)
  (fun mD mK=>⟨b,c,e,putCells arr off v.cells.toList,rfl,by rw [Sig.upd_w]; exact Go.setRow_heap _ _ _ _ _ _ hh,by rw [putCells_size _ _ _ (by omega),setCells_length]; exact hsz,fun j hj=>by
   rw [setCells_length] at hj
   rw [setCells_getD _ _ _ _ (by omega),putCells_getD _ _ _ (by omega),hvl]
   by_cases hj2:off≤j∧j<off+x.cells.length
   ·rw [if_pos hj2,if_pos hj2]
    obtain ⟨h1,h2⟩:=hv2 (j - off) (by omega)
    have e2:v.cells.toList.getD (j - off) undef=v.cells.getD (j - off) undef:=by simp [List.getD_eq_getElem?_getD,Array.getD_eq_getD_getElem?]
    rw [e2]
    exact ⟨mD h1,h2⟩
   ·rw [if_neg hj2,if_neg hj2]
    exact ⟨mD (hrep j hj).1,(hrep j hj).2⟩⟩)
 exact ⟨_,by rw [Sig.upd_w]; exact hrun,g1,g2⟩
theorem skip_ok {o:Oper} {a:Act} {S:Sig} {S0:Sig} {q:D→St→Heap→Prop} {st':St} {H':Heap} {S':Sig} (hr:(execOp a.eval o).run P S.w=.ok .skip S'.w)
  (hrel:Rel (lfs T) st' H' a S') (hinv:Inv S0 S') (hq:q .skip st' H'):OpOk P T S0 o a S q:=by
 intro next Q hn
 unfold Oper.wp
 rw [hr]
 exact hn .skip undef st' H' S' hq hrel hinv .skip
theorem setV_length:∀ (cs:List V) (off:Nat) (xs:List V),(setV cs off xs).length=cs.length
 | cs,_,[]=>rfl
 | cs,off,x::r=>by simp only [setV]; rw [setV_length]; simp
theorem setV_getD:∀ (xs cs:List V) (off j:Nat),off+xs.length≤cs.length→(setV cs off xs).getD j V.none=if off≤j∧j<off+xs.length then xs.getD (j - off) V.none else cs.getD j V.none
 | [],cs,off,j,_=>by
  rw [if_neg (by rw [List.length_nil]; omega)]; simp [setV]
 | x::r,cs,off,j,h=>by
  simp only [setV]
  rw [setV_getD r (cs.set off x) (off+1) j (by simp at h ⊢; omega),set_getD_gen]
  by_cases h1:j=off
  ·subst h1
   rw [if_neg (by omega),if_pos ⟨rfl,by simp at h; omega⟩,if_pos (by simp)]
   simp
  ·by_cases h2:off+1≤j∧j<off+1+r.length
   ·rw [if_pos h2,if_pos (by simp; omega)]
    rw [show j - off=(j - (off+1))+1 from by omega]
    rfl
   ·rw [if_neg h2,if_neg (fun h3=>h1 h3.1),if_neg (by simp; omega)]
theorem Sig.has_of {S:Sig} {r:Ref} (h:S.obj r≠.dead):S.has r:=by
 cases r with
 | loc i =>
  show i<S.L.length
  by_cases hi:i<S.L.length
  ·exact hi
  ·exact absurd (by simp [Sig.obj,List.getD_eq_getElem?_getD,List.getElem?_eq_none (by omega:S.L.length≤i)]) h
 | own i =>
  show i<S.H.length
  by_cases hi:i<S.H.length
  ·exact hi
  ·exact absurd (by simp [Sig.obj,List.getD_eq_getElem?_getD,List.getElem?_eq_none (by omega:S.H.length≤i)]) h
theorem own_free {r:Ref} (l:List D) (h:D.localL l=false):∀ (off:Nat) (cs:List D),D.localL cs=false→D.localL (setCells cs off l)=false:=by
 induction l with
 | nil=>exact fun off cs h=>h
 | cons d r ih =>
  intro off cs hcs
  simp only [setCells]
  have hd:D.anyR Ref.isLoc d=false∧D.localL r=false:=by
   simp only [D.localL,D.anyL] at h
   cases hd:D.anyR Ref.isLoc d with
   | true=>rw [hd] at h; cases h
   | false=>rw [hd] at h; exact ⟨rfl,h⟩
  refine ih hd.2 _ _ ?_
  clear ih h
  induction cs generalizing off with
  | nil=>exact hcs
  | cons c cs ih =>
   simp only [D.localL,D.anyL] at hcs ⊢
   cases hc:D.anyR Ref.isLoc c with
   | true=>rw [hc] at hcs; cases hcs
   | false =>
    rw [hc] at hcs
    cases off with
    | zero=>simp only [List.set_cons_zero,D.anyL,hd.1]; exact hcs
    | succ off=>simp only [List.set_cons_succ,D.anyL,hc]; exact ih off hcs
theorem ok_store (hT:TabOk P T) (t:TypeId) (x y:Operand) (q:D→St→Heap→Prop) (ho:o.op=.store t x y) (hrel:Rel (lfs T) st H a S) (hinv:Inv S0 S)
  (h:evStore T t st H (st.eval x) (st.evalT T t y) fun st H=>q .skip st H):OpOk P T S0 o a S q:=by
 have hx:=hrel.eval x
 have hy:=hrel.evalT t y
 have fin:∀ {st':St} {H':Heap} {S':Sig},(Instr.storeAt t (a.eval x) (a.eval y)).run P S.w=.ok () S'.w→Rel (lfs T) st' H' a S'→Inv S0 S'→q .skip st' H'→OpOk P T S0 o a S q:=by
  intro st' H' S' hr h1 h2 hq
  refine skip_ok (S':=S') ?_ h1 h2 hq
  simp only [execOp,ho,Sem.run_bind,hr,Result.andThen_ok]
  rfl
 unfold evStore at h
 simp only at h
 split at h
 ·exact h.elim
 ·rename_i hc0
  obtain ⟨⟨hl,hn⟩,hc⟩:((st.evalT T t y).cells.length=(T.get t).lf.length∧0<(T.get t).lf.length)∧(st.evalT T t y).cells.all D.isCell=true:=by simpa using hc0
  split at h
  ·rename_i r off h1
   rw [h1] at hx
   split at h
   ·rename_i cs h2
    split at h
    ·rename_i hle0
     obtain ⟨hle,htk⟩:off+(T.get t).lf.length≤cs.length∧r.takes (st.evalT T t y).cells=true:=by rw [Bool.and_eq_true] at hle0; exact ⟨by simpa using hle0.1,hle0.2⟩
     have hob:S.obj r=.cells cs:=by rw [hrel.getO_obj]; exact h2
     obtain ⟨S',g1,g2,g3⟩:=ok_store_cells (P:=P) hT hrel hinv t r off cs (st.evalT T t y) _ _ hn hl hc hob hle hx hy (fun i hi=>by
      subst hi
      have hfr:=hrel.wf.own i
      have hob':S.H.getD i .dead=.cells cs:=hob
      rw [hob'] at hfr
      exact own_free (r:=.own i) _ (by simpa [Ref.takes] using htk) off _ hfr)
     refine fin g1 g2 g3 ?_
     cases r <;> exact h
    ·exact h.elim
   ·exact h.elim
  ·rename_i r e n' i off h1
   rw [h1] at hx
   split at h
   ·rename_i ys hcl hle0
    have hle:off+(T.get t).lf.length≤(T.get e).lf.length:=by simpa using hle0
    obtain ⟨xs,h2,h3,h4,h5⟩:=withRow_spec h
    have ho':S.obj r=.row e xs:=by rw [hrel.getO_obj]; exact h2
    obtain ⟨k1,k2,k3⟩:=closed_spec _ _ _ hcl
    rw [plainL_length] at k2
    rcases hrel.wf.row ho' with ⟨_,h0⟩ | ⟨b,c,arr,hb,hh,hsz,hxc,hcm,hlen,hrep⟩
    ·rw [h0] at h3; simp at h3; omega
    ·obtain ⟨hv1,hv2⟩:=hy.cells hc
     have hu':a.eval x=.pointer (some ⟨b,i*(T.get e).lf.length+off,none⟩):=by
      generalize a.eval x=u at hx
      cases hx with
      | relt _ _ _ _ _ _ _ hu=>exact (hu e _ ho').2 h3.symm _ hb
     have hmul:i*(T.get e).lf.length+(T.get e).lf.length≤arr.size:=by
      have h7:=Nat.mul_le_mul_right (T.get e).lf.length (show i+1≤c by omega)
      rw [Nat.add_mul,Nat.one_mul] at h7
      rw [hsz]; exact h7
     have hrun:=run_storeBlock (S:=S) (c':=0) hT (t:=t) (b:=b) (off:=i*(T.get e).lf.length+off) (cur:=arr) (v:=a.eval y) hn hh (by omega) (by omega) (fun j hj=>(hv2 j (by omega)).2)
     have hhas:S.has r:=Sig.has_of (by rw [ho']; intro h; cases h)
     have hvl:(a.eval y).cells.toList.length=(T.get t).lf.length:=by simp; omega
     obtain ⟨g1,g2,_⟩:=Rel.upd hrel hinv r (.row e (xs.set i (setV (xs.getD i []) off ys))) (some (b,c)) (S.w.setRow b (putCells arr (i*(T.get e).lf.length+off) (a.eval y).cells.toList)) hhas (by rw [setRow_size]; exact Nat.le_refl _)
      (fun b' _ hne=>setRow_other _ _ _ _ (fun he=>hne _ hb he.symm)) rfl rfl rfl
      (fun y hy=>by cases hy; exact ⟨.inl ⟨_,hb,rfl⟩,by rw [setRow_size]; exact hrel.wf.lt r _ hb⟩)
      (by
       obtain ⟨j1,j2⟩:=S.upd_at hrel.wf hhas (.row e (xs.set i (setV (xs.getD i []) off ys))) (some (b,c)) (S.w.setRow b (putCells arr (i*(T.get e).lf.length+off) (a.eval y).cells.toList))
       refine ⟨fun bc j3 j4=>?_,fun e' xs' j3=>?_,fun e' xs' j3=>(by rw [j1] at j3; cases j3)⟩
       ·rw [j1] at j3; cases j3
       ·rw [j1] at j3; cases j3
        exact ⟨xs,ho',by simp,fun _=>by rw [j2,hb]⟩)
      (fun i hi=>trivial)
      (fun mD mK=>.inr ⟨b,c,putCells arr (i*(T.get e).lf.length+off) (a.eval y).cells.toList,rfl,by rw [Sig.upd_w]; exact Go.setRow_heap _ _ _ _ _ _ hh,by rw [putCells_size _ _ _ (by omega)]; exact hsz,by simpa using hxc,hcm,fun i' hi'=>by
       rw [set_getD_gen]
       split
       ·rw [setV_length]; exact hlen i (by omega)
       ·exact hlen i' (by simpa using hi'),fun i' j hi' hj=>by
       rw [Sig.upd_w,Sig.upd_F]
       have hi'':i' < xs.length:=by simpa using hi'
       have hj2:j<(T.get e).lf.length:=hj
       have hold:=hrep i' j hi'' hj
       rw [putCells_getD _ _ _ (by omega),hvl,set_getD_gen]
       by_cases hii:i'=i
       ·subst hii
        have hli:=hlen i' hi''
        simp only [lfs] at hli
        rw [if_pos ⟨rfl,hi''⟩,setV_getD _ _ _ _ (by rw [k1,List.length_take,List.length_drop]; omega),k1,List.length_take,List.length_drop]
        have hmin:min (T.get t).lf.length ((T.get e).lf.length - off)=(T.get t).lf.length:=by omega
        rw [hmin]
        by_cases hj3:off≤j∧j<off+(T.get t).lf.length
        ·rw [if_pos hj3,if_pos (by simp only [lfs]; omega)]
         have e3:i' * (lfs T e).length+j - (i' * (T.get e).lf.length+off)=j - off:=by simp only [lfs]; omega
         rw [e3]
         have hlt3:j - off<(T.get t).lf.length:=by omega
         obtain ⟨q1,q2⟩:=hv2 (j - off) (by omega)
         have e2:(a.eval y).cells.toList.getD (j - off) undef=(a.eval y).cells.getD (j - off) undef:=by simp [List.getD_eq_getElem?_getD,Array.getD_eq_getD_getElem?]
         rw [e2]
         have q3:=k3 (j - off) (by rw [List.length_take,List.length_drop]; omega)
         have q1:=plain_rep (k:=(((T.get e).lf.drop off).take (T.get t).lf.length).getD (j - off) .oth) q1
         rw [← plainL_getD _ _ _ (by rw [List.length_take,List.length_drop]; omega) (by omega)] at q1
         rw [q3] at q1
         rw [getD_take _ _ _ _ hlt3,getD_drop,show off+(j - off)=j from by omega] at q1
         cases q1 with
         | v _ _ _ q1=>exact mK q1
        ·rw [if_neg hj3,if_neg (by simp only [lfs]; omega)]
         exact mK hold
       ·rw [if_neg (fun h=>hii h.1)]
        have hne:¬ (i*(lfs T e).length+off≤i' * (lfs T e).length+j∧i' * (lfs T e).length+j<i*(lfs T e).length+off+(T.get t).lf.length):=by
         simp only [lfs]
         rintro ⟨q1,q2⟩
         rcases Nat.lt_or_gt_of_ne hii with hlt | hgt
         ·have:=Nat.mul_le_mul_right (T.get e).lf.length (show i' + 1≤i by omega)
          rw [Nat.add_mul,Nat.one_mul] at this
          omega
         ·have:=Nat.mul_le_mul_right (T.get e).lf.length (show i+1≤i' by omega)
          rw [Nat.add_mul,Nat.one_mul] at this
          omega
        rw [if_neg hne]
        exact mK hold⟩)
     refine fin (S':=S.upd r (.row e (xs.set i (setV (xs.getD i []) off ys))) (some (b,c)) (S.w.setRow b (putCells arr (i*(T.get e).lf.length+off) (a.eval y).cells.toList))) (by rw [Sig.upd_w,hu']; exact hrun) g1 g2 ?_
     cases r <;> exact h5
   ·exact h.elim
  ·exact h.elim
end Go.Abs
