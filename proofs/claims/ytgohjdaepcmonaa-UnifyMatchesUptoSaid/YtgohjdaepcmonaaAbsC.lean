import Derived.Test.YtgohjdaepcmonaaAbsB
import Derived.Laws.IdiomCopy
import Derived.WalkKit
set_option linter.unusedVariables false
set_option linter.unusedSimpArgs false
namespace Go.Abs
structure TOk (P : Program) (lf : TypeId → List K) (x : TI) : Prop where
  lfs : lf x.t = x.lf
  size : ∀ w, (sizeOf x.t).run P w = .ok x.lf.length w
  agg : ∀ w, (isAgg x.t).run P w = .ok x.agg w
  one : x.agg = false → x.lf.length = 1
  el : ∀ e, x.el = some e → P.underlying x.t = some (.slice e)
  ar : ∀ n e, x.ar = some (n, e) → P.underlying x.t = some (.array n e)
  mp : ∀ m, x.mp = some m → P.underlying x.t = some (.map m.k m.e) ∧ (∀ w, (isAgg m.k).run P w = .ok m.ka w) ∧ (∀ w, (isAgg m.e).run P w = .ok m.ea w)
  kb : x.kd = .bool → P.underlying x.t = some .bool
  ki : ∀ k, x.kd = .int k → P.underlying x.t = some (.int k)
  ks : x.kd = .str → P.underlying x.t = some .string
  flds : x.flds ≠ [] → ∃ fs, P.underlying x.t = some (.struct fs) ∧ ∀ (i : Nat) (o : Nat) (t : TypeId), x.flds[i]? = some (o, t) → ∃ f : Field, fs[i]? = some f ∧ f.offset = o ∧ f.type = t
  fexact : x.flds ≠ [] → ∃ fs, P.underlying x.t = some (.struct fs) ∧ fs.toList.map (fun f => (f.offset, f.type)) = x.flds
  places : x.flds ≠ [] → ∃ (fs : Array Field) (ps : Array (Nat × Nat)), P.underlying x.t = some (.struct fs) ∧ (∀ w, (fs.mapM (fun f => do pure (f.offset, ← sizeOf f.type) : Field → Sem (Nat × Nat))).run P w = .ok ps w) ∧ ∀ (i : Nat) (o : Nat) (t : TypeId), x.flds[i]? = some (o, t) → ps[i]? = some (o, (lf t).length)
  info : ∃ i z, P.info? x.t = some i ∧ i.zero = some z ∧ i.size = x.lf.length ∧ z.cells.size = x.lf.length ∧ i.bytes ≤ 256
  zshape : ∀ z w, (zeroValue x.t).run P w = .ok z w → shaped x.agg z
  zero : ∃ z, (∀ w, (zeroValue x.t).run P w = .ok z w) ∧ z.cells.size = x.lf.length ∧ ∀ lf' S j, j < x.lf.length → RepD lf' S (zeroD (x.lf.getD j .oth)) (z.cells.getD j undef) ∧ (z.cells.getD j undef).oneCell' = true
structure TabOk (P : Program) (T : Tab) : Prop where
  rows : ∀ x, x ∈ T → TOk P (fun t => (T.get t).lf) x
theorem Tab.get_mem {T : Tab} {t : TypeId} : (T.get t ∈ T ∧ (T.get t).t = t) ∨ T.get t = ⟨t, false, [], [], none, .oth, none, none⟩ := by
  induction T with
  | nil => exact .inr rfl
  | cons x r ih =>
    simp only [Tab.get]
    split
    · rename_i h
      exact .inl ⟨List.mem_cons_self, by simpa using h⟩
    · rcases ih with ⟨h1, h2⟩ | h
      · exact .inl ⟨List.mem_cons_of_mem _ h1, h2⟩
      · exact .inr h
theorem TabOk.get {P : Program} {T : Tab} (h : TabOk P T) {t : TypeId} (hn : 0 < (T.get t).lf.length) : TOk P (fun t => (T.get t).lf) (T.get t) ∧ (T.get t).t = t := by
  rcases Tab.get_mem (T := T) (t := t) with ⟨h1, h2⟩ | h0
  · exact ⟨h.rows _ h1, h2⟩
  · rw [h0] at hn; simp at hn
theorem TabOk.get_el {P : Program} {T : Tab} (h : TabOk P T) {t e : TypeId} (hn : (T.get t).el = some e) : P.underlying t = some (.slice e) := by
  rcases Tab.get_mem (T := T) (t := t) with ⟨h1, h2⟩ | h0
  · have := (h.rows _ h1).el e hn
    rwa [h2] at this
  · rw [h0] at hn; simp at hn
theorem TabOk.get_ar {P : Program} {T : Tab} (h : TabOk P T) {t e : TypeId} {n : Nat} (hn : (T.get t).ar = some (n, e)) : P.underlying t = some (.array n e) := by
  rcases Tab.get_mem (T := T) (t := t) with ⟨h1, h2⟩ | h0
  · have := (h.rows _ h1).ar n e hn
    rwa [h2] at this
  · rw [h0] at hn; simp at hn
theorem TabOk.get_mp {P : Program} {T : Tab} (h : TabOk P T) {t : TypeId} {m : MT} (hn : (T.get t).mp = some m) : P.underlying t = some (.map m.k m.e) ∧ (∀ w, (isAgg m.k).run P w = .ok m.ka w) ∧ (∀ w, (isAgg m.e).run P w = .ok m.ea w) := by
  rcases Tab.get_mem (T := T) (t := t) with ⟨h1, h2⟩ | h0
  · have := (h.rows _ h1).mp m hn
    rwa [h2] at this
  · rw [h0] at hn; simp at hn
theorem withRow_spec {o : Obj} {e : TypeId} {n : Nat} {k : List (List V) → Prop} (h : withRow o e n k) : ∃ xs, o = .row e xs ∧ xs.length = n ∧ k xs := by
  unfold withRow at h
  split at h
  · rename_i e' xs
    split at h
    · rename_i he
      have he' : e = e' := Nat.eq_of_beq_eq_true he
      subst he'
      exact ⟨xs, rfl, h.1, h.2⟩
    · exact h.elim
  · exact h.elim
theorem TabOk.get_bool {P : Program} {T : Tab} (h : TabOk P T) {t : TypeId} (hn : (T.get t).kd = .bool) : P.underlying t = some .bool := by
  rcases Tab.get_mem (T := T) (t := t) with ⟨h1, h2⟩ | h0
  · have := (h.rows _ h1).kb hn
    rwa [h2] at this
  · rw [h0] at hn; simp at hn
theorem TabOk.get_int {P : Program} {T : Tab} (h : TabOk P T) {t : TypeId} {k : IntKind} (hn : (T.get t).kd = .int k) : P.underlying t = some (.int k) := by
  rcases Tab.get_mem (T := T) (t := t) with ⟨h1, h2⟩ | h0
  · have := (h.rows _ h1).ki k hn
    rwa [h2] at this
  · rw [h0] at hn; simp at hn
theorem TabOk.get_str {P : Program} {T : Tab} (h : TabOk P T) {t : TypeId} (hn : (T.get t).kd = .str) : P.underlying t = some .string := by
  rcases Tab.get_mem (T := T) (t := t) with ⟨h1, h2⟩ | h0
  · have := (h.rows _ h1).ks hn
    rwa [h2] at this
  · rw [h0] at hn; simp at hn
theorem TabOk.get_fld {P : Program} {T : Tab} (h : TabOk P T) {s : TypeId} {i o : Nat} {t : TypeId} (hn : (T.get s).flds[i]? = some (o, t)) : ∃ (fs : Array Field) (f : Field), P.underlying s = some (.struct fs) ∧ fs[i]? = some f ∧ f.offset = o ∧ f.type = t := by
  rcases Tab.get_mem (T := T) (t := s) with ⟨h1, h2⟩ | h0
  · obtain ⟨fs, h3, h4⟩ := (h.rows _ h1).flds (by intro h0; rw [h0] at hn; simp at hn)
    rw [h2] at h3
    obtain ⟨f, h5, h6, h7⟩ := h4 i o t hn
    exact ⟨fs, f, h3, h5, h6, h7⟩
  · rw [h0] at hn; simp at hn
variable {P : Program} {T : Tab}
abbrev lfs (T : Tab) : TypeId → List K := fun t => (T.get t).lf
theorem Rel.eval {st : St} {H : Heap} {a : Act} {S : Sig} (h : Rel (lfs T) st H a S) (x : Operand) : RepD (lfs T) S (st.eval x) (a.eval x) := by
  cases x with
  | tmp t => exact h.rep t
  | func f =>
    refine .fn f [] [] rfl fun j => ?_
    simp only [List.getD_eq_getElem?_getD, List.getElem?_nil, Option.getD_none]
    exact .undef _
  | global g => exact .undef _
  | const v =>
    simp only [St.eval, Act.eval]
    unfold ofConst
    split
    · exact .v _ _ _ (.int _ _)
    · exact .v _ _ _ (.bool _)
    · split
      · rename_i hs
        have hs' := Nat.le_of_ble_eq_true hs
        exact .v _ _ _ (.str _ (Nat.le_trans hs' (by decide)))
      · exact .undef _
    · exact .nil
    · exact .undef _
theorem Act.put_size (a : Act) (d : Option Nat) (v : Value) : (a.put d v).tmps.size = a.tmps.size := by
  cases d <;> simp [Act.put]
theorem Act.put_getD (a : Act) (d : Nat) (v : Value) (j : Nat) : (a.put (some d) v).tmps.getD j undef = if j = d ∧ d < a.tmps.size then v else a.tmps.getD j undef := by
  simp only [Act.put, Array.getD_eq_getD_getElem?, Array.getElem?_setIfInBounds]
  by_cases h : d = j
  · subst h
    by_cases h2 : d < a.tmps.size
    · simp [h2]
    · simp [h2]
  · rw [if_neg h, if_neg (fun h2 => h h2.1.symm)]
theorem set_getD (l : List D) (d : Nat) (x : D) (j : Nat) : (l.set d x).getD j .undef = if j = d ∧ d < l.length then x else l.getD j .undef := by
  simp only [List.getD_eq_getElem?_getD, List.getElem?_set]
  by_cases h : d = j
  · subst h
    by_cases h2 : d < l.length
    · simp [h2]
    · simp [h2]
  · rw [if_neg h, if_neg (fun h2 => h h2.1.symm)]
theorem Rel.put {st : St} {H : Heap} {a : Act} {S : Sig} (h : Rel (lfs T) st H a S) (dst : Option Nat) {d : D} {v : Value} (hd : RepD (lfs T) S d v) : Rel (lfs T) (st.put dst d) H (a.put dst v) S := by
  cases dst with
  | none => exact h
  | some i =>
    refine ⟨h.H, h.L, by rw [Act.put_size]; simpa [St.put] using h.size, h.defers, fun j => ?_, h.wf⟩
    rw [Act.put_getD]
    simp only [St.put]
    rw [set_getD, h.size]
    split
    · exact hd
    · exact h.rep j
def OpOk (P : Program) (T : Tab) (S0 : Sig) (o : Oper) (a : Act) (S : Sig) (q : D → St → Heap → Prop) : Prop :=
  ∀ (next : Act → World → Prop) (Q : Exit → Act → World → Prop),
    (∀ d v st' H' S', q d st' H' → Rel (lfs T) st' H' a S' → Inv S0 S' → RepD (lfs T) S' d v → next (a.put o.dst v) S'.w) → o.wp P a S.w next Q
theorem OpOk.value {S0 : Sig} {o : Oper} {a : Act} {S : Sig} {q : D → St → Heap → Prop} {st : St} {H : Heap} (hrel : Rel (lfs T) st H a S) (hinv : Inv S0 S) {v : Value} {d : D}
    (hr : (execOp a.eval o).run P S.w = .ok (.value v) S.w) (hd : RepD (lfs T) S d v) (hq : q d st H) : OpOk P T S0 o a S q := by
  intro next Q hn
  unfold Oper.wp
  rw [hr]
  exact hn d v st H S hq hrel hinv hd
section
variable {S0 : Sig} {o : Oper} {a : Act} {S : Sig} {st : St} {H : Heap}
theorem RepD.int_inv {lf : TypeId → List K} {k : IntKind} {x : V} {u : Value} (h : RepD lf S (.v (.int k) x) u) : u = .int k x.int := by
  cases h with | v _ _ _ h => cases h; rfl
theorem RepD.bool_inv {lf : TypeId → List K} {x : V} {u : Value} (h : RepD lf S (.v .bool x) u) : u = .bool x.bool := by
  cases h with | v _ _ _ h => cases h; rfl
theorem RepD.str_inv {lf : TypeId → List K} {x : V} {u : Value} (h : RepD lf S (.v .str x) u) : u = .string x.str := by
  cases h with | v _ _ _ h => cases h; rfl
theorem RepD.mkInt {lf : TypeId → List K} {k : IntKind} (n : Int) : RepD lf S (.v (.int k) (.i n)) (.int k n) := .v _ _ _ (.int k (.i n))
theorem RepD.mkBool {lf : TypeId → List K} (b : Bool) : RepD lf S (.v .bool (.b b)) (.bool b) := .v _ _ _ (.bool (.b b))
theorem RepD.str_len {lf : TypeId → List K} {x : V} {u : Value} (h : RepD lf S (.v .str x) u) : x.str.size ≤ big := by
  cases h with | v _ _ _ h => cases h; assumption
theorem RepD.mkStr {lf : TypeId → List K} (s : ByteArray) (h : s.size ≤ big) : RepD lf S (.v .str (.s s)) (.string s) := .v _ _ _ (.str (.s s) h)
theorem run_bind_ok {α β : Type} (m : Sem α) (f : α → Sem β) (w w' : World) (x : α) (h : m.run P w = .ok x w') : (m >>= f).run P w = (f x).run P w' := by
  rw [Sem.run_bind, h]; rfl
theorem run_equalIn_bool {t : TypeId} (h : P.underlying t = some .bool) (x y : Bool) (w : World) (d : Nat) : (Op.equalIn (d + 1) t (.bool x) (.bool y)).run P w = .ok (x == y) w := by
  simp only [Op.equalIn, Sem.run_bind, run_underlying h, Result.andThen_ok]
  rfl
theorem run_equal_bool {t : TypeId} (h : P.underlying t = some .bool) (x y : Bool) (w : World) : (Op.equal t (.bool x) (.bool y)).run P w = .ok (x == y) w :=
  run_equalIn_bool h x y w 9999
theorem ok_un (op : UnOp) (xt : TypeId) (x : Operand) (q : D → St → Heap → Prop) (ho : o.op = .unOp op xt x) (hrel : Rel (lfs T) st H a S) (hinv : Inv S0 S)
    (h : evUn op (st.eval x) fun d => q d st H) : OpOk P T S0 o a S q := by
  have hx := hrel.eval x
  unfold evUn at h
  split at h
  · rename_i m h1
    rw [h1] at hx
    have ex := hx.bool_inv
    refine OpOk.value hrel hinv (v := .bool (!m.bool)) (d := _) ?_ (RepD.mkBool _) h
    simp only [execOp, ho, ex, Op.unary]; rfl
  · rename_i k m h1
    rw [h1] at hx
    have ex := hx.int_inv
    refine OpOk.value hrel hinv (v := .int k (k.wrap (0 - m.int))) (d := _) ?_ (RepD.mkInt _) h
    simp only [execOp, ho, ex, Op.unary]; rfl
  · exact h.elim
theorem ok_move (x : Operand) (q : D → St → Heap → Prop) (ho : o.op = .move x ∨ o.op = .assign x) (hrel : Rel (lfs T) st H a S) (hinv : Inv S0 S) (h : q (st.eval x) st H) : OpOk P T S0 o a S q := by
  refine OpOk.value hrel hinv (v := a.eval x) ?_ (hrel.eval x) h
  rcases ho with ho | ho <;> simp only [execOp, ho] <;> rfl
theorem ok_pick (c x y : Operand) (q : D → St → Heap → Prop) (ho : o.op = .pick c x y) (hrel : Rel (lfs T) st H a S) (hinv : Inv S0 S)
    (h : match st.eval c with | .v .bool b => iff b.bool (q (st.eval x) st H) (q (st.eval y) st H) | _ => False) : OpOk P T S0 o a S q := by
  have hc := hrel.eval c
  split at h
  · rename_i b h1
    rw [h1] at hc
    have ec := hc.bool_inv
    cases hb : b.bool with
    | true =>
      rw [hb] at h ec
      refine OpOk.value hrel hinv (v := a.eval x) ?_ (hrel.eval x) h
      simp only [execOp, ho, ec]; rfl
    | false =>
      rw [hb] at h ec
      refine OpOk.value hrel hinv (v := a.eval y) ?_ (hrel.eval y) h
      simp only [execOp, ho, ec]; rfl
  · exact h.elim
theorem mkVal_agg {t : TypeId} {cs : List D} (h : (T.get t).agg = true) : mkVal T t cs = .agg cs := by simp [mkVal, mkVal.iteD, h]
theorem mkVal_one {t : TypeId} {cs : List D} (h : (T.get t).agg = false) : mkVal T t cs = cs.headD .undef := by simp [mkVal, mkVal.iteD, h]
theorem run_loadVar (hT : TabOk P T) {t : TypeId} {b off : Nat} {us : List Value} {cs : List D} (hn : 0 < (T.get t).lf.length) (hl : us.length = (T.get t).lf.length)
    (hcell : ∀ j, j < us.length → S.w.cell? ⟨b, off + j, none⟩ = some (us.getD j undef)) (hc : cs.length = us.length) (hrep : ∀ j, RepD (lfs T) S (cs.getD j .undef) (us.getD j undef)) :
    ∃ v, (loadVar t ⟨b, off, none⟩).run P S.w = .ok v S.w ∧ RepD (lfs T) S (mkVal T t cs) v := by
  obtain ⟨hok, ht⟩ := hT.get hn
  have hagg := hok.agg S.w
  have hsz := hok.size S.w
  rw [ht] at hagg hsz
  have hadd : ∀ n, (⟨b, off, none⟩ : Addr).add n = ⟨b, off + n, none⟩ := fun n => by unfold Addr.add; split <;> simp_all
  cases ha : (T.get t).agg with
  | true =>
    rw [ha] at hagg
    refine ⟨.agg us.toArray, ?_, by rw [mkVal_agg ha]; exact .agg cs us hc hrep⟩
    have hload := run_loadCells_list (P := P) (w := S.w) ⟨b, off, none⟩ us (fun j v hj => by
      rw [hadd]
      have hlt : j < us.length := (List.getElem?_eq_some_iff.1 hj).1
      rw [hcell j hlt]
      simp [List.getD_eq_getElem?_getD, hj])
    rw [hl] at hload
    simp only [loadVar, Sem.run_bind, hagg, Result.andThen_ok, if_true, hsz, hload]
    rfl
  | false =>
    rw [ha] at hagg
    have h1 := hok.one ha
    have hc0 := hcell 0 (by omega)
    refine ⟨us.getD 0 undef, ?_, ?_⟩
    · simp only [loadVar, Sem.run_bind, hagg, Result.andThen_ok, Bool.false_eq_true, if_false, load, Sem.run]
      have : S.w.cell? ⟨b, off, none⟩ = some (us.getD 0 undef) := by simpa using hc0
      rw [this]
    · rw [mkVal_one ha]
      have := hrep 0
      cases cs with
      | nil => simp at hc; omega
      | cons c r => exact this
theorem vcells_length {lf : List K} {cs : List V} : (vcells lf cs).length = lf.length := by
  induction lf generalizing cs with
  | nil => rfl
  | cons k r ih => simp [vcells, ih]
theorem vcells_getD {lf : List K} {cs : List V} {j : Nat} (h : j < lf.length) : (vcells lf cs).getD j .undef = .v (lf.getD j .oth) (cs.getD j V.none) := by
  induction lf generalizing cs j with
  | nil => simp at h
  | cons k r ih =>
    cases j with
    | zero => cases cs <;> simp [vcells]
    | succ j =>
      simp only [vcells, List.getD_cons_succ]
      rw [ih (by simpa using h)]
      cases cs <;> simp
theorem getD_drop {α : Type} (l : List α) (n j : Nat) (d : α) : (l.drop n).getD j d = l.getD (n + j) d := by
  simp [List.getD_eq_getElem?_getD, List.getElem?_drop]
theorem getD_take {α : Type} (l : List α) (n j : Nat) (d : α) (h : j < n) : (l.take n).getD j d = l.getD j d := by
  simp [List.getD_eq_getElem?_getD, h]
theorem repD_of_list {cs : List D} {us : List Value} (hc : cs.length = us.length) (h : ∀ j, j < us.length → RepD (lfs T) S (cs.getD j .undef) (us.getD j undef)) (j : Nat) : RepD (lfs T) S (cs.getD j .undef) (us.getD j undef) := by
  by_cases hj : j < us.length
  · exact h j hj
  · rw [show cs.getD j .undef = .undef from by simp [List.getD_eq_getElem?_getD, List.getElem?_eq_none (by omega : cs.length ≤ j)]]
    exact .undef _
theorem run_loadElt (hT : TabOk P T) {e t : TypeId} {b o off : Nat} {us : Nat → Value} {cs : List V} (hn : 0 < (T.get t).lf.length)
    (hlf : (T.get t).lf = (((T.get e).lf.drop off).take (T.get t).lf.length)) (hle : off + (T.get t).lf.length ≤ (T.get e).lf.length)
    (hcell : ∀ j, j < (T.get e).lf.length → S.w.cell? ⟨b, o + j, none⟩ = some (us j))
    (hrep : ∀ j, j < (T.get e).lf.length → RepK (lfs T) S.w S.F ((T.get e).lf.getD j .oth) (cs.getD j V.none) (us j)) :
    ∃ v, (loadVar t ⟨b, o + off, none⟩).run P S.w = .ok v S.w ∧ RepD (lfs T) S (mkVal T t (vcells (T.get t).lf (cs.drop off))) v := by
  have hlf' : ∀ j, j < (T.get t).lf.length → (T.get t).lf.getD j .oth = (T.get e).lf.getD (off + j) .oth := fun j hj => by
    have this : (T.get t).lf.getD j .oth = (((T.get e).lf.drop off).take (T.get t).lf.length).getD j .oth := congrArg (fun l => l.getD j .oth) hlf
    rw [this, getD_take _ _ _ _ hj, getD_drop]
  have hus : ∀ j, j < (T.get t).lf.length → ((List.range (T.get t).lf.length).map fun j => us (off + j)).getD j undef = us (off + j) := fun j hj => by
    simp [List.getD_eq_getElem?_getD, List.getElem?_map, List.getElem?_range hj]
  refine run_loadVar hT (us := (List.range (T.get t).lf.length).map fun j => us (off + j)) hn (by simp) (fun j hj => ?_) (by simp [vcells_length]) (repD_of_list (by simp [vcells_length]) fun j hj => ?_)
  · have hj' : j < (T.get t).lf.length := by simpa using hj
    rw [hus j hj', ← hcell (off + j) (by omega)]
    congr 2
    omega
  · have hj' : j < (T.get t).lf.length := by simpa using hj
    rw [hus j hj', vcells_getD hj', hlf' j hj', getD_drop]
    exact .v _ _ _ (hrep (off + j) (by omega))
theorem Wf.cells {lf : TypeId → List K} (h : Wf lf S) {r : Ref} {cs : List D} (ho : S.obj r = .cells cs) :
    ∃ b c e arr, S.blk r = some (b, c) ∧ S.w.heap[b]? = some (.cells arr e (0, 0)) ∧ arr.size = cs.length ∧ ∀ j, j < cs.length → RepD lf S (cs.getD j .undef) (arr.getD j undef) ∧ (arr.getD j undef).oneCell' = true := by
  have := h.obj r
  rw [ho] at this
  exact this
theorem Wf.row {lf : TypeId → List K} (h : Wf lf S) {r : Ref} {e : TypeId} {xs : List (List V)} (ho : S.obj r = .row e xs) :
    (S.blk r = none ∧ xs = []) ∨ ∃ b c arr, S.blk r = some (b, c) ∧ S.w.heap[b]? = some (.cells arr e (0, 0)) ∧ arr.size = c * (lf e).length ∧ xs.length ≤ c ∧ c ≤ maxLen ∧ (∀ i, i < xs.length → (xs.getD i []).length = (lf e).length) ∧
      ∀ i j, i < xs.length → j < (lf e).length → RepK lf S.w S.F ((lf e).getD j .oth) ((xs.getD i []).getD j V.none) (arr.getD (i * (lf e).length + j) undef) := by
  have := h.obj r
  rw [ho] at this
  exact this
theorem cell_of {w : World} {b : Nat} {arr : Array Value} {e : TypeId} {fz : Nat × Nat} (h : w.heap[b]? = some (.cells arr e fz)) {j : Nat} (hj : j < arr.size) : w.cell? ⟨b, j, none⟩ = some (arr.getD j undef) := by
  simp [World.cell?, h, Array.getD_eq_getD_getElem?, hj]
theorem RepD.ptr_inb {lf : TypeId → List K} {r : Ref} {off : Nat} {u : Value} (h : RepD lf S (.ptr r off) u) : S.inb r := by
  cases h with | ptr _ _ _ h _ => exact h.1
theorem RepD.ptr_inv {lf : TypeId → List K} {r : Ref} {off : Nat} {u : Value} (h : RepD lf S (.ptr r off) u) {cs : List D} {bc : Nat × Nat} (h1 : S.obj r = .cells cs) (h2 : S.blk r = some bc) : u = .pointer (some ⟨bc.1, off, none⟩) := by
  cases h with | ptr _ _ _ _ h => exact h bc (by rw [h1]; rfl) h2
theorem Rel.getO_obj {st : St} {H : Heap} {a : Act} {S : Sig} (h : Rel (lfs T) st H a S) (r : Ref) : S.obj r = getO st H r := by
  cases r with
  | loc i => simp [Sig.obj, getO, h.L]
  | own i => simp [Sig.obj, getO, h.H]
theorem run_loadObj (hT : TabOk P T) (hwf : Wf (lfs T) S) {t : TypeId} {r : Ref} {off : Nat} {cs : List D} {u : Value} (hn : 0 < (T.get t).lf.length) (ho : S.obj r = .cells cs) (hle : off + (T.get t).lf.length ≤ cs.length)
    (hu : RepD (lfs T) S (.ptr r off) u) : ∃ v, (Instr.loadAt t u).run P S.w = .ok v S.w ∧ RepD (lfs T) S (mkVal T t ((cs.drop off).take (T.get t).lf.length)) v := by
  obtain ⟨b, c, e, arr, hb, hh, hsz, hrep⟩ := hwf.cells ho
  have hu' := hu.ptr_inv ho hb
  subst hu'
  have hus : ∀ j, j < (T.get t).lf.length → ((List.range (T.get t).lf.length).map fun j => arr.getD (off + j) undef).getD j undef = arr.getD (off + j) undef := fun j hj => by
    simp [List.getD_eq_getElem?_getD, List.getElem?_map, List.getElem?_range hj]
  obtain ⟨v, h1, h2⟩ := run_loadVar (S := S) hT (t := t) (b := b) (off := off) (us := (List.range (T.get t).lf.length).map fun j => arr.getD (off + j) undef) (cs := (cs.drop off).take (T.get t).lf.length) hn (by simp)
    (fun j hj => by
      have hj' : j < (T.get t).lf.length := by simpa using hj
      rw [hus j hj']
      exact cell_of hh (by omega))
    (by simp; omega) (repD_of_list (by simp; omega) fun j hj => by
      have hj' : j < (T.get t).lf.length := by simpa using hj
      rw [hus j hj', getD_take _ _ _ _ hj', getD_drop]
      exact (hrep (off + j) (by omega)).1)
  exact ⟨v, by simpa [Instr.loadAt, Instr.sureAddr] using h1, h2⟩
theorem ok_load (hT : TabOk P T) (t : TypeId) (x : Operand) (q : D → St → Heap → Prop) (ho : o.op = .load t x) (hrel : Rel (lfs T) st H a S) (hinv : Inv S0 S)
    (h : evLoad T t st H (st.eval x) fun d => q d st H) : OpOk P T S0 o a S q := by
  have hx := hrel.eval x
  have fin : ∀ {d : D}, (∃ v, (Instr.loadAt t (a.eval x)).run P S.w = .ok v S.w ∧ RepD (lfs T) S d v) → q d st H → OpOk P T S0 o a S q := by
    rintro d ⟨v, h1, h2⟩ hq
    refine OpOk.value hrel hinv (v := v) ?_ h2 hq
    simp only [execOp, ho, Sem.run_bind, h1, Result.andThen_ok]
    rfl
  unfold evLoad at h
  simp only at h
  split at h
  · exact h.elim
  · rename_i hn0
    have hn : 0 < (T.get t).lf.length := by simpa using hn0
    split at h
    · rename_i r off h1
      rw [h1] at hx
      split at h
      · rename_i cs h2
        split at h
        · rename_i hle
          exact fin (run_loadObj hT hrel.wf hn (r := r) (by rw [hrel.getO_obj]; exact h2) (by simpa using hle) hx) h
        · exact h.elim
      · exact h.elim
    · rename_i e cs off h1
      rw [h1] at hx
      split at h
      · rename_i hlf hle
        refine fin ?_ h
        generalize a.eval x = u at hx
        cases hx with
        | elt _ _ _ b o us hb hc hr =>
          obtain ⟨v, h2, h3⟩ := run_loadElt (S := S) hT (e := e) (t := t) (b := b) (o := o) (off := off) hn (by simpa using hlf) (by simpa using hle) hc hr
          exact ⟨v, by simpa [Instr.loadAt, Instr.sureAddr] using h2, h3⟩
      · exact h.elim
    · rename_i r e n' i off h1
      rw [h1] at hx
      split at h
      · rename_i hlf hle
        obtain ⟨xs, h2, h3, h4, h5⟩ := withRow_spec h
        refine fin ?_ h5
        have ho' : S.obj r = .row e xs := by rw [hrel.getO_obj]; exact h2
        rcases hrel.wf.row ho' with ⟨_, h0⟩ | ⟨b, c, arr, hb, hh, hsz, hxc, _, hlen, hrep⟩
        · rw [h0] at h3; simp at h3; omega
        · generalize a.eval x = u at hx
          cases hx with
          | relt _ _ _ _ _ _ hin hu =>
            have hu' := (hu e _ ho').2 h3.symm _ hb
            subst hu'
            have hmul : ∀ j, j < (T.get e).lf.length → i * (T.get e).lf.length + j < arr.size := fun j hj => by
              rw [hsz]
              have h6 : i + 1 ≤ c := by omega
              have h7 := Nat.mul_le_mul_right (T.get e).lf.length h6
              rw [Nat.add_mul] at h7
              simp only [lfs]
              omega
            obtain ⟨v, h6, h7⟩ := run_loadElt (S := S) hT (e := e) (t := t) (b := b) (o := i * (T.get e).lf.length) (off := off) (us := fun j => arr.getD (i * (T.get e).lf.length + j) undef) (cs := xs.getD i []) hn (by simpa using hlf) (by simpa using hle)
              (fun j hj => cell_of hh (hmul j hj)) (fun j hj => hrep i j (by omega) hj)
            exact ⟨v, by simpa [Instr.loadAt, Instr.sureAddr] using h6, h7⟩
      · exact h.elim
    · exact h.elim
theorem add_plain (b off n : Nat) : (⟨b, off, none⟩ : Addr).add n = ⟨b, off + n, none⟩ := by unfold Addr.add; split <;> simp_all
theorem run_fieldAt (hT : TabOk P T) {s t : TypeId} {i o b off : Nat} (hf : (T.get s).flds[i]? = some (o, t)) (hn : 0 < (T.get t).lf.length) :
    (Instr.fieldAt s (.pointer (some ⟨b, off, none⟩)) i).run P S.w = .ok (.pointer (some ⟨b, off + o, none⟩)) S.w := by
  obtain ⟨fs, f, hu, hfs, rfl, rfl⟩ := hT.get_fld hf
  obtain ⟨hok, ht⟩ := hT.get hn
  have hs := hok.size S.w
  rw [ht] at hs
  have h0 : (T.get f.type).lf.length ≠ 0 := by omega
  simp only [Instr.fieldAt, Sem.run_bind, run_underlying hu, Result.andThen_ok, hfs, Instr.sureAddr, fieldPlace]
  simp [Sem.run, pure, hs, h0, add_plain]
theorem ok_fieldAddr (hT : TabOk P T) (s : TypeId) (x : Operand) (f : Nat) (q : D → St → Heap → Prop) (ho : o.op = .fieldAddr s x f) (hrel : Rel (lfs T) st H a S) (hinv : Inv S0 S)
    (h : evFieldAddr T s f st H (st.eval x) fun d => q d st H) : OpOk P T S0 o a S q := by
  have hx := hrel.eval x
  have fin : ∀ {d : D}, (∃ v, (Instr.fieldAt s (a.eval x) f).run P S.w = .ok v S.w ∧ RepD (lfs T) S d v) → q d st H → OpOk P T S0 o a S q := by
    rintro d ⟨v, h1, h2⟩ hq
    refine OpOk.value hrel hinv (v := v) ?_ h2 hq
    simp only [execOp, ho, Sem.run_bind, h1, Result.andThen_ok]
    rfl
  have cells : ∀ (r : Ref) (off o : Nat) (t : TypeId), (T.get s).flds[f]? = some (o, t) → 0 < (T.get t).lf.length → ∀ cs, S.obj r = .cells cs → RepD (lfs T) S (.ptr r off) (a.eval x) →
      ∃ v, (Instr.fieldAt s (a.eval x) f).run P S.w = .ok v S.w ∧ RepD (lfs T) S (.ptr r (off + o)) v := by
    intro r off o t hf hn cs hob hu
    obtain ⟨b, c, e, arr, hb, _⟩ := hrel.wf.cells hob
    rw [hu.ptr_inv hob hb]
    exact ⟨_, run_fieldAt hT hf hn, .ptr _ _ _ ⟨hu.ptr_inb, rfl⟩ fun bc' h1 h2 => by rw [hb] at h2; cases h2; rfl⟩
  unfold evFieldAddr at h
  split at h
  · exact h.elim
  · rename_i o' t hf
    split at h
    · exact h.elim
    · rename_i hn0
      have hn : 0 < (T.get t).lf.length := by simpa using hn0
      split at h
      · rename_i r off h1
        rw [h1] at hx
        split at h
        · rename_i cs h2
          exact fin (cells r off o' t hf hn cs (by rw [hrel.getO_obj]; exact h2) hx) h
        · exact h.elim
      · rename_i e cs off h1
        rw [h1] at hx
        refine fin ?_ h
        generalize a.eval x = u at hx
        cases hx with
        | elt _ _ _ b o us hb hc hr => exact ⟨_, run_fieldAt hT hf hn, by rw [Nat.add_assoc]; exact .elt _ _ _ b o us hb hc hr⟩
      · rename_i r e n i off h1
        rw [h1] at hx
        obtain ⟨xs, h2, h3, h4, h5⟩ := withRow_spec h
        refine fin ?_ h5
        have ho' : S.obj r = .row e xs := by rw [hrel.getO_obj]; exact h2
        rcases hrel.wf.row ho' with ⟨_, h0⟩ | ⟨b, c, arr, hb, hh, hsz, hxc, _, hlen, hrep⟩
        · rw [h0] at h3; simp at h3; omega
        · generalize a.eval x = u at hx
          cases hx with
          | relt _ _ _ _ _ _ hin hu =>
            rw [(hu e _ ho').2 h3.symm _ hb]
            refine ⟨_, run_fieldAt hT hf hn, .relt _ _ _ _ _ _ ⟨hin.1, rfl⟩ fun e' xs h6 => ?_⟩
            rw [ho'] at h6
            cases h6
            exact ⟨by omega, fun _ bc hbc => by rw [hb] at hbc; cases hbc; rw [Nat.add_assoc]⟩
      · exact h.elim
theorem ok_nilCheck (x : Operand) (q : D → St → Heap → Prop) (ho : o.op = .nilCheck x) (hrel : Rel (lfs T) st H a S) (hinv : Inv S0 S)
    (h : match st.eval x with
      | .ptr r off => (match getO st H r with
        | .cells _ => q (.ptr r off) st H
        | _ => False)
      | _ => False) : OpOk P T S0 o a S q := by
  have hx := hrel.eval x
  have cells : ∀ (r : Ref) (off : Nat) (cs : List D), S.obj r = .cells cs → RepD (lfs T) S (.ptr r off) (a.eval x) → q (.ptr r off) st H → OpOk P T S0 o a S q := by
    intro r off cs hob hu hq
    obtain ⟨b, c, e, arr, hb, _⟩ := hrel.wf.cells hob
    have hu' := hu.ptr_inv hob hb
    refine OpOk.value hrel hinv (v := a.eval x) ?_ hu hq
    simp only [execOp, ho, hu']
    rfl
  split at h
  · rename_i r off h1
    rw [h1] at hx
    split at h
    · rename_i cs h2
      exact cells r off cs (by rw [hrel.getO_obj]; exact h2) hx h
    · exact h.elim
  · exact h.elim
theorem ok_indexAddr (hT : TabOk P T) (t : TypeId) (x i : Operand) (q : D → St → Heap → Prop) (ho : o.op = .indexAddr t x i) (hrel : Rel (lfs T) st H a S) (hinv : Inv S0 S)
    (h : evIndexAddr T t (st.eval x) (st.eval i) st H fun d => q d st H) : OpOk P T S0 o a S q := by
  have hx := hrel.eval x
  have hi := hrel.eval i
  unfold evIndexAddr at h
  split at h
  · rename_i e k j he h1
    rw [h1] at hi
    have ei := hi.int_inv
    have hu := hT.get_el he
    split at h
    · exact h.elim
    · rename_i hpos0
      have hpos : 0 < (T.get e).lf.length := by simpa using hpos0
      obtain ⟨hok, ht⟩ := hT.get hpos
      have hs := hok.size S.w
      rw [ht] at hs
      have go : ∀ (b off len cap : Nat) (d : D), a.eval x = .slice (some ⟨b, off, none⟩) len cap → 0 ≤ j.int → j.int < len →
          RepD (lfs T) S d (.pointer (some ⟨b, off + j.int.toNat * (T.get e).lf.length, none⟩)) → q d st H → OpOk P T S0 o a S q := by
        intro b off len cap d hv h0 hl hd hq
        refine OpOk.value hrel hinv (v := _) ?_ hd hq
        simp only [execOp, ho, hv, ei, Instr.indexAt, asIntOf, Sem.run_bind, run_underlying hu, Result.andThen_ok]
        simp [Sem.run, pure, h0, hl, hs, add_plain]
      split at h
      · rename_i e' y h2
        rw [h2] at hx
        split at h
        · rename_i hee
          have hee' : e = e' := by simpa using hee
          subst hee'
          obtain ⟨h3, h4, h5⟩ := h
          generalize hv : a.eval x = u at hx
          cases hx with
          | v _ _ _ hk =>
            cases hk with
            | sl0 _ _ A c h0 => rw [h0] at h4; simp at h4; omega
            | sl _ _ b off c us hb hc hlen hcell hrep =>
              have hjn : j.int.toNat < y.list.length := by omega
              exact go b off _ c _ hv h3 h4 (RepD.elt (lf := lfs T) (S := S) e (y.list.getD j.int.toNat []) 0 b (off + j.int.toNat * (T.get e).lf.length) (us j.int.toNat) hb (fun j' hj' => hcell _ _ hjn hj') (fun j' hj' => hrep _ _ hjn hj')) h5
        · exact h.elim
      · rename_i r n h2
        rw [h2] at hx
        obtain ⟨xs, h3, h4, h5, h6, h7⟩ := withRow_spec h
        have ho' : S.obj r = .row e xs := by rw [hrel.getO_obj]; exact h3
        rcases hrel.wf.row ho' with ⟨_, h0⟩ | ⟨b, c, arr, hb, hh, hsz, hxc, _, hlen, hrep⟩
        · rw [h0] at h4; simp at h4; omega
        · generalize hv : a.eval x = u at hx
          cases hx with
          | osl _ _ _ hin hu =>
            have hu' := (hu e _ ho').2 h4.symm
            rw [hb] at hu'
            refine go b 0 n c _ (hv.trans hu') h5 h6 (.relt _ _ _ _ _ _ ⟨hin.1, rfl⟩ fun e' xs h8 => ?_) h7
            rw [ho'] at h8
            cases h8
            exact ⟨by omega, fun _ bc hbc => by rw [hb] at hbc; cases hbc; rw [Nat.zero_add]; rfl⟩
      · exfalso; have := h.1; have := h.2.1; omega
      · exact h.elim
  · rename_i i0 he
    split at h
    · rename_i n e m r off har hm h2
      rw [h2] at hx
      split at h
      · rename_i cs h3
        split at h
        · rename_i hc
          obtain ⟨hlt, hpos⟩ : m < n ∧ 0 < (T.get e).lf.length := by simpa using hc
          have hu := hT.get_ar har
          obtain ⟨hok, ht⟩ := hT.get hpos
          have hs := hok.size S.w
          rw [ht] at hs
          have hob : S.obj r = .cells cs := by rw [hrel.getO_obj]; exact h3
          obtain ⟨b, c, e', arr, hb, _⟩ := hrel.wf.cells hob
          have hu' := hx.ptr_inv hob hb
          have hix : ∃ k, a.eval i = .int k (m : Int) := by
            unfold litIx at hm
            split at hm
            · rename_i k m' h5
              simp only [Option.some.injEq] at hm
              subst hm
              rw [h5] at hi
              exact ⟨k, hi.int_inv⟩
            · cases hm
          obtain ⟨k, ei⟩ := hix
          refine OpOk.value hrel hinv (v := .pointer (some ⟨b, off + m * (T.get e).lf.length, none⟩)) (d := _) ?_ (.ptr r (off + m * (T.get e).lf.length) _ ⟨hx.ptr_inb, rfl⟩ fun bc' h6 h7 => by rw [hb] at h7; cases h7; rfl) h
          have h0 : (0 : Int) ≤ (m : Int) := by omega
          have h1 : (m : Int) < (n : Int) := by omega
          simp only [execOp, ho, hu', ei, Instr.indexAt, asIntOf, Sem.run_bind, run_underlying hu, Result.andThen_ok, Instr.sureAddr]
          simp [Sem.run, pure, h0, h1, hs, add_plain, run_underlying hu]
        · exact h.elim
      · exact h.elim
    · exact h.elim
  · exact h.elim
theorem closed_spec : ∀ (lf : List K) (cs : List D) (ys : List V), closed lf cs = some ys → ys.length = lf.length ∧ cs.length = lf.length ∧ ∀ j, j < lf.length → cs.getD j .undef = .v (lf.getD j .oth) (ys.getD j V.none)
  | [], [], ys, h => by simp [closed] at h; subst h; exact ⟨rfl, rfl, fun j hj => by simp at hj⟩
  | [], _ :: _, _, h => by simp [closed] at h
  | k :: lf, [], _, h => by simp [closed] at h
  | k :: lf, d :: r, ys, h => by
    cases d with
    | v k' x =>
      simp only [closed] at h
      split at h
      · rename_i hk
        have hk' : k = k' := by simpa using hk
        subst hk'
        cases hc : closed lf r with
        | none => rw [hc] at h; cases h
        | some zs =>
          rw [hc] at h
          simp only [Option.map_some, Option.some.injEq] at h
          subst h
          obtain ⟨h1, h2, h3⟩ := closed_spec lf r zs hc
          refine ⟨by simp [h1], by simp [h2], fun j hj => ?_⟩
          cases j with
          | zero => rfl
          | succ j => exact h3 j (by simpa using hj)
      · cases h
    | _ => simp [closed] at h
theorem plain_rep {k : K} {d : D} {u : Value} (h : RepD (lfs T) S d u) : RepD (lfs T) S (d.plain k) u := by
  cases h with
  | nil =>
    cases k with
    | sl e => exact .v _ _ _ (.sl0 e (.l []) none 0 rfl)
    | _ => exact .nil
  | v k' x u h => exact .v _ _ _ h
  | agg cs us h1 h2 => exact .agg cs us h1 h2
  | tup cs us h1 h2 => exact .tup cs us h1 h2
  | ptr r off u h1 h2 => exact .ptr r off u h1 h2
  | elt e cs off b o us h1 h2 h3 => exact .elt e cs off b o us h1 h2 h3
  | relt r e n i off u h1 h2 => exact .relt r e n i off u h1 h2
  | osl r n u h1 h2 => exact .osl r n u h1 h2
  | mp r u h1 h2 => exact .mp r u h1 h2
  | fn f caps us h1 h2 => exact .fn f caps us h1 h2
  | skip => exact .skip
  | undef u => exact .undef u
theorem plainL_getD : ∀ (lf : List K) (cs : List D) (j : Nat), j < lf.length → j < cs.length → (plainL lf cs).getD j .undef = (cs.getD j .undef).plain (lf.getD j .oth)
  | [], _, j, h, _ => by simp at h
  | k :: lf, [], j, _, h => by simp at h
  | k :: lf, d :: r, j, h1, h2 => by
    cases j with
    | zero => rfl
    | succ j => exact plainL_getD lf r j (by simpa using h1) (by simpa using h2)
theorem plainL_length : ∀ (lf : List K) (cs : List D), (plainL lf cs).length = cs.length
  | [], cs => by cases cs <;> rfl
  | _ :: _, [] => rfl
  | k :: lf, d :: r => by simp [plainL, plainL_length lf r]
theorem run_partCells (hT : TabOk P T) {t : TypeId} {cs : List D} {us : List Value} {o' : Nat} (hn : 0 < (T.get t).lf.length) (hle : o' + (T.get t).lf.length ≤ us.length) (hl : cs.length = us.length)
    (hr : ∀ j, RepD (lfs T) S (cs.getD j .undef) (us.getD j undef)) : ∃ v, (part t us.toArray o').run P S.w = .ok v S.w ∧ RepD (lfs T) S (mkVal T t ((cs.drop o').take (T.get t).lf.length)) v := by
  obtain ⟨hok, ht⟩ := hT.get hn
  have hagg := hok.agg S.w
  have hsz := hok.size S.w
  rw [ht] at hagg hsz
  cases ha : (T.get t).agg with
  | true =>
    rw [ha] at hagg
    refine ⟨.agg ((us.drop o').take (T.get t).lf.length).toArray, ?_, by rw [mkVal_agg ha]; exact .agg ((cs.drop o').take (T.get t).lf.length) ((us.drop o').take (T.get t).lf.length) (by simp; omega) (repD_of_list (by simp; omega) fun j hj => by
      have hj' : j < (T.get t).lf.length := by simp at hj; omega
      rw [getD_take _ _ _ _ hj', getD_take _ _ _ _ hj', getD_drop, getD_drop]
      exact hr _)⟩
    simp only [part, Sem.run_bind, hagg, Result.andThen_ok, if_true, hsz]
    simp [pure, List.extract_toArray]
  | false =>
    rw [ha] at hagg
    have h1 := hok.one ha
    refine ⟨us.getD o' undef, ?_, ?_⟩
    · have : us.toArray[o']? = some (us.getD o' undef) := by
        rw [List.getD_eq_getElem?_getD, List.getElem?_toArray, List.getElem?_eq_getElem (by omega)]; rfl
      simp only [part, Sem.run_bind, hagg, Result.andThen_ok, Bool.false_eq_true, if_false, this]
      rfl
    · rw [mkVal_one ha]
      have := hr o'
      rw [h1]
      have e : ((cs.drop o').take 1).headD .undef = cs.getD o' .undef := by
        have hlt : o' < cs.length := by omega
        rw [List.drop_eq_getElem_cons hlt, List.getD_eq_getElem?_getD, List.getElem?_eq_getElem hlt]
        rfl
      rw [e]
      exact this
theorem chunks_getD (m : Nat) : ∀ (n : Nat) (vs : List V) (i : Nat), i < n → (chunks m n vs).getD i [] = (vs.drop (i * m)).take m
  | 0, _, _, h => by omega
  | n + 1, vs, 0, _ => by simp [chunks]
  | n + 1, vs, i + 1, h => by
    have := chunks_getD m n (vs.drop m) i (by omega)
    simp only [chunks, List.getD_cons_succ, this, List.drop_drop]
    rw [Nat.add_mul, Nat.one_mul, Nat.add_comm]
theorem flatten_getD (l : List K) : ∀ (n i q : Nat), i < n → q < l.length → ((List.replicate n l).flatten).getD (i * l.length + q) .oth = l.getD q .oth
  | 0, _, _, h, _ => by omega
  | n + 1, i, q, h, hq => by
    simp only [List.replicate_succ, List.flatten_cons]
    cases i with
    | zero => simp [List.getD_eq_getElem?_getD, List.getElem?_append_left hq]
    | succ i =>
      have h1 : l.length ≤ (i + 1) * l.length + q := by rw [Nat.add_mul, Nat.one_mul]; omega
      rw [List.getD_eq_getElem?_getD, List.getElem?_append_right h1, ← List.getD_eq_getElem?_getD]
      rw [show (i + 1) * l.length + q - l.length = i * l.length + q from by rw [Nat.add_mul, Nat.one_mul]; omega]
      exact flatten_getD l n i q (by omega) hq
theorem ok_index (hT : TabOk P T) (t : TypeId) (x i : Operand) (q : D → St → Heap → Prop) (ho : o.op = .index t x i) (hrel : Rel (lfs T) st H a S) (hinv : Inv S0 S)
    (h : evIndex T t (st.eval x) (st.eval i) fun d => q d st H) : OpOk P T S0 o a S q := by
  have hx := hrel.eval x
  have hi := hrel.eval i
  unfold evIndex at h
  split at h
  · rename_i s k j h1 h2
    rw [h1] at hx; rw [h2] at hi
    have ex := hx.str_inv
    have ei := hi.int_inv
    split at h
    · exact h.elim
    · rename_i hk
      have hu := hT.get_str (t := t) (by simpa using hk)
      obtain ⟨h3, h4, h5⟩ := h
      have hlt : j.int.toNat < s.str.size := by omega
      refine OpOk.value hrel hinv (v := .int .u8 ((s.str.data.toList.getD j.int.toNat 0).toNat : Int)) (d := _) ?_ (RepD.mkInt _) h5
      have hget : s.str[j.int.toNat]? = some (s.str.data.toList.getD j.int.toNat 0) := by
        rw [getElem?_pos s.str j.int.toNat hlt]
        have hlt' : j.int.toNat < s.str.data.toList.length := by simpa using hlt
        rw [List.getD_eq_getElem?_getD, List.getElem?_eq_getElem hlt']
        rfl
      simp only [execOp, ho, ex, ei, Instr.index, asIntOf, Sem.run_bind, run_underlying hu, Result.andThen_ok]
      simp [Sem.run, pure, h3, hget]
  · rename_i cs k j h1 h2
    rw [h1] at hx; rw [h2] at hi
    have ei := hi.int_inv
    split at h
    · rename_i n e har
      split at h
      · rename_i vs hcl hc
        obtain ⟨hpos, hlf⟩ : 0 < (T.get e).lf.length ∧ (T.get t).lf = (List.replicate n (T.get e).lf).flatten := by simpa using hc
        obtain ⟨h3, h4, h5⟩ := h
        have hu := hT.get_ar har
        obtain ⟨hok, ht⟩ := hT.get hpos
        have hs := hok.size S.w
        rw [ht] at hs
        generalize hv : a.eval x = u at hx
        cases hx with
        | agg _ us hl hr =>
          obtain ⟨c1, c2, c3⟩ := closed_spec _ _ _ hcl
          rw [plainL_length] at c2
          have hlen : (T.get t).lf.length = n * (T.get e).lf.length := by rw [hlf]; simp
          obtain ⟨i, hi', hin⟩ : ∃ i : Nat, j.int.toNat = i ∧ i < n := ⟨_, rfl, by omega⟩
          have hmul : i * (T.get e).lf.length + (T.get e).lf.length ≤ us.length := by
            have h7 := Nat.mul_le_mul_right (T.get e).lf.length (show i + 1 ≤ n by omega)
            rw [Nat.add_mul, Nat.one_mul] at h7
            omega
          obtain ⟨v, h6, h7⟩ := run_partCells (S := S) hT (t := e) (cs := (List.range us.length).map fun q => .v ((T.get t).lf.getD q .oth) (vs.getD q V.none)) (us := us) (o' := i * (T.get e).lf.length) hpos hmul (by simp)
            (repD_of_list (by simp) fun q hq => by
              have hq1 : q < (T.get t).lf.length := by omega
              have h8 := plain_rep (k := (T.get t).lf.getD q .oth) (hr q)
              rw [← plainL_getD _ _ _ hq1 (by omega), c3 q hq1] at h8
              rw [show ((List.range us.length).map fun q => D.v ((T.get t).lf.getD q .oth) (vs.getD q V.none)).getD q .undef = .v ((T.get t).lf.getD q .oth) (vs.getD q V.none) from by
                simp [List.getD_eq_getElem?_getD, List.getElem?_map, List.getElem?_range hq]]
              exact h8)
          refine OpOk.value hrel hinv (v := v) ?_ ?_ h5
          · simp only [execOp, ho, hv, ei, Instr.index, asIntOf, Sem.run_bind, run_underlying hu, Result.andThen_ok]
            simp [Sem.run, pure, h3, h4, hs, hi', h6]
          · have e1 : List.take (T.get e).lf.length (List.drop (i * (T.get e).lf.length) ((List.range us.length).map fun q => D.v ((T.get t).lf.getD q .oth) (vs.getD q V.none))) = vcells (T.get e).lf ((chunks (T.get e).lf.length n vs).getD i []) := by
              refine List.ext_getElem (by rw [vcells_length]; simp; omega) fun q hq1 hq2 => ?_
              rw [vcells_length] at hq2
              have h9 : (vcells (T.get e).lf ((chunks (T.get e).lf.length n vs).getD i []))[q] = .v ((T.get e).lf.getD q .oth) (((chunks (T.get e).lf.length n vs).getD i []).getD q V.none) := by
                have := vcells_getD (lf := (T.get e).lf) (cs := (chunks (T.get e).lf.length n vs).getD i []) hq2
                rw [List.getD_eq_getElem?_getD, List.getElem?_eq_getElem (by rw [vcells_length]; exact hq2)] at this
                exact this
              rw [h9]
              simp only [List.getElem_take, List.getElem_drop, List.getElem_map, List.getElem_range]
              rw [chunks_getD _ _ _ _ hin, getD_take _ _ _ _ hq2, getD_drop, hlf, flatten_getD _ _ _ _ hin hq2]
            rw [hi', ← e1]
            exact h7
      · exact h.elim
    · exact h.elim
  · exact h.elim
theorem ok_extract (x : Operand) (i : Nat) (q : D → St → Heap → Prop) (ho : o.op = .extract x i) (hrel : Rel (lfs T) st H a S) (hinv : Inv S0 S)
    (h : match st.eval x with
      | .tup ds => (match Nat.blt i ds.length with
        | true => q (ds.getD i .undef) st H
        | false => False)
      | _ => False) : OpOk P T S0 o a S q := by
  have hx := hrel.eval x
  split at h
  · rename_i ds h1
    rw [h1] at hx
    split at h
    · rename_i hlt
      have hlt' : i < ds.length := by simpa using hlt
      generalize hv : a.eval x = u at hx
      cases hx with
      | tup _ us hl hr =>
        refine OpOk.value hrel hinv (v := us.getD i undef) ?_ (hr i) h
        obtain ⟨y, hy⟩ : ∃ y, us[i]? = some y := ⟨_, List.getElem?_eq_getElem (by omega)⟩
        have hg : us.getD i undef = y := by rw [List.getD_eq_getElem?_getD, hy]; rfl
        rw [hg]
        simp only [execOp, ho, hv, Instr.extract]
        simp [Sem.run, pure, hy]
    · exact h.elim
  · exact h.elim
theorem ok_makeFunc (f : FuncId) (first caps : Array Operand) (q : D → St → Heap → Prop) (ho : o.op = .makeFunc (.func f) first caps) (hrel : Rel (lfs T) st H a S) (hinv : Inv S0 S)
    (h : match first.toList with
      | [] => q (.fn f (caps.toList.map st.eval)) st H
      | _ => False) : OpOk P T S0 o a S q := by
  split at h
  · rename_i h1
    have hf : first = #[] := by simpa using h1
    refine OpOk.value hrel hinv (v := .func (.func f) #[] (caps.toList.map a.eval).toArray) ?_ (.fn f _ _ (by simp) (repD_of_list (by simp) fun j hj => ?_)) h
    · have e : caps.map a.eval = (caps.toList.map a.eval).toArray := by apply Array.ext'; simp
      simp only [execOp, ho, hf, Instr.makeFunc, e]
      simp [Sem.run, pure]
    · have hj' : j < caps.toList.length := by simpa using hj
      have e1 : (caps.toList.map st.eval).getD j .undef = st.eval caps.toList[j] := by simp [List.getD_eq_getElem?_getD, List.getElem?_map, List.getElem?_eq_getElem hj']
      have e2 : (caps.toList.map a.eval).getD j undef = a.eval caps.toList[j] := by simp [List.getD_eq_getElem?_getD, List.getElem?_map, List.getElem?_eq_getElem hj']
      rw [e1, e2]
      exact hrel.eval _
  · exact h.elim
theorem ok_field (hT : TabOk P T) (s : TypeId) (x : Operand) (f : Nat) (q : D → St → Heap → Prop) (ho : o.op = .field s x f) (hrel : Rel (lfs T) st H a S) (hinv : Inv S0 S)
    (h : evField T s f (st.eval x) fun d => q d st H) : OpOk P T S0 o a S q := by
  have hx := hrel.eval x
  unfold evField at h
  split at h
  · rename_i o' t cs hf h1
    rw [h1] at hx
    split at h
    · rename_i hc
      obtain ⟨hn, hle⟩ : 0 < (T.get t).lf.length ∧ o' + (T.get t).lf.length ≤ cs.length := by simpa using hc
      obtain ⟨fs, fd, hu, hfs, rfl, rfl⟩ := hT.get_fld hf
      generalize hv : a.eval x = u at hx
      cases hx with
      | agg _ us hl hr =>
        obtain ⟨v, h2, h3⟩ := run_partCells (S := S) hT (t := fd.type) (o' := fd.offset) hn (by omega) hl hr
        refine OpOk.value hrel hinv (v := v) ?_ h3 h
        simp only [execOp, ho, hv, Instr.field, Sem.run_bind, run_underlying hu, Result.andThen_ok, hfs, asAgg]
        simp [Sem.run, pure, h2]
    · exact h.elim
  · exact h.elim
theorem ok_minmax (mx : Bool) (x y : Operand) (ts : Array TypeId) (q : D → St → Heap → Prop) (ho : o.op = .call { callee := .builtin (if mx then .max else .min), args := #[x, y], argTypes := ts }) (hrel : Rel (lfs T) st H a S) (hinv : Inv S0 S)
    (h : evMinMax mx [st.eval x, st.eval y] fun d => q d st H) : OpOk P T S0 o a S q := by
  have hx := hrel.eval x
  have hy := hrel.eval y
  unfold evMinMax at h
  split at h
  · rename_i k m k' n hl
    simp only [List.cons.injEq, and_true] at hl
    obtain ⟨h1, h2⟩ := hl
    rw [h1] at hx; rw [h2] at hy
    have ex := hx.int_inv; have ey := hy.int_inv
    split at h
    · have hk' : k = k' := of_decide_eq_true (by assumption)
      subst hk'
      refine OpOk.value hrel hinv (v := .int k (if n.int > m.int then n.int else m.int)) ?_ (RepD.mkInt _) h
      simp only [execOp, ho, resolve, invoke, Sem.run_bind]
      simp [Sem.run, pure, builtin, Builtin.max_, ex, ey, Builtin.max2]
    · have hk' : k = k' := of_decide_eq_true (by assumption)
      subst hk'
      refine OpOk.value hrel hinv (v := .int k (if n.int < m.int then n.int else m.int)) ?_ (RepD.mkInt _) h
      simp only [execOp, ho, resolve, invoke, Sem.run_bind]
      simp [Sem.run, pure, builtin, Builtin.min_, ex, ey, Builtin.min2]
    · exact h.elim
  · exact h.elim
end
end Go.Abs
