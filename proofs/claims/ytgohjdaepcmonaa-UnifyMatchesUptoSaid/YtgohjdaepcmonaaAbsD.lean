import Derived.Test.YtgohjdaepcmonaaAbsC
set_option linter.unusedVariables false
set_option linter.unusedSimpArgs false
namespace Go.Abs
variable {P : Program} {T : Tab} {S0 : Sig} {o : Oper} {a : Act} {S : Sig} {st : St} {H : Heap}
theorem scrubD_undef (i : Nat) : scrubD i .undef = .undef := by simp [scrubD, D.names, D.anyR]
theorem getD_map_scrub (i : Nat) (l : List D) (j : Nat) : (l.map (scrubD i)).getD j .undef = scrubD i (l.getD j .undef) := by
  simp only [List.getD_eq_getElem?_getD, List.getElem?_map]
  cases l[j]? with
  | none => simp [scrubD_undef]
  | some x => rfl
theorem getD_map_scrubO (i : Nat) (l : List Obj) (j : Nat) : (l.map (scrubO i)).getD j .dead = scrubO i (l.getD j .dead) := by
  simp only [List.getD_eq_getElem?_getD, List.getElem?_map]
  cases l[j]? with
  | none => rfl
  | some x => rfl
theorem isAt_false {i : Nat} {r : Ref} (h : Ref.isAt i r = false) : r ≠ .loc i := by
  rintro rfl
  simp [Ref.isAt] at h
theorem set_getD_gen {α : Type} (l : List α) (d : Nat) (x z : α) (j : Nat) : (l.set d x).getD j z = if j = d ∧ d < l.length then x else l.getD j z := by
  simp only [List.getD_eq_getElem?_getD, List.getElem?_set]
  by_cases h : d = j
  · subst h
    by_cases h2 : d < l.length
    · simp [h2]
    · simp [h2]
  · rw [if_neg h, if_neg (fun h2 => h h2.1.symm)]
theorem scrubO_cells {i : Nat} {o : Obj} {cs : List D} (h : scrubO i o = .cells cs) : ∃ cs0, o = .cells cs0 ∧ cs = cs0.map (scrubD i) := by
  cases o with
  | cells cs0 => exact ⟨cs0, rfl, by injection h with h; exact h.symm⟩
  | row e xs => cases h
  | map m xs => cases h
  | iter m x n s => cases h
  | dead => cases h
theorem scrubO_row {i : Nat} {o : Obj} {e : TypeId} {xs : List (List V)} (h : scrubO i o = .row e xs) : o = .row e xs := by
  cases o with
  | cells cs0 => cases h
  | row e xs => exact h
  | map m xs => cases h
  | iter m x n s => cases h
  | dead => cases h
theorem scrubO_map {i : Nat} {o : Obj} {m : MT} {xs : List (List V)} (h : scrubO i o = .map m xs) : o = .map m xs := by
  cases o with
  | cells cs0 => cases h
  | row e xs => cases h
  | map m xs => exact h
  | iter m x n s => cases h
  | dead => cases h
theorem scrubO_isPt (i : Nat) (o : Obj) : (scrubO i o).isPt = o.isPt := by cases o <;> rfl
abbrev newSig (S : Sig) (i : Nat) (ob : Obj) (bc : Option (Nat × Nat)) (w' : World) : Sig :=
  { S with w := w', L := (S.L.map (scrubO i)).set i ob, la := S.la.set i bc }
theorem newSig_obj (hwf : Wf (lfs T) S) (i : Nat) (ob : Obj) (bc : Option (Nat × Nat)) (w' : World) (r : Ref) :
    (r = .loc i ∧ i < S.L.length ∧ (newSig S i ob bc w').obj r = ob ∧ (newSig S i ob bc w').blk r = bc) ∨
    ((r = .loc i → ¬ i < S.L.length) ∧ (newSig S i ob bc w').obj r = scrubO i (S.obj r) ∧ (newSig S i ob bc w').blk r = S.blk r) ∨
    ((∃ k, r = .own k) ∧ (newSig S i ob bc w').obj r = S.obj r ∧ (newSig S i ob bc w').blk r = S.blk r) := by
  cases r with
  | own k => exact .inr (.inr ⟨⟨k, rfl⟩, rfl, rfl⟩)
  | loc j =>
    by_cases hj : j = i ∧ i < S.L.length
    · obtain ⟨rfl, hi⟩ := hj
      refine .inl ⟨rfl, hi, ?_, ?_⟩
      · simp [Sig.obj, set_getD_gen, hi]
      · simp [Sig.blk, set_getD_gen, hwf.lalen, hi]
    · refine .inr (.inl ⟨fun h => by cases h; exact fun hi => hj ⟨rfl, hi⟩, ?_, ?_⟩)
      · simp only [Sig.obj, set_getD_gen, List.length_map, if_neg hj, getD_map_scrubO]
      · simp only [Sig.blk, set_getD_gen, hwf.lalen, if_neg hj]
theorem newSig_keep (hwf : Wf (lfs T) S) (i : Nat) (ob : Obj) (bc : Option (Nat × Nat)) (w' : World) (r : Ref) (hr : Ref.isAt i r = false) : Keep S (newSig S i ob bc w') r := by
  rcases newSig_obj hwf i ob bc w' r with ⟨h, _⟩ | ⟨_, h1, h2⟩ | ⟨_, h1, h2⟩
  · exact absurd h (isAt_false hr)
  · refine ⟨fun b h3 h4 => ⟨?_, h2 ▸ h4⟩, fun e xs h3 => ?_, fun m xs h3 => ⟨xs, scrubO_map (h1 ▸ h3), h2⟩⟩
    · rw [h1, scrubO_isPt] at h3
      exact h3
    · exact ⟨xs, scrubO_row (h1 ▸ h3), Nat.le_refl _, fun _ => h2⟩
  · exact .refl h1 h2
theorem newSig_repD (hwf : Wf (lfs T) S) {i : Nat} {ob : Obj} {bc : Option (Nat × Nat)} {w' : World} (hw : ∀ b, b < S.w.heap.size → w'.heap[b]? = S.w.heap[b]?) {d : D} {u : Value} (h : RepD (lfs T) S d u) :
    RepD (lfs T) (newSig S i ob bc w') (scrubD i d) u := by
  unfold scrubD
  split
  · exact .undef _
  · rename_i hn
    exact RepD.mono (S := S) (S' := newSig S i ob bc w') (Nat.le_refl _) (fun b hb => hb) (fun b hb => hw b (hwf.frozen b hb).1) (p := Ref.isAt i) (fun r hr _ => newSig_keep hwf i ob bc w' r hr) hn h
theorem Rel.newLoc (hrel : Rel (lfs T) st H a S) (hinv : Inv S0 S) (i : Nat) (ob : Obj) (bc : Option (Nat × Nat)) (w' : World)
    (hsz : S.w.heap.size ≤ w'.heap.size) (hw : ∀ b, b < S.w.heap.size → w'.heap[b]? = S.w.heap[b]?) (hos : w'.os = S.w.os) (htape : w'.tape = S.w.tape) (hout : w'.output = S.w.output)
    (hbc : ∀ x, bc = some x → S.w.heap.size ≤ x.1 ∧ x.1 < w'.heap.size) (hob : ObjRep (lfs T) (newSig S i ob bc w') ob bc) :
    Rel (lfs T) (Abs.newLoc i ob st) H a (newSig S i ob bc w') ∧ Inv S0 (newSig S i ob bc w') := by
  have hwf := hrel.wf
  have hsub : ∀ r x, (newSig S i ob bc w').blk r = some x → (r = .loc i ∧ bc = some x) ∨ S.blk r = some x := fun r x hx => by
    rcases newSig_obj hwf i ob bc w' r with ⟨h, _, _, h2⟩ | ⟨_, _, h2⟩ | ⟨_, _, h2⟩
    · exact .inl ⟨h, h2 ▸ hx⟩
    · exact .inr (h2 ▸ hx)
    · exact .inr (h2 ▸ hx)
  refine ⟨⟨hrel.H, ?_, ?_, hrel.defers, fun j => ?_, ?_⟩, ?_, ?_⟩
  · show (S.L.map (scrubO i)).set i ob = _
    rw [hrel.L]; rfl
  · show a.tmps.size = (st.tmps.map (scrubD i)).length
    rw [List.length_map]; exact hrel.size
  · show RepD _ _ ((st.tmps.map (scrubD i)).getD j .undef) _
    rw [getD_map_scrub]
    exact newSig_repD hwf hw (hrel.rep j)
  · refine ⟨fun b hb => ⟨Nat.lt_of_lt_of_le (hwf.frozen b hb).1 hsz, fun r x hx => ?_⟩, fun r r' x x' hx hx' he => ?_, fun r x hx => ?_, fun r => ?_, hwf.own, hwf.mulen, ?_⟩
    · have hlt := (hwf.frozen b hb).1
      rcases hsub r x hx with ⟨_, h⟩ | h
      · have := (hbc x h).1; omega
      · exact (hwf.frozen b hb).2 r x h
    · rcases hsub r x hx with ⟨h1, h⟩ | h <;> rcases hsub r' x' hx' with ⟨h1', h'⟩ | h'
      · rw [h1, h1']
      · have := (hbc x h).1; have := hwf.lt r' x' h'; omega
      · have := (hbc x' h').1; have := hwf.lt r x h; omega
      · exact hwf.inj r r' x x' h h' he
    · rcases hsub r x hx with ⟨_, h⟩ | h
      · exact (hbc x h).2
      · exact Nat.lt_of_lt_of_le (hwf.lt r x h) hsz
    · rcases newSig_obj hwf i ob bc w' r with ⟨h, _, h1, h2⟩ | ⟨h, h1, h2⟩ | ⟨⟨k, hk⟩, h1, h2⟩
      · rw [h1, h2]; exact hob
      · rw [h1, h2]
        have := hwf.obj r
        cases hr : S.obj r with
        | cells cs =>
          rw [hr] at this
          obtain ⟨b, c, e, arr, h3, h4, h5, h6⟩ := this
          refine ⟨b, c, e, arr, h3, ?_, by simpa using h5, fun j hj => ?_⟩
          · rw [← h4]; exact hw b (hwf.lt r _ h3)
          · have hj' : j < cs.length := by simpa using hj
            rw [getD_map_scrub]
            exact ⟨newSig_repD hwf hw (h6 j hj').1, (h6 j hj').2⟩
        | row e xs =>
          rw [hr] at this
          rcases this with h3 | ⟨b, c, arr, h3, h4, h5, h6, h7, h9, h8⟩
          · exact .inl h3
          · exact .inr ⟨b, c, arr, h3, by rw [← h4]; exact hw b (hwf.lt r _ h3), h5, h6, h7, h9, fun x y hx hy => RepK.mono (w := S.w) (w' := w') (F := S.F) (F' := S.F) (fun _ h => h) (fun b hb => hw b (hwf.frozen b hb).1) (h8 x y hx hy)⟩
        | map m xs =>
          rw [hr] at this
          obtain ⟨b, c, clock, ents, us, h3, h4, h5, h6, h7, h8⟩ := this
          exact ⟨b, c, clock, ents, us, h3, by rw [← h4]; exact hw b (hwf.lt r _ h3), h5, h6, h7, fun x y hx hy => RepK.mono (w := S.w) (w' := w') (F := S.F) (F' := S.F) (fun _ h => h) (fun b hb => hw b (hwf.frozen b hb).1) (h8 x y hx hy)⟩
        | iter m x n s =>
          rw [hr] at this
          obtain ⟨b, c, mb, h3, h4, h5, h6⟩ := this
          exact ⟨b, c, mb, h3, by rw [← h4]; exact hw b (hwf.lt r _ h3), newSig_repD hwf hw h5, h6⟩
        | dead => rw [hr] at this; exact this
      · subst hk
        rw [h1, h2]
        have := hwf.obj (.own k)
        have hown := hwf.own k
        cases hr : S.obj (.own k) with
        | cells cs =>
          rw [hr] at this
          have hr' : S.H.getD k .dead = .cells cs := hr
          rw [hr'] at hown
          have hown : D.localL cs = false := hown
          obtain ⟨b, c, e, arr, h3, h4, h5, h6⟩ := this
          refine ⟨b, c, e, arr, h3, by rw [← h4]; exact hw b (hwf.lt _ _ h3), h5, fun j hj => ⟨?_, (h6 j hj).2⟩⟩
          refine RepD.mono (S := S) (S' := newSig S i ob bc w') (Nat.le_refl _) (fun b hb => hb) (fun b hb => hw b (hwf.frozen b hb).1) (p := Ref.isLoc) (fun r hr0 _ => ?_) (anyL_getD j hown) (h6 j hj).1
          cases r with
          | loc j => cases hr0
          | own j => exact .refl rfl rfl
        | row e xs =>
          rw [hr] at this
          rcases this with h3 | ⟨b, c, arr, h3, h4, h5, h6, h7, h9, h8⟩
          · exact .inl h3
          · exact .inr ⟨b, c, arr, h3, by rw [← h4]; exact hw b (hwf.lt _ _ h3), h5, h6, h7, h9, fun x y hx hy => RepK.mono (w := S.w) (w' := w') (F := S.F) (F' := S.F) (fun _ h => h) (fun b hb => hw b (hwf.frozen b hb).1) (h8 x y hx hy)⟩
        | map m xs =>
          rw [hr] at this
          obtain ⟨b, c, clock, ents, us, h3, h4, h5, h6, h7, h8⟩ := this
          exact ⟨b, c, clock, ents, us, h3, by rw [← h4]; exact hw b (hwf.lt _ _ h3), h5, h6, h7, fun x y hx hy => RepK.mono (w := S.w) (w' := w') (F := S.F) (F' := S.F) (fun _ h => h) (fun b hb => hw b (hwf.frozen b hb).1) (h8 x y hx hy)⟩
        | iter m x n s =>
          have hr' : S.H.getD k .dead = .iter m x n s := hr
          rw [hr'] at hown
          exact hown.elim
        | dead => rw [hr] at this; exact this
    · show (S.la.set i bc).length = ((S.L.map (scrubO i)).set i ob).length
      simp [hwf.lalen]
  · have he := hinv.ext
    refine ⟨Nat.le_trans he.size hsz, hos.trans he.os, htape.trans he.tape, hout.trans he.output, fun b hb hn => ?_, he.F, he.Fnew, he.len, fun k hk => ?_, fun k x hx => he.fresh k x hx⟩
    · obtain ⟨h1, h2⟩ := he.block b hb hn
      exact ⟨(hw b (Nat.lt_of_lt_of_le hb he.size)).trans h1, h2⟩
    · exact (he.keep k hk).trans (.refl rfl rfl)
  · intro k x hx
    rcases hsub (.loc k) x hx with ⟨_, h⟩ | h
    · exact Nat.le_trans hinv.ext.size (hbc x h).1
    · exact hinv.loc k x h
theorem alloc_old (w : World) (ob : Go.Obj) (b : Nat) (h : b < w.heap.size) : (w.alloc ob).heap[b]? = w.heap[b]? := by
  show (w.heap.push ob)[b]? = _
  rw [Array.getElem?_push, if_neg (by omega)]
theorem alloc_new (w : World) (ob : Go.Obj) : (w.alloc ob).heap[w.heap.size]? = some ob := by
  show (w.heap.push ob)[w.heap.size]? = _
  simp
theorem alloc_size (w : World) (ob : Go.Obj) : (w.alloc ob).heap.size = w.heap.size + 1 := by
  show (w.heap.push ob).size = _
  simp
theorem Rel.newCells (hrel : Rel (lfs T) st H a S) (hinv : Inv S0 S) (i : Nat) (e : TypeId) (cs : List D) (arr : Array Value) (hl : arr.size = cs.length)
    (hr : ∀ j, j < cs.length → RepD (lfs T) S (cs.getD j .undef) (arr.getD j undef) ∧ (arr.getD j undef).oneCell' = true) :
    ∃ S', S'.w = S.w.alloc (.cells arr e) ∧ Rel (lfs T) (Abs.newLoc i (.cells (cs.map (scrubD i))) st) H a S' ∧ Inv S0 S' ∧ RepD (lfs T) S' (.ptr (.loc i) 0) (.pointer (some ⟨S.w.heap.size, 0, none⟩)) := by
  have hw := alloc_old S.w (.cells arr e)
  obtain ⟨h1, h2⟩ := Rel.newLoc hrel hinv i (.cells (cs.map (scrubD i))) (some (S.w.heap.size, 0)) (S.w.alloc (.cells arr e)) (by rw [alloc_size]; omega) hw rfl rfl rfl
    (fun x hx => by cases hx; exact ⟨Nat.le_refl _, by rw [alloc_size]; exact Nat.lt_succ_self _⟩)
    ⟨S.w.heap.size, 0, e, arr, rfl, alloc_new _ _, by simpa using hl, fun j hj => by
      have hj' : j < cs.length := by simpa using hj
      rw [getD_map_scrub]
      exact ⟨newSig_repD hrel.wf hw (hr j hj').1, (hr j hj').2⟩⟩
  refine ⟨_, rfl, h1, h2, .ptr _ _ _ ⟨trivial, rfl⟩ fun bc h3 h4 => ?_⟩
  rcases newSig_obj hrel.wf i (.cells (cs.map (scrubD i))) (some (S.w.heap.size, 0)) (S.w.alloc (.cells arr e)) (.loc i) with ⟨_, _, _, h6⟩ | ⟨h5, _, h6⟩ | ⟨⟨k, hk⟩, _⟩
  · rw [h6] at h4; cases h4; rfl
  · rw [h6] at h4
    have := h5 rfl
    have h7 : S.la.getD i none = none := by
      rw [List.getD_eq_getElem?_getD, List.getElem?_eq_none (by rw [hrel.wf.lalen]; omega)]; rfl
    rw [show S.blk (.loc i) = none from h7] at h4
    cases h4
  · cases hk
theorem Rel.newRow (hrel : Rel (lfs T) st H a S) (hinv : Inv S0 S) (i : Nat) (e : TypeId) :
    Rel (lfs T) (Abs.newLoc i (.row e []) st) H a (newSig S i (.row e []) none S.w) ∧ Inv S0 (newSig S i (.row e []) none S.w) ∧ RepD (lfs T) (newSig S i (.row e []) none S.w) (.osl (.loc i) 0) (.slice none 0 0) := by
  obtain ⟨h1, h2⟩ := Rel.newLoc hrel hinv i (.row e []) none S.w (Nat.le_refl _) (fun _ _ => rfl) rfl rfl rfl (fun x hx => by cases hx) (.inl ⟨rfl, rfl⟩)
  refine ⟨h1, h2, .osl _ _ _ ⟨trivial, rfl⟩ fun e' xs h3 => ⟨Nat.zero_le _, fun _ => ?_⟩⟩
  rcases newSig_obj hrel.wf i (.row e []) none S.w (.loc i) with ⟨_, _, _, h6⟩ | ⟨h5, _, h6⟩ | ⟨⟨k, hk⟩, _⟩
  · rw [h6]; rfl
  · have := h5 rfl
    have h7 : S.la.getD i none = none := by
      rw [List.getD_eq_getElem?_getD, List.getElem?_eq_none (by rw [hrel.wf.lalen]; omega)]; rfl
    rw [h6, show S.blk (.loc i) = none from h7]; rfl
  · cases hk
theorem Rel.drop (hrel : Rel (lfs T) st H a S) (hinv : Inv S0 S) (i : Nat) :
    Rel (lfs T) (Abs.newLoc i .dead st) H a (newSig S i .dead none S.w) ∧ Inv S0 (newSig S i .dead none S.w) :=
  Rel.newLoc hrel hinv i .dead none S.w (Nat.le_refl _) (fun _ _ => rfl) rfl rfl rfl (fun x hx => by cases hx) rfl
theorem zeroD_scrub (i : Nat) (k : K) : scrubD i (zeroD k) = zeroD k := by cases k <;> simp [zeroD, scrubD, D.names, D.anyR]
theorem scrub_plain {i : Nat} {d : D} (h : D.names i d = false) : scrubD i d = d := by simp [scrubD, h]
theorem ok_alloc (hT : TabOk P T) (e : TypeId) (d : Nat) (q : D → St → Heap → Prop) (ho : o.op = .alloc e) (hd : o.dst = some d) (hn : 0 < (T.get e).lf.length) (hrel : Rel (lfs T) st H a S) (hinv : Inv S0 S)
    (h : q (.ptr (.loc d) 0) (newLoc d (.cells ((T.get e).lf.map zeroD)) st) H) : OpOk P T S0 o a S q := by
  intro next Q hnext
  obtain ⟨hok, ht⟩ := hT.get hn
  obtain ⟨z, hz, hzs, hzr⟩ := hok.zero
  have hz' := hz S.w
  rw [ht] at hz'
  obtain ⟨S', hw, h1, h2, h3⟩ := Rel.newCells hrel hinv d e ((T.get e).lf.map zeroD) z.cells (by simpa using hzs) (fun j hj => by
    have hj' : j < (T.get e).lf.length := by simpa using hj
    have := hzr (lfs T) S j hj'
    rw [show ((T.get e).lf.map zeroD).getD j .undef = zeroD ((T.get e).lf.getD j .oth) from by
      simp [List.getD_eq_getElem?_getD, List.getElem?_map, List.getElem?_eq_getElem hj']]
    exact this)
  rw [show ((T.get e).lf.map zeroD).map (scrubD d) = (T.get e).lf.map zeroD from by simp [List.map_map, Function.comp_def, zeroD_scrub]] at h1
  unfold Oper.wp
  have hrun : (execOp a.eval o).run P S.w = .ok (.value (.pointer (some ⟨S.w.heap.size, 0, none⟩))) (S.w.alloc (.cells z.cells e)) := by
    simp only [execOp, ho, Instr.alloc, Sem.run_bind, hz', Result.andThen_ok]
    rfl
  rw [hrun, ← hw]
  exact hnext _ _ _ H S' h h1 h2 h3
theorem ok_box (hT : TabOk P T) (e : TypeId) (x : Operand) (d : Nat) (q : D → St → Heap → Prop) (ho : o.op = .box e x) (hrel : Rel (lfs T) st H a S) (hinv : Inv S0 S)
    (hx1 : (st.eval x).cells.all D.isCell = true)
    (h : q (.ptr (.loc d) 0) (newLoc d (.cells ((st.eval x).cells.map (scrubD d))) st) H) : OpOk P T S0 o a S q := by
  intro next Q hnext
  obtain ⟨h1, h2⟩ := (hrel.eval x).cells hx1
  obtain ⟨S', hw, h3, h4, h5⟩ := Rel.newCells hrel hinv d e (st.eval x).cells (a.eval x).cells h1 h2
  unfold Oper.wp
  have hrun : (execOp a.eval o).run P S.w = .ok (.value (.pointer (some ⟨S.w.heap.size, 0, none⟩))) (S.w.alloc (.cells (a.eval x).cells e)) := by
    simp only [execOp, ho, Instr.box]
    rfl
  rw [hrun, ← hw]
  exact hnext _ _ _ H S' h h3 h4 h5
mutual
theorem anyR_false : ∀ (d : D), D.anyR (fun _ => false) d = false
  | .v _ _ => rfl | .nil => rfl | .ptr _ _ => rfl | .elt _ _ _ => rfl | .relt _ _ _ _ _ => rfl | .osl _ _ => rfl | .mp _ => rfl | .skip => rfl | .undef => rfl
  | .agg cs => anyL_false cs
  | .tup cs => anyL_false cs
  | .fn _ cs => anyL_false cs
theorem anyL_false : ∀ (l : List D), D.anyL (fun _ => false) l = false
  | [] => rfl
  | d :: r => by simp only [D.anyL, anyR_false d, anyL_false r]
end
def Sig.upd (S : Sig) (r : Ref) (ob : Obj) (bc : Option (Nat × Nat)) (w' : World) : Sig :=
  match r with
  | .loc i => { S with w := w', L := S.L.set i ob, la := S.la.set i bc }
  | .own i => { S with w := w', H := S.H.set i ob, mu := S.mu.set i bc }
theorem Sig.upd_len (S : Sig) (r : Ref) (ob : Obj) (bc : Option (Nat × Nat)) (w' : World) : (S.upd r ob bc w').H.length = S.H.length := by cases r <;> simp [Sig.upd]
def Sig.has (S : Sig) : Ref → Prop
  | .loc i => i < S.L.length
  | .own i => i < S.H.length
theorem Sig.upd_w (S : Sig) (r : Ref) (ob : Obj) (bc : Option (Nat × Nat)) (w' : World) : (S.upd r ob bc w').w = w' := by cases r <;> rfl
theorem Sig.upd_F (S : Sig) (r : Ref) (ob : Obj) (bc : Option (Nat × Nat)) (w' : World) : (S.upd r ob bc w').F = S.F := by cases r <;> rfl
theorem Sig.upd_at (hwf : Wf (lfs T) S) {r : Ref} (hh : S.has r) (ob : Obj) (bc : Option (Nat × Nat)) (w' : World) : (S.upd r ob bc w').obj r = ob ∧ (S.upd r ob bc w').blk r = bc := by
  cases r with
  | loc i => exact ⟨by simp [Sig.upd, Sig.obj, set_getD_gen, show i < S.L.length from hh], by simp [Sig.upd, Sig.blk, set_getD_gen, hwf.lalen, show i < S.L.length from hh]⟩
  | own i => exact ⟨by simp [Sig.upd, Sig.obj, set_getD_gen, show i < S.H.length from hh], by simp [Sig.upd, Sig.blk, set_getD_gen, hwf.mulen, show i < S.H.length from hh]⟩
theorem Sig.upd_ne (S : Sig) {r r' : Ref} (h : r' ≠ r) (ob : Obj) (bc : Option (Nat × Nat)) (w' : World) : (S.upd r ob bc w').obj r' = S.obj r' ∧ (S.upd r ob bc w').blk r' = S.blk r' := by
  cases r with
  | loc i =>
    cases r' with
    | loc j =>
      have hj : ¬ (j = i ∧ i < S.L.length) := fun h2 => h (by rw [h2.1])
      have hj' : ¬ (j = i ∧ i < S.la.length) := fun h2 => h (by rw [h2.1])
      exact ⟨by show (S.L.set i ob).getD j .dead = S.L.getD j .dead; rw [set_getD_gen, if_neg hj], by show (S.la.set i bc).getD j none = S.la.getD j none; rw [set_getD_gen, if_neg hj']⟩
    | own j => exact ⟨rfl, rfl⟩
  | own i =>
    cases r' with
    | own j =>
      have hj : ¬ (j = i ∧ i < S.H.length) := fun h2 => h (by rw [h2.1])
      have hj' : ¬ (j = i ∧ i < S.mu.length) := fun h2 => h (by rw [h2.1])
      exact ⟨by show (S.H.set i ob).getD j .dead = S.H.getD j .dead; rw [set_getD_gen, if_neg hj], by show (S.mu.set i bc).getD j none = S.mu.getD j none; rw [set_getD_gen, if_neg hj']⟩
    | loc j => exact ⟨rfl, rfl⟩
def stSet (st : St) (r : Ref) (ob : Obj) : St := match r with | .loc i => ⟨st.tmps, st.loc.set i ob⟩ | .own _ => st
def hSet (H : Heap) (r : Ref) (ob : Obj) : Heap := match r with | .loc _ => H | .own i => H.set i ob
theorem Rel.upd (hrel : Rel (lfs T) st H a S) (hinv : Inv S0 S) (r : Ref) (ob : Obj) (bc : Option (Nat × Nat)) (w' : World) (hh : S.has r)
    (hsz : S.w.heap.size ≤ w'.heap.size) (hw : ∀ b, b < S.w.heap.size → (∀ x, S.blk r = some x → x.1 ≠ b) → w'.heap[b]? = S.w.heap[b]?) (hos : w'.os = S.w.os) (htape : w'.tape = S.w.tape) (hout : w'.output = S.w.output)
    (hbc : ∀ x, bc = some x → ((∃ y, S.blk r = some y ∧ x.1 = y.1) ∨ S.w.heap.size ≤ x.1) ∧ x.1 < w'.heap.size)
    (hkeep : Keep S (S.upd r ob bc w') r)
    (hown : ∀ i, r = .own i → ob.free)
    (hob : (∀ {d : D} {u : Value}, RepD (lfs T) S d u → RepD (lfs T) (S.upd r ob bc w') d u) → (∀ {k : K} {x : V} {u : Value}, RepK (lfs T) S.w S.F k x u → RepK (lfs T) w' S.F k x u) → ObjRep (lfs T) (S.upd r ob bc w') ob bc) :
    Rel (lfs T) (stSet st r ob) (hSet H r ob) a (S.upd r ob bc w') ∧ Inv S0 (S.upd r ob bc w') ∧ (∀ {d : D} {u : Value}, RepD (lfs T) S d u → RepD (lfs T) (S.upd r ob bc w') d u) := by
  have hwf := hrel.wf
  have hFw : ∀ b, S.F b → w'.heap[b]? = S.w.heap[b]? := fun b hb => hw b (hwf.frozen b hb).1 fun x hx => (hwf.frozen b hb).2 r x hx
  have keep : ∀ r', Keep S (S.upd r ob bc w') r' := fun r' => by
    by_cases h : r' = r
    · rw [h]; exact hkeep
    · obtain ⟨h1, h2⟩ := S.upd_ne h ob bc w'
      exact .refl h1 h2
  have mD : ∀ {d : D} {u : Value}, RepD (lfs T) S d u → RepD (lfs T) (S.upd r ob bc w') d u := fun {d u} h =>
    RepD.mono (S := S) (S' := S.upd r ob bc w') (Nat.le_of_eq (Sig.upd_len S r ob bc w').symm) (fun b hb => by rw [Sig.upd_F]; exact hb) (fun b hb => by rw [Sig.upd_w]; exact hFw b hb) (p := fun _ => false) (fun r' _ _ => keep r') (anyR_false d) h
  have mK : ∀ {k : K} {x : V} {u : Value}, RepK (lfs T) S.w S.F k x u → RepK (lfs T) w' S.F k x u := fun h => RepK.mono (w := S.w) (w' := w') (F := S.F) (F' := S.F) (fun _ h => h) hFw h
  have hsub : ∀ r' x, (S.upd r ob bc w').blk r' = some x → (r' = r ∧ bc = some x) ∨ (r' ≠ r ∧ S.blk r' = some x) := fun r' x hx => by
    by_cases h : r' = r
    · subst h
      exact .inl ⟨rfl, (S.upd_at hwf hh ob bc w').2 ▸ hx⟩
    · exact .inr ⟨h, (S.upd_ne h ob bc w').2 ▸ hx⟩
  refine ⟨⟨?_, ?_, ?_, hrel.defers, fun j => ?_, ?_⟩, ?_, mD⟩
  · cases r with
    | loc i => exact hrel.H
    | own i => show S.H.set i ob = H.set i ob; rw [hrel.H]
  · cases r with
    | loc i => show S.L.set i ob = st.loc.set i ob; rw [hrel.L]
    | own i => exact hrel.L
  · cases r <;> exact hrel.size
  · have : (stSet st r ob).tmps = st.tmps := by cases r <;> rfl
    rw [this]
    exact mD (hrel.rep j)
  · refine ⟨fun b hb => ?_, fun r1 r2 x1 x2 h1 h2 he => ?_, fun r1 x hx => ?_, fun r1 => ?_, fun i => ?_, ?_, ?_⟩
    · rw [Sig.upd_F] at hb
      rw [Sig.upd_w]
      have hlt := (hwf.frozen b hb).1
      refine ⟨Nat.lt_of_lt_of_le hlt hsz, fun r1 x hx => ?_⟩
      rcases hsub r1 x hx with ⟨_, h⟩ | ⟨_, h⟩
      · rcases (hbc x h).1 with ⟨y, hy, hxy⟩ | h3
        · rw [hxy]; exact (hwf.frozen b hb).2 r y hy
        · omega
      · exact (hwf.frozen b hb).2 r1 x h
    · rcases hsub r1 x1 h1 with ⟨e1, h1'⟩ | ⟨e1, h1'⟩ <;> rcases hsub r2 x2 h2 with ⟨e2, h2'⟩ | ⟨e2, h2'⟩
      · rw [e1, e2]
      · rcases (hbc x1 h1').1 with ⟨y, hy, hxy⟩ | h3
        · exact absurd (hwf.inj r2 r x2 y h2' hy (by omega)) e2
        · have := hwf.lt r2 x2 h2'; omega
      · rcases (hbc x2 h2').1 with ⟨y, hy, hxy⟩ | h3
        · exact absurd (hwf.inj r1 r x1 y h1' hy (by omega)) e1
        · have := hwf.lt r1 x1 h1'; omega
      · exact hwf.inj r1 r2 x1 x2 h1' h2' he
    · rw [Sig.upd_w]
      rcases hsub r1 x hx with ⟨_, h⟩ | ⟨_, h⟩
      · exact (hbc x h).2
      · exact Nat.lt_of_lt_of_le (hwf.lt r1 x h) hsz
    · by_cases h : r1 = r
      · subst h
        obtain ⟨h1, h2⟩ := S.upd_at hwf hh ob bc w'
        rw [h1, h2]
        exact hob mD mK
      · obtain ⟨h1, h2⟩ := S.upd_ne h ob bc w'
        rw [h1, h2]
        have hne : ∀ y, S.blk r1 = some y → w'.heap[y.1]? = S.w.heap[y.1]? := fun y hy => hw y.1 (hwf.lt r1 y hy) fun x hx he => h (hwf.inj r1 r y x hy hx he.symm)
        have := hwf.obj r1
        cases hr : S.obj r1 with
        | cells cs =>
          rw [hr] at this
          obtain ⟨b, c, e, arr, h3, h4, h5, h6⟩ := this
          exact ⟨b, c, e, arr, h3, by rw [Sig.upd_w, ← h4]; exact hne _ h3, h5, fun j hj => ⟨mD (h6 j hj).1, (h6 j hj).2⟩⟩
        | row e xs =>
          rw [hr] at this
          rcases this with h3 | ⟨b, c, arr, h3, h4, h5, h6, h7, h9, h8⟩
          · exact .inl h3
          · exact .inr ⟨b, c, arr, h3, by rw [Sig.upd_w, ← h4]; exact hne _ h3, h5, h6, h7, h9, fun x y hx hy => by rw [Sig.upd_w, Sig.upd_F]; exact mK (h8 x y hx hy)⟩
        | map m xs =>
          rw [hr] at this
          obtain ⟨b, c, clock, ents, us, h3, h4, h5, h6, h7, h8⟩ := this
          exact ⟨b, c, clock, ents, us, h3, by rw [Sig.upd_w, ← h4]; exact hne _ h3, h5, h6, h7, fun x y hx hy => by rw [Sig.upd_w, Sig.upd_F]; exact mK (h8 x y hx hy)⟩
        | iter m x n s =>
          rw [hr] at this
          obtain ⟨b, c, mb, h3, h4, h5, h6⟩ := this
          exact ⟨b, c, mb, h3, by rw [Sig.upd_w, ← h4]; exact hne _ h3, mD h5, h6⟩
        | dead => rw [hr] at this; exact this
    · cases r with
      | loc k => exact hwf.own i
      | own k =>
        show ((S.H.set k ob).getD i .dead).free
        rw [set_getD_gen]
        split
        · exact hown k rfl
        · exact hwf.own i
    · cases r with
      | loc k => exact hwf.mulen
      | own k => show (S.mu.set k bc).length = (S.H.set k ob).length; simp [hwf.mulen]
    · cases r with
      | loc k => show (S.la.set k bc).length = (S.L.set k ob).length; simp [hwf.lalen]
      | own k => exact hwf.lalen
  · have he := hinv.ext
    have hH : (S.upd r ob bc w').H.length = S.H.length := by cases r <;> simp [Sig.upd]
    refine ⟨⟨?_, ?_, ?_, ?_, fun b hb hn => ?_, fun b hb => ?_, fun b hb hF => ?_, ?_, fun k hk => (he.keep k hk).trans (keep _), fun k x hx => ?_⟩, fun k x hx => ?_⟩
    · rw [Sig.upd_w]; exact Nat.le_trans he.size hsz
    · rw [Sig.upd_w]; exact hos.trans he.os
    · rw [Sig.upd_w]; exact htape.trans he.tape
    · rw [Sig.upd_w]; exact hout.trans he.output
    · obtain ⟨h1, h2⟩ := he.block b hb hn
      rw [Sig.upd_w]
      refine ⟨(hw b (Nat.lt_of_lt_of_le hb he.size) fun x hx => ?_).trans h1, fun k x hx => ?_⟩
      · cases r with
        | loc k => have := hinv.loc k x hx; omega
        | own k => exact h2 k x hx
      · rcases hsub (.own k) x hx with ⟨e1, h⟩ | ⟨_, h⟩
        · rcases (hbc x h).1 with ⟨y, hy, hxy⟩ | h3
          · rw [hxy]; rw [← e1] at hy; exact h2 k y hy
          · have := he.size; omega
        · exact h2 k x h
    · rw [Sig.upd_F]; exact he.F b hb
    · rw [Sig.upd_F] at hF; exact he.Fnew b hb hF
    · rw [hH]; exact he.len
    · rcases hsub (.own k) x hx with ⟨e1, h⟩ | ⟨_, h⟩
      · rcases (hbc x h).1 with ⟨y, hy, hxy⟩ | h3
        · rw [← e1] at hy
          rcases he.fresh k y hy with ⟨z, h4, e2⟩ | h4
          · exact .inl ⟨z, h4, hxy.trans e2⟩
          · right; rw [hxy]; exact h4
        · exact .inr (Nat.le_trans he.size h3)
      · exact he.fresh k x h
    · rcases hsub (.loc k) x hx with ⟨e1, h⟩ | ⟨_, h⟩
      · rcases (hbc x h).1 with ⟨y, hy, hxy⟩ | h3
        · rw [hxy]; rw [← e1] at hy; exact hinv.loc k y hy
        · exact Nat.le_trans he.size h3
      · exact hinv.loc k x h
theorem setCells_length : ∀ (cs : List D) (off : Nat) (xs : List D), (setCells cs off xs).length = cs.length
  | cs, _, [] => rfl
  | cs, off, x :: r => by simp only [setCells]; rw [setCells_length]; simp
theorem setCells_getD : ∀ (xs cs : List D) (off j : Nat), off + xs.length ≤ cs.length → (setCells cs off xs).getD j .undef = if off ≤ j ∧ j < off + xs.length then xs.getD (j - off) .undef else cs.getD j .undef
  | [], cs, off, j, _ => by
    rw [if_neg (by rw [List.length_nil]; omega)]; simp [setCells]
  | x :: r, cs, off, j, h => by
    simp only [setCells]
    rw [setCells_getD r (cs.set off x) (off + 1) j (by simp at h ⊢; omega), set_getD_gen]
    by_cases h1 : j = off
    · subst h1
      rw [if_neg (by omega), if_pos ⟨rfl, by simp at h; omega⟩, if_pos (by simp)]
      simp
    · by_cases h2 : off + 1 ≤ j ∧ j < off + 1 + r.length
      · rw [if_pos h2, if_pos (by simp; omega)]
        rw [show j - off = (j - (off + 1)) + 1 from by omega]
        rfl
      · rw [if_neg h2, if_neg (fun h3 => h1 h3.1), if_neg (by simp; omega)]
theorem setRow_other (w : World) (g : Nat) (arr : Array Value) (b : Nat) (h : b ≠ g) : (w.setRow g arr).heap[b]? = w.heap[b]? := by
  simp only [World.setRow, Array.getElem?_modify]
  rw [if_neg (fun e => h e.symm)]
theorem setRow_size (w : World) (g : Nat) (arr : Array Value) : (w.setRow g arr).heap.size = w.heap.size := by simp [World.setRow]
def putCells (cur : Array Value) (off : Nat) (vs : List Value) : Array Value := (cur.toList.take off ++ vs ++ cur.toList.drop (off + vs.length)).toArray
theorem putCells_size (cur : Array Value) (off : Nat) (vs : List Value) (h : off + vs.length ≤ cur.size) : (putCells cur off vs).size = cur.size := by
  simp [putCells]; omega
theorem putCells_getD (cur : Array Value) (off : Nat) (vs : List Value) (h : off + vs.length ≤ cur.size) (j : Nat) :
    (putCells cur off vs).getD j undef = if off ≤ j ∧ j < off + vs.length then vs.getD (j - off) undef else cur.getD j undef := by
  have hl : (cur.toList.take off).length = off := by simp; omega
  simp only [putCells, Array.getD_eq_getD_getElem?, List.getElem?_toArray, List.getD_eq_getElem?_getD, List.append_assoc]
  by_cases h1 : j < off
  · rw [List.getElem?_append_left (by omega), if_neg (by omega), List.getElem?_take, if_pos h1]
    simp
  · rw [List.getElem?_append_right (by omega), hl]
    by_cases h2 : j < off + vs.length
    · rw [List.getElem?_append_left (by omega), if_pos ⟨by omega, h2⟩]
    · rw [List.getElem?_append_right (by omega), if_neg (by omega), List.getElem?_drop]
      rw [show off + vs.length + (j - off - vs.length) = j from by omega]
      simp
theorem run_storeBlock (hT : TabOk P T) {t : TypeId} {b off c' : Nat} {e : TypeId} {cur : Array Value} {v : Value} (hn : 0 < (T.get t).lf.length) (hh : S.w.heap[b]? = some (.cells cur e (0, 0)))
    (hl : v.cells.size = (T.get t).lf.length) (hle : off + (T.get t).lf.length ≤ cur.size) (h1 : ∀ j, j < (T.get t).lf.length → (v.cells.getD j undef).oneCell' = true) :
    (Instr.storeAt t (.pointer (some ⟨b, off, none⟩)) v).run P S.w = .ok () (S.w.setRow b (putCells cur off v.cells.toList)) := by
  obtain ⟨hok, ht⟩ := hT.get hn
  have hs := hok.size S.w
  rw [ht] at hs
  have hst := run_storeCells_at (P := P) b off e v.cells.toList 0 cur S.w hh (by simp; omega) (fun u hu => by
    obtain ⟨j, hj, rfl⟩ := List.getElem_of_mem hu
    have hj' : j < v.cells.size := by simpa using hj
    have := h1 j (by omega)
    rw [Array.getD_eq_getD_getElem?, Array.getElem?_eq_getElem hj'] at this
    simpa using this)
  rw [Nat.add_zero] at hst
  simp only [Instr.storeAt, Instr.sureAddr, storeVar, Sem.run_bind, hs, Result.andThen_ok, hl]
  simp [Sem.run, pure, hs, hl]
  exact hst
theorem ok_store_cells (hT : TabOk P T) (hrel : Rel (lfs T) st H a S) (hinv : Inv S0 S) (t : TypeId) (r : Ref) (off : Nat) (cs : List D) (x : D) (u v : Value) (hn : 0 < (T.get t).lf.length)
    (hl : x.cells.length = (T.get t).lf.length) (hc : x.cells.all D.isCell = true) (hob : S.obj r = .cells cs) (hle : off + (T.get t).lf.length ≤ cs.length)
    (hu : RepD (lfs T) S (.ptr r off) u) (hv : RepD (lfs T) S x v) (hown : ∀ i, r = .own i → D.localL (setCells cs off x.cells) = false) :
    ∃ S', (Instr.storeAt t u v).run P S.w = .ok () S'.w ∧ Rel (lfs T) (stSet st r (.cells (setCells cs off x.cells))) (hSet H r (.cells (setCells cs off x.cells))) a S' ∧ Inv S0 S' := by
  obtain ⟨b, c, e, arr, hb, hh, hsz, hrep⟩ := hrel.wf.cells hob
  obtain ⟨hv1, hv2⟩ := hv.cells hc
  have hu' := hu.ptr_inv hob hb
  subst hu'
  have hrun := run_storeBlock (S := S) (c' := 0) hT (t := t) (b := b) (off := off) (cur := arr) (v := v) hn hh (by omega) (by omega) (fun j hj => (hv2 j (by omega)).2)
  have hhas : S.has r := by
    cases r with
    | loc i =>
      show i < S.L.length
      by_cases hi : i < S.L.length
      · exact hi
      · have : S.obj (.loc i) = .dead := by simp [Sig.obj, List.getD_eq_getElem?_getD, List.getElem?_eq_none (by omega : S.L.length ≤ i)]
        rw [this] at hob; cases hob
    | own i =>
      show i < S.H.length
      by_cases hi : i < S.H.length
      · exact hi
      · have : S.obj (.own i) = .dead := by simp [Sig.obj, List.getD_eq_getElem?_getD, List.getElem?_eq_none (by omega : S.H.length ≤ i)]
        rw [this] at hob; cases hob
  have hvl : v.cells.toList.length = x.cells.length := by simpa using hv1
  obtain ⟨g1, g2, _⟩ := Rel.upd hrel hinv r (.cells (setCells cs off x.cells)) (some (b, c)) (S.w.setRow b (putCells arr off v.cells.toList)) hhas (by rw [setRow_size]; exact Nat.le_refl _)
    (fun b' _ hne => setRow_other _ _ _ _ (fun he => hne _ hb he.symm)) rfl rfl rfl
    (fun y hy => by cases hy; exact ⟨.inl ⟨_, hb, rfl⟩, by rw [setRow_size]; exact hrel.wf.lt r _ hb⟩)
    (by
      obtain ⟨h1, h2⟩ := S.upd_at hrel.wf hhas (.cells (setCells cs off x.cells)) (some (b, c)) (S.w.setRow b (putCells arr off v.cells.toList))
      exact ⟨fun bc h3 h4 => ⟨by rw [hob]; rfl, by rw [h2] at h4; rw [hb]; exact h4⟩, fun e' xs h3 => (by rw [h1] at h3; cases h3), fun e' xs h3 => (by rw [h1] at h3; cases h3)⟩)
    (fun i hi => hown i hi)
    (fun mD mK => ⟨b, c, e, putCells arr off v.cells.toList, rfl, by rw [Sig.upd_w]; exact Go.setRow_heap _ _ _ _ _ _ hh, by rw [putCells_size _ _ _ (by omega), setCells_length]; exact hsz, fun j hj => by
      rw [setCells_length] at hj
      rw [setCells_getD _ _ _ _ (by omega), putCells_getD _ _ _ (by omega), hvl]
      by_cases hj2 : off ≤ j ∧ j < off + x.cells.length
      · rw [if_pos hj2, if_pos hj2]
        obtain ⟨h1, h2⟩ := hv2 (j - off) (by omega)
        have e2 : v.cells.toList.getD (j - off) undef = v.cells.getD (j - off) undef := by simp [List.getD_eq_getElem?_getD, Array.getD_eq_getD_getElem?]
        rw [e2]
        exact ⟨mD h1, h2⟩
      · rw [if_neg hj2, if_neg hj2]
        exact ⟨mD (hrep j hj).1, (hrep j hj).2⟩⟩)
  exact ⟨_, by rw [Sig.upd_w]; exact hrun, g1, g2⟩
theorem skip_ok {o : Oper} {a : Act} {S : Sig} {S0 : Sig} {q : D → St → Heap → Prop} {st' : St} {H' : Heap} {S' : Sig} (hr : (execOp a.eval o).run P S.w = .ok .skip S'.w)
    (hrel : Rel (lfs T) st' H' a S') (hinv : Inv S0 S') (hq : q .skip st' H') : OpOk P T S0 o a S q := by
  intro next Q hn
  unfold Oper.wp
  rw [hr]
  exact hn .skip undef st' H' S' hq hrel hinv .skip
theorem setV_length : ∀ (cs : List V) (off : Nat) (xs : List V), (setV cs off xs).length = cs.length
  | cs, _, [] => rfl
  | cs, off, x :: r => by simp only [setV]; rw [setV_length]; simp
theorem setV_getD : ∀ (xs cs : List V) (off j : Nat), off + xs.length ≤ cs.length → (setV cs off xs).getD j V.none = if off ≤ j ∧ j < off + xs.length then xs.getD (j - off) V.none else cs.getD j V.none
  | [], cs, off, j, _ => by
    rw [if_neg (by rw [List.length_nil]; omega)]; simp [setV]
  | x :: r, cs, off, j, h => by
    simp only [setV]
    rw [setV_getD r (cs.set off x) (off + 1) j (by simp at h ⊢; omega), set_getD_gen]
    by_cases h1 : j = off
    · subst h1
      rw [if_neg (by omega), if_pos ⟨rfl, by simp at h; omega⟩, if_pos (by simp)]
      simp
    · by_cases h2 : off + 1 ≤ j ∧ j < off + 1 + r.length
      · rw [if_pos h2, if_pos (by simp; omega)]
        rw [show j - off = (j - (off + 1)) + 1 from by omega]
        rfl
      · rw [if_neg h2, if_neg (fun h3 => h1 h3.1), if_neg (by simp; omega)]
theorem Sig.has_of {S : Sig} {r : Ref} (h : S.obj r ≠ .dead) : S.has r := by
  cases r with
  | loc i =>
    show i < S.L.length
    by_cases hi : i < S.L.length
    · exact hi
    · exact absurd (by simp [Sig.obj, List.getD_eq_getElem?_getD, List.getElem?_eq_none (by omega : S.L.length ≤ i)]) h
  | own i =>
    show i < S.H.length
    by_cases hi : i < S.H.length
    · exact hi
    · exact absurd (by simp [Sig.obj, List.getD_eq_getElem?_getD, List.getElem?_eq_none (by omega : S.H.length ≤ i)]) h
theorem own_free {r : Ref} (l : List D) (h : D.localL l = false) : ∀ (off : Nat) (cs : List D), D.localL cs = false → D.localL (setCells cs off l) = false := by
  induction l with
  | nil => exact fun off cs h => h
  | cons d r ih =>
    intro off cs hcs
    simp only [setCells]
    have hd : D.anyR Ref.isLoc d = false ∧ D.localL r = false := by
      simp only [D.localL, D.anyL] at h
      cases hd : D.anyR Ref.isLoc d with
      | true => rw [hd] at h; cases h
      | false => rw [hd] at h; exact ⟨rfl, h⟩
    refine ih hd.2 _ _ ?_
    clear ih h
    induction cs generalizing off with
    | nil => exact hcs
    | cons c cs ih =>
      simp only [D.localL, D.anyL] at hcs ⊢
      cases hc : D.anyR Ref.isLoc c with
      | true => rw [hc] at hcs; cases hcs
      | false =>
        rw [hc] at hcs
        cases off with
        | zero => simp only [List.set_cons_zero, D.anyL, hd.1]; exact hcs
        | succ off => simp only [List.set_cons_succ, D.anyL, hc]; exact ih off hcs
theorem ok_store (hT : TabOk P T) (t : TypeId) (x y : Operand) (q : D → St → Heap → Prop) (ho : o.op = .store t x y) (hrel : Rel (lfs T) st H a S) (hinv : Inv S0 S)
    (h : evStore T t st H (st.eval x) (st.eval y) fun st H => q .skip st H) : OpOk P T S0 o a S q := by
  have hx := hrel.eval x
  have hy := hrel.eval y
  have fin : ∀ {st' : St} {H' : Heap} {S' : Sig}, (Instr.storeAt t (a.eval x) (a.eval y)).run P S.w = .ok () S'.w → Rel (lfs T) st' H' a S' → Inv S0 S' → q .skip st' H' → OpOk P T S0 o a S q := by
    intro st' H' S' hr h1 h2 hq
    refine skip_ok (S' := S') ?_ h1 h2 hq
    simp only [execOp, ho, Sem.run_bind, hr, Result.andThen_ok]
    rfl
  unfold evStore at h
  simp only at h
  split at h
  · exact h.elim
  · rename_i hc0
    obtain ⟨⟨hl, hn⟩, hc⟩ : ((st.eval y).cells.length = (T.get t).lf.length ∧ 0 < (T.get t).lf.length) ∧ (st.eval y).cells.all D.isCell = true := by simpa using hc0
    split at h
    · rename_i r off h1
      rw [h1] at hx
      split at h
      · rename_i cs h2
        split at h
        · rename_i hle0
          obtain ⟨hle, htk⟩ : off + (T.get t).lf.length ≤ cs.length ∧ r.takes (st.eval y).cells = true := by rw [Bool.and_eq_true] at hle0; exact ⟨by simpa using hle0.1, hle0.2⟩
          have hob : S.obj r = .cells cs := by rw [hrel.getO_obj]; exact h2
          obtain ⟨S', g1, g2, g3⟩ := ok_store_cells (P := P) hT hrel hinv t r off cs (st.eval y) _ _ hn hl hc hob hle hx hy (fun i hi => by
            subst hi
            have hfr := hrel.wf.own i
            have hob' : S.H.getD i .dead = .cells cs := hob
            rw [hob'] at hfr
            exact own_free (r := .own i) _ (by simpa [Ref.takes] using htk) off _ hfr)
          refine fin g1 g2 g3 ?_
          cases r <;> exact h
        · exact h.elim
      · exact h.elim
    · rename_i r e n' i off h1
      rw [h1] at hx
      split at h
      · rename_i ys hcl hle0
        have hle : off + (T.get t).lf.length ≤ (T.get e).lf.length := by simpa using hle0
        obtain ⟨xs, h2, h3, h4, h5⟩ := withRow_spec h
        have ho' : S.obj r = .row e xs := by rw [hrel.getO_obj]; exact h2
        obtain ⟨k1, k2, k3⟩ := closed_spec _ _ _ hcl
        rw [plainL_length] at k2
        rcases hrel.wf.row ho' with ⟨_, h0⟩ | ⟨b, c, arr, hb, hh, hsz, hxc, hcm, hlen, hrep⟩
        · rw [h0] at h3; simp at h3; omega
        · obtain ⟨hv1, hv2⟩ := hy.cells hc
          have hu' : a.eval x = .pointer (some ⟨b, i * (T.get e).lf.length + off, none⟩) := by
            generalize a.eval x = u at hx
            cases hx with
            | relt _ _ _ _ _ _ _ hu => exact (hu e _ ho').2 h3.symm _ hb
          have hmul : i * (T.get e).lf.length + (T.get e).lf.length ≤ arr.size := by
            have h7 := Nat.mul_le_mul_right (T.get e).lf.length (show i + 1 ≤ c by omega)
            rw [Nat.add_mul, Nat.one_mul] at h7
            rw [hsz]; exact h7
          have hrun := run_storeBlock (S := S) (c' := 0) hT (t := t) (b := b) (off := i * (T.get e).lf.length + off) (cur := arr) (v := a.eval y) hn hh (by omega) (by omega) (fun j hj => (hv2 j (by omega)).2)
          have hhas : S.has r := Sig.has_of (by rw [ho']; intro h; cases h)
          have hvl : (a.eval y).cells.toList.length = (T.get t).lf.length := by simp; omega
          obtain ⟨g1, g2, _⟩ := Rel.upd hrel hinv r (.row e (xs.set i (setV (xs.getD i []) off ys))) (some (b, c)) (S.w.setRow b (putCells arr (i * (T.get e).lf.length + off) (a.eval y).cells.toList)) hhas (by rw [setRow_size]; exact Nat.le_refl _)
            (fun b' _ hne => setRow_other _ _ _ _ (fun he => hne _ hb he.symm)) rfl rfl rfl
            (fun y hy => by cases hy; exact ⟨.inl ⟨_, hb, rfl⟩, by rw [setRow_size]; exact hrel.wf.lt r _ hb⟩)
            (by
              obtain ⟨j1, j2⟩ := S.upd_at hrel.wf hhas (.row e (xs.set i (setV (xs.getD i []) off ys))) (some (b, c)) (S.w.setRow b (putCells arr (i * (T.get e).lf.length + off) (a.eval y).cells.toList))
              refine ⟨fun bc j3 j4 => ?_, fun e' xs' j3 => ?_, fun e' xs' j3 => (by rw [j1] at j3; cases j3)⟩
              · rw [j1] at j3; cases j3
              · rw [j1] at j3; cases j3
                exact ⟨xs, ho', by simp, fun _ => by rw [j2, hb]⟩)
            (fun i hi => trivial)
            (fun mD mK => .inr ⟨b, c, putCells arr (i * (T.get e).lf.length + off) (a.eval y).cells.toList, rfl, by rw [Sig.upd_w]; exact Go.setRow_heap _ _ _ _ _ _ hh, by rw [putCells_size _ _ _ (by omega)]; exact hsz, by simpa using hxc, hcm, fun i' hi' => by
              rw [set_getD_gen]
              split
              · rw [setV_length]; exact hlen i (by omega)
              · exact hlen i' (by simpa using hi'), fun i' j hi' hj => by
              rw [Sig.upd_w, Sig.upd_F]
              have hi'' : i' < xs.length := by simpa using hi'
              have hj2 : j < (T.get e).lf.length := hj
              have hold := hrep i' j hi'' hj
              rw [putCells_getD _ _ _ (by omega), hvl, set_getD_gen]
              by_cases hii : i' = i
              · subst hii
                have hli := hlen i' hi''
                simp only [lfs] at hli
                rw [if_pos ⟨rfl, hi''⟩, setV_getD _ _ _ _ (by rw [k1, List.length_take, List.length_drop]; omega), k1, List.length_take, List.length_drop]
                have hmin : min (T.get t).lf.length ((T.get e).lf.length - off) = (T.get t).lf.length := by omega
                rw [hmin]
                by_cases hj3 : off ≤ j ∧ j < off + (T.get t).lf.length
                · rw [if_pos hj3, if_pos (by simp only [lfs]; omega)]
                  have e3 : i' * (lfs T e).length + j - (i' * (T.get e).lf.length + off) = j - off := by simp only [lfs]; omega
                  rw [e3]
                  have hlt3 : j - off < (T.get t).lf.length := by omega
                  obtain ⟨q1, q2⟩ := hv2 (j - off) (by omega)
                  have e2 : (a.eval y).cells.toList.getD (j - off) undef = (a.eval y).cells.getD (j - off) undef := by simp [List.getD_eq_getElem?_getD, Array.getD_eq_getD_getElem?]
                  rw [e2]
                  have q3 := k3 (j - off) (by rw [List.length_take, List.length_drop]; omega)
                  have q1 := plain_rep (k := (((T.get e).lf.drop off).take (T.get t).lf.length).getD (j - off) .oth) q1
                  rw [← plainL_getD _ _ _ (by rw [List.length_take, List.length_drop]; omega) (by omega)] at q1
                  rw [q3] at q1
                  rw [getD_take _ _ _ _ hlt3, getD_drop, show off + (j - off) = j from by omega] at q1
                  cases q1 with
                  | v _ _ _ q1 => exact mK q1
                · rw [if_neg hj3, if_neg (by simp only [lfs]; omega)]
                  exact mK hold
              · rw [if_neg (fun h => hii h.1)]
                have hne : ¬ (i * (lfs T e).length + off ≤ i' * (lfs T e).length + j ∧ i' * (lfs T e).length + j < i * (lfs T e).length + off + (T.get t).lf.length) := by
                  simp only [lfs]
                  rintro ⟨q1, q2⟩
                  rcases Nat.lt_or_gt_of_ne hii with hlt | hgt
                  · have := Nat.mul_le_mul_right (T.get e).lf.length (show i' + 1 ≤ i by omega)
                    rw [Nat.add_mul, Nat.one_mul] at this
                    omega
                  · have := Nat.mul_le_mul_right (T.get e).lf.length (show i + 1 ≤ i' by omega)
                    rw [Nat.add_mul, Nat.one_mul] at this
                    omega
                rw [if_neg hne]
                exact mK hold⟩)
          refine fin (S' := S.upd r (.row e (xs.set i (setV (xs.getD i []) off ys))) (some (b, c)) (S.w.setRow b (putCells arr (i * (T.get e).lf.length + off) (a.eval y).cells.toList))) (by rw [Sig.upd_w, hu']; exact hrun) g1 g2 ?_
          cases r <;> exact h5
      · exact h.elim
    · exact h.elim
end Go.Abs
