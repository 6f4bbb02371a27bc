/-
  Texts WalkR, WalkB, AbsS, SortA, AbsK, V0 of this proof, joined.
-/
import Derived.Shelf.Slices.Clone
import Derived.RangeFuncNested
import Derived.RangeFuncBound
import Derived.RangeFuncCalls
import Derived.RangeFuncLeaves
import Derived.Shelf.Abstract
import Derived.Shelf.RegionOpen
import Derived.WalkKit
import Derived.OwnWalkIn
import Derived.TacticsInMore
import Derived.LoopNIn
import Derived.LoopIn
import Derived.StillTail
import Derived.Shelf.Sort.Plain
import Derived.Shelf.Slices.In.SortNone
import Derived.Test.YtehchnjnbbnkbaaGreatP9
set_option linter.unusedVariables false
namespace Go.Proofs.YtehchnjnbbnkbaaGreat
open Go Go.Abs Go.Proofs Go.RowKit Go.Shelf
abbrev ops6 : Array Oper := #[
        { dst := some 22, op := Op.load 33 (Operand.tmp 8), type := 33, pos := "term.go:129", «after» := #[],
          guard := none },
        { dst := some 23, op := Op.move (Operand.tmp 1), type := 57, pos := "term.go:129", «after» := #[],
          guard := none },
        { dst := some 24,
          op := Op.call { callee := Callee.value (Operand.func 95), args := #[Operand.tmp 23], argTypes := #[57] },
          type := 57, pos := "term.go:129", «after» := #[{ on := 1, ground := Ground.data }], guard := none },
        { dst := some 25, op := Op.move (Operand.tmp 7), type := 3, pos := "term.go:129", «after» := #[], guard := none },
        { dst := some 26, op := Op.buildSlice 57 1 #[(0, Operand.tmp 25)], type := 57, pos := "term.go:129",
          «after» := #[{ on := 3, ground := Ground.data }], guard := none },
        { dst := some 27,
          op :=
            Op.call
              { callee := Callee.builtin Builtin.append, args := #[Operand.tmp 24, Operand.tmp 26],
                argTypes := #[57, 57] },
          type := 57, pos := "term.go:129",
          «after» :=
            #[{ on := 2, ground := Ground.data }, { on := 4, ground := Ground.data },
              { on := 2, ground := Ground.chain }],
          guard := none },
        { dst := some 28, op := Op.move (Operand.tmp 2), type := 121, pos := "term.go:129", «after» := #[],
          guard := none },
        { dst := some 29,
          op :=
            Op.call
              { callee := Callee.value (Operand.func 78), args := #[Operand.tmp 22, Operand.tmp 27, Operand.tmp 28],
                argTypes := #[33, 57, 121] },
          type := 4, pos := "term.go:129",
          «after» :=
            #[{ on := 0, ground := Ground.data }, { on := 5, ground := Ground.data },
              { on := 6, ground := Ground.data }, { on := 5, ground := Ground.chain }],
          guard := none },
        { dst := some 30, op := Op.unOp UnOp.not 4 (Operand.tmp 29), type := 4, pos := "term.go:129",
          «after» := #[{ on := 7, ground := Ground.data }], guard := none }]
def A6 (z : Nat → Value) (pv : Value) (l k bx : Nat) (x22 x23 x24 x25 x26 x27 x28 x29 x30 : Value) : Act :=
  { tmps := #[z 0, pv, .func (.yield l) #[] #[], z 3, z 4, z 5, z 6, .int .i64 k, .pointer (some ⟨bx, 0, none⟩), z 9, z 10, z 11, z 12, z 13, z 14, z 15, z 16, z 17, z 18, z 19, z 20, z 21, x22, x23, x24, x25, x26, x27, x28, x29, x30, z 31], defers := [] }
variable {Q : Exit → Act → World → Prop} {K : Act → World → Prop} {z : Nat → Value} {pv : Value} {l k bx : Nat} {x22 x23 x24 x25 x26 x27 x28 x29 x30 : Value} {w : World}
theorem wpOp_of {P : Program} {ops : Array Oper} {i : Nat} {o : Oper} {a : Act} (ho : ops[i]? = some o) (hg : o.guard = none) (h : o.wp P a w K Q) : wpOp P ops Q i K a w := by
  unfold wpOp
  rw [ho]
  show (if Region.wanted o (yielded ops a.tmps) then _ else _)
  rw [if_pos (by simp [Region.wanted, hg])]
  exact .inl h
theorem s0 {v0 v1 v2 : Value} (h0 : w.heap[bx]? = some (.cells #[v0, v1, v2] 33 (0, 0))) (h : K (A6 z pv l k bx (.agg #[v0, v1, v2]) x23 x24 x25 x26 x27 x28 x29 x30) w) :
    wpOp Tryz.prog ops6 Q 0 K (A6 z pv l k bx x22 x23 x24 x25 x26 x27 x28 x29 x30) w := by
  have c0 : w.cell? ⟨bx, 0, none⟩ = some v0 := by simp [World.cell?, h0]
  have c1 : w.cell? ⟨bx, 1, none⟩ = some v1 := by simp [World.cell?, h0]
  have c2 : w.cell? ⟨bx, 2, none⟩ = some v2 := by simp [World.cell?, h0]
  refine wpOp_of rfl rfl ?_
  unfold A6
  go_simp
  exact h
theorem s4 (h : ∀ g w', w.grownBy w' none → w.heap.size ≤ g → w'.heap[g]? = some (.cells #[.int .i64 k] 3 (0, 0)) → K (A6 z pv l k bx x22 x23 x24 (.int .i64 k) (.slice (some ⟨g, 0, none⟩) 1 1) x27 x28 x29 x30) w') :
    wpOp Tryz.prog ops6 Q 4 K (A6 z pv l k bx x22 x23 x24 (.int .i64 k) x26 x27 x28 x29 x30) w := by
  refine wpOp_of rfl rfl ?_
  unfold A6
  go_simp
  exact h _ _ (World.grownBy_alloc w _ none) (Nat.le_refl _) Array.getElem?_push_size
def IntRow (W : World) (base : Nat) (v : Value) (n : Nat) : Prop := ∃ zs : List Int, zs.length = n ∧ W.ownsRow base 3 1 v n (zs.map (Value.int .i64))
theorem clone_ok {n : Nat} (h : IntRow w 0 pv n) (hn : n ≤ 1099511627776) : Calls Tryz.prog 95 #[pv] w fun e w' => ∃ v', e = .returned v' ∧ IntRow w' w.heap.size v' n ∧ w.grownBy w' none := by
  obtain ⟨zs, hz, hl, hrow⟩ := h
  rcases hrow with ⟨rfl, rfl⟩ | ⟨g, cap, cur, rfl, _, hh, hnc, hcm, hsz, htake⟩
  · refine (Any.slices_Clone_int_nil laysNm215 0 0 w).mono ?_
    rintro e w' ⟨rfl, rfl⟩
    exact ⟨_, rfl, ⟨zs, hz, hl, .inl ⟨rfl, rfl⟩⟩, ⟨rfl, rfl, rfl, Nat.le_refl _, fun _ _ _ => rfl⟩⟩
  · refine (Any.slices_Clone_int laysNm215 g 0 n cap zs w (by omega) (by omega) fun j hj => ?_).mono ?_
    · have h1 : (cur.toList.take (n * 1))[j]? = some (Value.int .i64 (zs.getD j 0)) := by
        rw [htake, List.getElem?_map, List.getElem?_eq_getElem hj, List.getD_eq_getElem?_getD, List.getElem?_eq_getElem hj]; rfl
      rw [List.getElem?_take_of_lt (by omega)] at h1
      rw [Nat.zero_add]
      simpa [World.cell?, hh] using h1
    · rintro e w' ⟨v', rfl, ho, _, hB⟩
      refine ⟨v', rfl, ⟨zs.take n, by simp; omega, ho⟩, ⟨hB.os, hB.tape, hB.output, hB.size, fun b hb _ => hB.block b hb⟩⟩
theorem s2 {n : Nat} (hp : IntRow w 0 pv n) (hn : n ≤ 1099511627776) (h : ∀ v' w', w.grownBy w' none → IntRow w' w.heap.size v' n → K (A6 z pv l k bx x22 pv v' x25 x26 x27 x28 x29 x30) w') :
    wpOp Tryz.prog ops6 Q 2 K (A6 z pv l k bx x22 pv x24 x25 x26 x27 x28 x29 x30) w := by
  refine wpOp_of rfl rfl ?_
  unfold A6
  go_simp
  refine (clone_ok hp hn).mono ?_
  rintro e w' ⟨v', rfl, ho, hg⟩
  exact h v' w' hg ho
theorem info3 : (Tryz.prog.info? 3).map (fun i => (i.zero, i.size, i.bytes)) = some (some (.int .i64 0), 1, 8) := by kernel_rfl
theorem und57 : Tryz.prog.underlying 57 = some (.slice 3) := by kernel_rfl
theorem s5 {n g base : Nat} {v : Value} (hv : IntRow w base v n) (hn : n ≤ 1099511627776) (hg : w.heap[g]? = some (.cells #[.int .i64 k] 3 (0, 0))) (hb : base ≤ w.heap.size)
    (h : ∀ v' w', w.grownBy w' v.ownBlock → IntRow w' base v' (n + 1) → K (A6 z pv l k bx x22 x23 v x25 (.slice (some ⟨g, 0, none⟩) 1 1) v' x28 x29 x30) w') :
    wpOp Tryz.prog ops6 Q 5 K (A6 z pv l k bx x22 x23 v x25 (.slice (some ⟨g, 0, none⟩) 1 1) x27 x28 x29 x30) w := by
  obtain ⟨zs, hz, hown⟩ := hv
  obtain ⟨i0, hi, hz0, hz1, hz2⟩ := info_parts info3
  obtain ⟨v', w', hr, hown', hgr, _, _⟩ := run_append_own_at (P := Tryz.prog) (w := w) base 57 57 3 i0 (.int .i64 0) 1 8 und57 hi hz0 hz1 hz2 rfl (by decide) v n _ hown ⟨g, 0, none⟩ 1 1 [.int .i64 k] rfl (fun j u hj => by
      match j with
      | 0 => simp at hj; subst hj; simp [Addr.add, World.cell?, hg]
      | j + 1 => simp at hj) (by simp [Value.oneCell']) (by unfold maxLen; omega) (by omega) hb
  refine wpOp_of rfl rfl ?_
  have hx : (execOp (A6 z pv l k bx x22 x23 v x25 (.slice (some ⟨g, 0, none⟩) 1 1) x27 x28 x29 x30).eval ops6[5]).run Tryz.prog w = .ok (.value v') w' := by
    simp [execOp, resolve, invoke, builtin, hr, Result.andThen, A6, Act.eval]
  unfold Oper.wp
  rw [hx]
  exact h v' w' hgr ⟨zs ++ [(k : Int)], by simp [hz], by simpa using hown'⟩
theorem s7 (hc : Calls Tryz.prog 78 #[x22, x27, .func (.yield l) #[] #[]] w fun e w' => ∃ b : Bool, e = .returned (.bool b) ∧ Q .normal (A6 z pv l k bx x22 x23 x24 x25 x26 x27 (.func (.yield l) #[] #[]) (.bool b) (.bool !b)) w') :
    wpList Tryz.prog ops6 Q [ops6[7], ops6[8]] (A6 z pv l k bx x22 x23 x24 x25 x26 x27 (.func (.yield l) #[] #[]) x29 x30) w := by
  unfold A6
  go_wp2_with (go_at_call 78; refine hc.mono ?_; rintro e w' ⟨b, rfl, hK⟩)
  exact hK
theorem IntRow.grown {W W' : World} {base n : Nat} {v : Value} {row : Option Nat} (h : IntRow W base v n) (hg : W.grownBy W' row) (hb : ∀ b, v.ownBlock = some b → some b ≠ row) : IntRow W' base v n := by
  obtain ⟨zs, hz, hl, hr⟩ := h
  refine ⟨zs, hz, hl, ?_⟩
  rcases hr with hr | ⟨g, cap, cur, rfl, h1, hh, h2⟩
  · exact .inl hr
  · exact .inr ⟨g, cap, cur, rfl, h1, (hg.block g (Array.getElem?_eq_some_iff.1 hh).1 (hb g rfl)).trans hh, h2⟩
theorem IntRow.block {W : World} {base n : Nat} {v : Value} (h : IntRow W base v n) {b : Nat} (hb : v.ownBlock = some b) : base ≤ b ∧ b < W.heap.size := by
  obtain ⟨zs, hz, hl, hr⟩ := h
  rcases hr with ⟨rfl, _⟩ | ⟨g, cap, cur, rfl, h1, hh, h2⟩
  · cases hb
  · cases hb; exact ⟨h1, (Array.getElem?_eq_some_iff.1 hh).1⟩
theorem IntRow.base {W : World} {base base' n : Nat} {v : Value} (h : IntRow W base v n) (hb : base' ≤ base) : IntRow W base' v n := by
  obtain ⟨zs, hz, hl, hr⟩ := h
  refine ⟨zs, hz, hl, ?_⟩
  rcases hr with hr | ⟨g, cap, cur, rfl, h1, hh, h2⟩
  · exact .inl hr
  · exact .inr ⟨g, cap, cur, rfl, Nat.le_trans hb h1, hh, h2⟩
theorem draws {W : World} {n : Nat} {v0 v1 v2 : Value} (hbox : W.heap[bx]? = some (.cells #[v0, v1, v2] 33 (0, 0))) (hp : IntRow W 0 pv n) (hn : n ≤ 1099511627776)
    (fin : ∀ x24 x26 v' w, W.grownBy w none → IntRow w W.heap.size v' (n + 1) → Calls Tryz.prog 78 #[.agg #[v0, v1, v2], v', .func (.yield l) #[] #[]] w fun e w' => ∃ b : Bool, e = .returned (.bool b) ∧ Q .normal (A6 z pv l k bx (.agg #[v0, v1, v2]) pv x24 (.int .i64 k) x26 v' (.func (.yield l) #[] #[]) (.bool b) (.bool !b)) w') :
    wpAny Tryz.prog .any ops6 Q 6 #[false, true, false, true, false, false, true, false, false] (A6 z pv l k bx x22 pv x24 (.int .i64 k) x26 x27 (.func (.yield l) #[] #[]) x29 x30) W := by
  have g0 : W.grownBy W none := ⟨rfl, rfl, rfl, Nat.le_refl _, fun _ _ _ => rfl⟩
  have tr : ∀ {w w'}, W.grownBy w none → w.grownBy w' none → W.grownBy w' none := fun h h' => ⟨h'.os.trans h.os, h'.tape.trans h.tape, h'.output.trans h.output, Nat.le_trans h.size h'.size, fun b hb _ => (h'.block b (Nat.lt_of_lt_of_le hb h.size) (by simp)).trans (h.block b hb (by simp))⟩
  have tr2 : ∀ {w w' v}, W.grownBy w none → w.grownBy w' (Value.ownBlock v) → (∀ b, v.ownBlock = some b → W.heap.size ≤ b) → W.grownBy w' none := fun h h' hv => ⟨h'.os.trans h.os, h'.tape.trans h.tape, h'.output.trans h.output, Nat.le_trans h.size h'.size, fun b hb _ => (h'.block b (Nat.lt_of_lt_of_le hb h.size) (fun he => by have := hv b he.symm; omega)).trans (h.block b hb (by simp))⟩
  have box : ∀ {w}, W.grownBy w none → w.heap[bx]? = some (.cells #[v0, v1, v2] 33 (0, 0)) := fun h => (h.block bx (Array.getElem?_eq_some_iff.1 hbox).1 (by simp)).trans hbox
  have pos : ∀ {w}, W.grownBy w none → IntRow w 0 pv n := fun h => hp.grown h (by simp)
  have lit : ∀ {w w' : World} {g : Nat}, w.grownBy w' none → w.heap[g]? = some (.cells #[.int .i64 k] 3 (0, 0)) → w'.heap[g]? = some (.cells #[.int .i64 k] 3 (0, 0)) := fun h hg => (h.block _ (Array.getElem?_eq_some_iff.1 hg).1 (by simp)).trans hg
  have d1111 : ∀ x24 x26 v' w x29 x30, W.grownBy w none → IntRow w W.heap.size v' (n + 1) → wpAny Tryz.prog .any ops6 Q 2 #[true, true, true, true, true, true, true, false, false] (A6 z pv l k bx (.agg #[v0, v1, v2]) pv x24 (.int .i64 k) x26 v' (.func (.yield l) #[] #[]) x29 x30) w := fun x24 x26 v' w x29 x30 hg hv => by
    refine wpAny_of_seq [ops6[7], ops6[8]] 7 _ _ _ (fun j => ?_) (by kernel_rfl) (s7 (fin x24 x26 v' w hg hv))
    match j with
    | 0 => rfl
    | 1 => rfl
    | j + 2 =>
      have : ops6[7 + (j + 2)]? = none := Array.getElem?_eq_none (by show 9 ≤ _; omega)
      rw [this]; rfl
  have d0111 : ∀ x22 x24 x26 v' w x29 x30, W.grownBy w none → IntRow w W.heap.size v' (n + 1) → wpAny Tryz.prog .any ops6 Q 3 #[false, true, true, true, true, true, true, false, false] (A6 z pv l k bx x22 pv x24 (.int .i64 k) x26 v' (.func (.yield l) #[] #[]) x29 x30) w := fun x22 x24 x26 v' w x29 x30 hg hv => by
    refine wpAny_all (rs := [0]) (by kernel_rfl) (by simp) ?_
    simp only [List.forall_mem_cons, List.not_mem_nil, false_imp_iff, implies_true, and_true]
    exact s0 (box hg) (d1111 x24 x26 v' w x29 x30 hg hv)
  have d1110 : ∀ x24 g x27 w x29 x30, W.grownBy w none → IntRow w W.heap.size x24 n → w.heap[g]? = some (.cells #[.int .i64 k] 3 (0, 0)) → wpAny Tryz.prog .any ops6 Q 3 #[true, true, true, true, true, false, true, false, false] (A6 z pv l k bx (.agg #[v0, v1, v2]) pv x24 (.int .i64 k) (.slice (some ⟨g, 0, none⟩) 1 1) x27 (.func (.yield l) #[] #[]) x29 x30) w := fun x24 g x27 w x29 x30 hg hv hl => by
    refine wpAny_all (rs := [5]) (by kernel_rfl) (by simp) ?_
    simp only [List.forall_mem_cons, List.not_mem_nil, false_imp_iff, implies_true, and_true]
    exact s5 hv hn hl hg.size fun v' w' hgr hv' => d1111 _ _ v' w' _ _ (tr2 hg hgr fun b hb => (hv.block hb).1) hv'
  have d0110 : ∀ x22 x24 g x27 w x29 x30, W.grownBy w none → IntRow w W.heap.size x24 n → w.heap[g]? = some (.cells #[.int .i64 k] 3 (0, 0)) → wpAny Tryz.prog .any ops6 Q 4 #[false, true, true, true, true, false, true, false, false] (A6 z pv l k bx x22 pv x24 (.int .i64 k) (.slice (some ⟨g, 0, none⟩) 1 1) x27 (.func (.yield l) #[] #[]) x29 x30) w := fun x22 x24 g x27 w x29 x30 hg hv hl => by
    refine wpAny_all (rs := [0, 5]) (by kernel_rfl) (by simp) ?_
    simp only [List.forall_mem_cons, List.not_mem_nil, false_imp_iff, implies_true, and_true]
    exact ⟨s0 (box hg) (d1110 _ _ _ w _ _ hg hv hl), s5 hv hn hl hg.size fun v' w' hgr hv' => d0111 _ _ _ v' w' _ _ (tr2 hg hgr fun b hb => (hv.block hb).1) hv'⟩
  have d1100 : ∀ x24 x26 x27 w x29 x30, W.grownBy w none → IntRow w W.heap.size x24 n → wpAny Tryz.prog .any ops6 Q 4 #[true, true, true, true, false, false, true, false, false] (A6 z pv l k bx (.agg #[v0, v1, v2]) pv x24 (.int .i64 k) x26 x27 (.func (.yield l) #[] #[]) x29 x30) w := fun x24 x26 x27 w x29 x30 hg hv => by
    refine wpAny_all (rs := [4]) (by kernel_rfl) (by simp) ?_
    simp only [List.forall_mem_cons, List.not_mem_nil, false_imp_iff, implies_true, and_true]
    exact s4 fun g w' hgr _ hl => d1110 _ _ _ w' _ _ (tr hg hgr) (hv.grown hgr (by simp)) hl
  have d1010 : ∀ x24 g x27 w x29 x30, W.grownBy w none → w.heap[g]? = some (.cells #[.int .i64 k] 3 (0, 0)) → wpAny Tryz.prog .any ops6 Q 4 #[true, true, false, true, true, false, true, false, false] (A6 z pv l k bx (.agg #[v0, v1, v2]) pv x24 (.int .i64 k) (.slice (some ⟨g, 0, none⟩) 1 1) x27 (.func (.yield l) #[] #[]) x29 x30) w := fun x24 g x27 w x29 x30 hg hl => by
    refine wpAny_all (rs := [2]) (by kernel_rfl) (by simp) ?_
    simp only [List.forall_mem_cons, List.not_mem_nil, false_imp_iff, implies_true, and_true]
    exact s2 (pos hg) hn fun v' w' hgr hv => d1110 _ _ _ w' _ _ (tr hg hgr) (hv.base hg.size) (lit hgr hl)
  have d0100 : ∀ x22 x24 x26 x27 w x29 x30, W.grownBy w none → IntRow w W.heap.size x24 n → wpAny Tryz.prog .any ops6 Q 5 #[false, true, true, true, false, false, true, false, false] (A6 z pv l k bx x22 pv x24 (.int .i64 k) x26 x27 (.func (.yield l) #[] #[]) x29 x30) w := fun x22 x24 x26 x27 w x29 x30 hg hv => by
    refine wpAny_all (rs := [0, 4]) (by kernel_rfl) (by simp) ?_
    simp only [List.forall_mem_cons, List.not_mem_nil, false_imp_iff, implies_true, and_true]
    exact ⟨s0 (box hg) (d1100 _ _ _ w _ _ hg hv), s4 fun g w' hgr _ hl => d0110 _ _ _ _ w' _ _ (tr hg hgr) (hv.grown hgr (by simp)) hl⟩
  have d0010 : ∀ x22 x24 g x27 w x29 x30, W.grownBy w none → w.heap[g]? = some (.cells #[.int .i64 k] 3 (0, 0)) → wpAny Tryz.prog .any ops6 Q 5 #[false, true, false, true, true, false, true, false, false] (A6 z pv l k bx x22 pv x24 (.int .i64 k) (.slice (some ⟨g, 0, none⟩) 1 1) x27 (.func (.yield l) #[] #[]) x29 x30) w := fun x22 x24 g x27 w x29 x30 hg hl => by
    refine wpAny_all (rs := [0, 2]) (by kernel_rfl) (by simp) ?_
    simp only [List.forall_mem_cons, List.not_mem_nil, false_imp_iff, implies_true, and_true]
    exact ⟨s0 (box hg) (d1010 _ _ _ w _ _ hg hl), s2 (pos hg) hn fun v' w' hgr hv => d0110 _ _ _ _ w' _ _ (tr hg hgr) (hv.base hg.size) (lit hgr hl)⟩
  have d1000 : ∀ x24 x26 x27 w x29 x30, W.grownBy w none → wpAny Tryz.prog .any ops6 Q 5 #[true, true, false, true, false, false, true, false, false] (A6 z pv l k bx (.agg #[v0, v1, v2]) pv x24 (.int .i64 k) x26 x27 (.func (.yield l) #[] #[]) x29 x30) w := fun x24 x26 x27 w x29 x30 hg => by
    refine wpAny_all (rs := [2, 4]) (by kernel_rfl) (by simp) ?_
    simp only [List.forall_mem_cons, List.not_mem_nil, false_imp_iff, implies_true, and_true]
    exact ⟨s2 (pos hg) hn fun v' w' hgr hv => d1100 _ _ _ w' _ _ (tr hg hgr) (hv.base hg.size), s4 fun g w' hgr _ hl => d1010 _ _ _ w' _ _ (tr hg hgr) hl⟩
  refine wpAny_all (rs := [0, 2, 4]) (by kernel_rfl) (by simp) ?_
  simp only [List.forall_mem_cons, List.not_mem_nil, false_imp_iff, implies_true, and_true]
  exact ⟨s0 (box g0) (d1000 _ _ _ W _ _ g0), s2 (pos g0) hn fun v' w' hgr hv => d0100 _ _ _ _ w' _ _ (tr g0 hgr) (hv.base g0.size), s4 fun g w' hgr _ hl => d0010 _ _ _ _ w' _ _ (tr g0 hgr) hl⟩
theorem draws9 {W : World} {n : Nat} {v0 v1 v2 : Value} (hQ : ∀ c a w, ¬ Q (.panic c) a w) (hbox : W.heap[bx]? = some (.cells #[v0, v1, v2] 33 (0, 0))) (hp : IntRow W 0 pv n) (hn : n ≤ 1099511627776)
    (fin : ∀ x24 x26 v' w, W.grownBy w none → IntRow w W.heap.size v' (n + 1) → Calls Tryz.prog 78 #[.agg #[v0, v1, v2], v', .func (.yield l) #[] #[]] w fun e w' => ∃ b : Bool, e = .returned (.bool b) ∧ Q .normal (A6 z pv l k bx (.agg #[v0, v1, v2]) pv x24 (.int .i64 k) x26 v' (.func (.yield l) #[] #[]) (.bool b) (.bool !b)) w') :
    wpAny Tryz.prog .any ops6 Q ops6.size (Array.replicate ops6.size false) (A6 z pv l k bx x22 x23 x24 x25 x26 x27 x28 x29 x30) W := by
  refine wpAny_take (i := 1) (oi := ops6[1]) (v := pv) rfl (by kernel_rfl) (by kernel_rfl) (by kernel_rfl) (fun c a w h => absurd h (hQ _ _ _)) (.inl ⟨rfl, fun w => rfl⟩) ?_
  refine wpAny_take (i := 3) (oi := ops6[3]) (v := .int .i64 k) rfl (by kernel_rfl) (by kernel_rfl) (by kernel_rfl) (fun c a w h => absurd h (hQ _ _ _)) (.inl ⟨rfl, fun w => rfl⟩) ?_
  refine wpAny_take (i := 6) (oi := ops6[6]) (v := .func (.yield l) #[] #[]) rfl (by kernel_rfl) (by kernel_rfl) (by kernel_rfl) (fun c a w h => absurd h (hQ _ _ _)) (.inl ⟨rfl, fun w => rfl⟩) ?_
  exact draws hbox hp hn fin
end Go.Proofs.YtehchnjnbbnkbaaGreat
set_option linter.unusedVariables false
namespace Go.Proofs.YtehchnjnbbnkbaaGreat
open Go Go.Abs Go.Proofs Go.RowKit Go.Shelf
attribute [local go_sem] Oper.semAt_some
theorem IntRow.same {W W' : World} {base n : Nat} {v : Value} (h : IntRow W base v n) (hs : ∀ b, v.ownBlock = some b → W'.heap[b]? = W.heap[b]?) : IntRow W' base v n := by
  obtain ⟨zs, hz, hl, hr⟩ := h
  refine ⟨zs, hz, hl, ?_⟩
  rcases hr with hr | ⟨g, cap, cur, rfl, h1, hh, h2⟩
  · exact .inl hr
  · exact .inr ⟨g, cap, cur, rfl, h1, (hs g rfl).trans hh, h2⟩
theorem wrap_step (k m : Nat) (hk : k < m) (hm : m ≤ 1099511627776) : wrap64 ((k : Int) + 1) = ((k + 1 : Nat) : Int) ∧ m - (intOf (.int .i64 (wrap64 ((k : Int) + 1)))).toNat < m - (intOf (.int .i64 (k : Int))).toNat := by
  have h : wrap64 ((k : Int) + 1) = ((k + 1 : Nat) : Int) := by
    unfold wrap64
    omega
  refine ⟨h, ?_⟩
  rw [h]
  show m - ((k + 1 : Nat) : Int).toNat < m - ((k : Nat) : Int).toNat
  rw [Int.toNat_natCast, Int.toNat_natCast]
  omega
structure YEnv (S : Sig) (l : Nat) (J : List (List V) → (Nat → Prop) → World → Prop) (Jx : World → Prop) : Prop where
  at_ : ∀ xs R W, J xs R W → (∀ b, S.F b → W.heap[b]? = S.w.heap[b]?) ∧ ∀ b, R b → b < W.heap.size
  grow : ∀ xs R W W', J xs R W → W.grownBy W' none → J xs (fun b => R b ∨ (W.heap.size ≤ b ∧ b < W'.heap.size)) W'
  yield : ∀ xs x R W (args : List Value), J (x :: xs) R W → args.length = (rowA f_term_Walk_1 x).length → (∀ j, RepD (lfs tab) { S with w := W } ((rowA f_term_Walk_1 x).getD j .undef) (args.getD j undef)) →
    YieldAt Fence.wide 0 Tryz.prog l args.toArray W fun e W' => (e = .returned (.bool true) ∧ J xs R W' ∧ ∀ b, R b → W'.heap[b]? = W.heap[b]?) ∨ (e = .returned (.bool false) ∧ Jx W')
theorem RepD.at {S : Sig} {W : World} (hF : ∀ b, S.F b → W.heap[b]? = S.w.heap[b]?) {d : D} {v : Value} (h : RepD (lfs tab) S d v) : RepD (lfs tab) { S with w := W } d v :=
  RepD.mono (S := S) (S' := { S with w := W }) (Nat.le_refl _) (fun _ h => h) hF (p := fun _ => false) (fun r _ _ => .refl rfl rfl) (anyR_false d) h
theorem walk_row (x : Tm) : rowA f_term_Walk_1 x.enc = [.undef, tD x] := by rw [Tm.enc_eq]; rfl
theorem YEnv.at_yield {S : Sig} {l : Nat} {J : List (List V) → (Nat → Prop) → World → Prop} {Jx : World → Prop} (E : YEnv S l J Jx) {t : Tm} {xs : List (List V)} {R : Nat → Prop} {W : World} (hJ : J (t.enc :: xs) R W) {tv pv : Value} (ht : RepD (lfs tab) S (tD t) tv) :
    YieldAt Fence.wide 0 Tryz.prog l #[pv, tv] W fun e W' => (e = .returned (.bool true) ∧ J xs R W' ∧ ∀ b, R b → W'.heap[b]? = W.heap[b]?) ∨ (e = .returned (.bool false) ∧ Jx W') := by
  refine E.yield xs t.enc R W [pv, tv] hJ (by rw [walk_row]; rfl) fun j => ?_
  rw [walk_row]
  match j with
  | 0 => exact .undef _
  | 1 => exact RepD.at (E.at_ _ _ _ hJ).1 ht
  | j + 2 => exact .undef _
set_option maxRecDepth 100000 in
theorem walk_ok {S : Sig} {l : Nat} {J : List (List V) → (Nat → Prop) → World → Prop} {Jx : World → Prop} (E : YEnv S l J Jx) : ∀ (t : Tm) (rest : List (List V)) (R : Nat → Prop) (W : World) (tv pv : Value) (n : Nat),
    RepD (lfs tab) S (tD t) tv → IntRow W 0 pv n → (∀ b, pv.ownBlock = some b → R b) → n + t.size ≤ 1099511627776 → J ((t.pre.map Tm.enc) ++ rest) R W →
    CallsIn Fence.wide 0 Tryz.prog 78 #[tv, pv, .func (.yield l) #[] #[]] W fun e W' =>
      (e = .returned (.bool true) ∧ ∃ R' : Nat → Prop, (∀ b, R b → R' b) ∧ (∀ b, R b → W'.heap[b]? = W.heap[b]?) ∧ J rest R' W') ∨ (e = .returned (.bool false) ∧ Jx W') := by
  refine Tm.ind fun t ih => ?_
  intro rest R W tv pv n ht hp hpR hn hJ
  obtain ⟨u, rfl, hu, hs⟩ := tm_inv ht
  obtain ⟨a, c, rfl, harg⟩ := args_inv hu
  refine callsIn_of_wp Tryz.func78 rfl trivial ?_ rfl
  simp only [Tryz.ntmps78, List.size_toArray, List.length_cons, List.length_nil, Nat.reduceAdd, Nat.reduceSub, Array.replicate_succ, Array.replicate_zero, List.push_toArray, List.append_toArray, List.nil_append, List.cons_append]
  have hJ1 := E.grow _ _ _ _ hJ (World.grownBy_alloc W (.cells #[.string t.name, .bool t.var, .slice a t.args.length c] 33) none)
  rw [Tm.pre_eq] at hJ1
  obtain ⟨fn, tmps, assign, body, hy, hR⟩ := E.at_yield (t := t) (pv := pv) hJ1 ht
  gi_wp2
  refine ⟨rfl, hR.mono ?_⟩
  rintro e W2 (⟨rfl, hJ2, hk2⟩ | ⟨rfl, hx2⟩)
  rotate_left
  · gi_wp2
    go_ret
    exact .inr ⟨rfl, hx2⟩
  have hb2 : W2.heap[W.heap.size]? = some (.cells #[.string t.name, .bool t.var, .slice a t.args.length c] 33 (0, 0)) := by
    rw [hk2 _ (.inr ⟨Nat.le_refl _, by simp⟩)]
    exact Array.getElem?_push_size
  have hc2 : W2.cell? ⟨W.heap.size, 2, none⟩ = some (.slice a t.args.length c) := by simp [World.cell?, hb2]
  gi_wp2
  gi_loopw [17] (fun i wr => ∃ (k : Nat) (R' : Nat → Prop), i = .int .i64 k ∧ k ≤ t.args.length ∧ (∀ b, R b → R' b) ∧ R' W.heap.size ∧ (∀ b, (R b ∨ b = W.heap.size) → wr.heap[b]? = W2.heap[b]?) ∧ J ((Tm.preL (t.args.drop k)).map Tm.enc ++ rest) R' wr) (fun i wr => t.args.length - (intOf i).toNat)
  case atStart =>
    exact ⟨0, _, rfl, Nat.zero_le _, fun b h => .inl h, .inr ⟨Nat.le_refl _, by simp⟩, fun _ _ => rfl, hJ2⟩
  case round =>
    obtain ⟨k, R', rfl, hk, hR', hbox, hold, hJk⟩ := hrel
    by_cases hlt : k < t.args.length
    · rcases harg with hnil | ⟨b, off, us, rfl, hFb, hcells⟩
      · rw [hnil] at hlt; simp at hlt
      obtain ⟨hcell, hta⟩ := hcells k hlt
      have hold2 : wr.heap[b]? = S.w.heap[b]? := (E.at_ _ _ _ hJk).1 b hFb
      have hcw : ∀ j, j < 3 → wr.cell? ⟨b, off + (k * 3 + j), none⟩ = some (us k j) := fun j hj => by
        rw [← hcell j hj]; exact World.cell?_of_block hold2
      have q0 := hcw 0 (by omega)
      have q1 := hcw 1 (by omega)
      have q2 := hcw 2 (by omega)
      rw [Nat.add_zero] at q0
      rw [← Nat.add_assoc] at q1 q2
      obtain ⟨u', he, hu', _⟩ := tm_inv hta
      obtain ⟨a', c', rfl, _⟩ := args_inv hu'
      obtain ⟨g0, g1, g2⟩ : us k 0 = .string t.args[k].name ∧ us k 1 = .bool t.args[k].var ∧ us k 2 = .slice a' t.args[k].args.length c' := by
        simpa using he
      rw [g0] at q0
      rw [g1] at q1
      rw [g2] at q2
      rw [he] at hta
      have hin : t.args[k] ∈ t.args := List.getElem_mem hlt
      have hsub : t.args[k].size < t.size := Tm.size_mem hin
      have ihk := ih _ hin
      have hdrop : t.args.drop k = t.args[k] :: t.args.drop (k + 1) := List.drop_eq_getElem_cons hlt
      rw [hdrop] at hJk
      generalize t.args[k] = s at q0 q1 q2 hta hsub ihk hJk
      gi_wp2
      have hg3 := World.grownBy_alloc wr (.cells #[.string s.name, .bool s.var, .slice a' s.args.length c'] 33) none
      have hb3 : (wr.alloc (.cells #[.string s.name, .bool s.var, .slice a' s.args.length c'] 33)).heap[wr.heap.size]? = some (.cells #[.string s.name, .bool s.var, .slice a' s.args.length c'] 33 (0, 0)) := Array.getElem?_push_size
      generalize wr.alloc (.cells #[.string s.name, .bool s.var, .slice a' s.args.length c'] 33) = W3 at hg3 hb3 ⊢
      have hs3 : wr.heap.size < W3.heap.size := (Array.getElem?_eq_some_iff.1 hb3).1
      have old : ∀ b, (R b ∨ b = W.heap.size) → wr.heap[b]? = W2.heap[b]? := hold
      have hpw : IntRow wr 0 pv n := hp.same fun b hb => (hold b (.inl (hpR b hb))).trans ((hk2 b (.inl (hpR b hb))).trans ((World.grownBy_alloc W _ none).block b ((E.at_ _ _ _ hJ).2 b (hpR b hb)) (by simp)))
      refine wpIn_region_any (by kernel_rfl) ?_
      refine anyIn (ro := none) ?_ (.inl rfl) _ _ _ _ ?_
      · rintro ⟨a, w, h⟩
        rcases h with ⟨h, _⟩ | ⟨h, _⟩ <;> cases h
      have hgd : wr.grownBy { W3 with drawn := W3.drawn + 1 } none := ⟨hg3.os, hg3.tape, hg3.output, hg3.size, hg3.block⟩
      have hbd : ({ W3 with drawn := W3.drawn + 1 } : World).heap[wr.heap.size]? = some (.cells #[.string s.name, .bool s.var, .slice a' s.args.length c'] 33 (0, 0)) := hb3
      generalize ({ W3 with drawn := W3.drawn + 1 } : World) = Wd at hgd hbd ⊢
      refine draws9 (n := n) (z := fun j => match j with
        | 0 => .agg #[.string t.name, .bool t.var, .slice (some ⟨b, off, none⟩) t.args.length c]
        | 3 => .pointer (some ⟨W.heap.size, 0, none⟩)
        | 6 => u6
        | 9 => .func (.yield l) #[] #[]
        | 10 => pv
        | 11 => .agg #[.string t.name, .bool t.var, .slice (some ⟨b, off, none⟩) t.args.length c]
        | 12 => .bool true
        | 13 => .bool false
        | 14 => .pointer (some ⟨W.heap.size, 2, none⟩)
        | 15 => .slice (some ⟨b, off, none⟩) t.args.length c
        | 16 => .int .i64 t.args.length
        | 17 => .int .i64 k
        | 18 => .bool true
        | 19 => .int .i64 k
        | 20 => .pointer (some ⟨b, off + k * 3, none⟩)
        | 21 => .agg #[.string s.name, .bool s.var, .slice a' s.args.length c']
        | 31 => u31
        | _ => undef) ?_ hbd (hpw.grown hgd (by simp)) (by omega) ?_
      · intro c a w h
        obtain ⟨_, h⟩ := h
        rcases h with ⟨h, _⟩ | ⟨h, _⟩ <;> cases h
      · intro x24 x26 v' w hgw hv'
        have hgr : wr.grownBy w none := ⟨hgw.os.trans hgd.os, hgw.tape.trans hgd.tape, hgw.output.trans hgd.output, Nat.le_trans hgd.size hgw.size, fun b hb _ => (hgw.block b (Nat.lt_of_lt_of_le hb hgd.size) (by simp)).trans (hgd.block b hb (by simp))⟩
        have hJw := E.grow _ _ _ _ hJk hgr
        have hJw2 : J (s.pre.map Tm.enc ++ ((Tm.preL (t.args.drop (k + 1))).map Tm.enc ++ rest)) (fun b => R' b ∨ (wr.heap.size ≤ b ∧ b < w.heap.size)) w := by
          simpa [Tm.preL, List.append_assoc] using hJw
        refine (callsIn_wide.1 (ihk _ _ _ _ v' (n + 1) hta (hv'.base (Nat.zero_le _)) (fun b hb => .inr ⟨Nat.le_trans hgd.size (hv'.block hb).1, (hv'.block hb).2⟩) (by omega) hJw2)).mono ?_
        rintro e w' (⟨rfl, R3, hR3, hk3, hJ3⟩ | ⟨rfl, hx3⟩)
        · refine ⟨true, rfl, ?_⟩
          unfold A6
          gi_wp2
          obtain ⟨hwrap, hms⟩ := wrap_step k t.args.length hlt (by have h1 := Tm.length_sizeL t.args; have h2 := Tm.size_eq t; omega)
          refine ⟨⟨k + 1, R3, by rw [hwrap], hlt, fun b hb => hR3 b (.inl (hR' b hb)), hR3 _ (.inl hbox), fun b hb => ?_, hJ3⟩, ?_⟩
          · have hbR' : R' b := by
              rcases hb with hb | rfl
              · exact hR' b hb
              · exact hbox
            exact (hk3 b (.inl hbR')).trans ((hgr.block b ((E.at_ _ _ _ hJk).2 b hbR') (by simp)).trans (hold b hb))
          · exact hms
        · refine ⟨false, rfl, ?_⟩
          unfold A6
          gi_wp2
          go_ret
          exact .inr ⟨rfl, hx3⟩
    · gi_wp2
      go_ret
      have hkl : k = t.args.length := by omega
      subst hkl
      refine .inl ⟨rfl, R', hR', fun b hb => (hold b (.inl hb)).trans ((hk2 b (.inl hb)).trans ?_), by simpa [Tm.preL] using hJk⟩
      have := (E.at_ _ _ _ hJ).2 b hb
      exact (World.grownBy_alloc W _ none).block b this (by simp)
set_option maxRecDepth 100000 in
theorem Walk_iter (t : Tm) (hn : t.size ≤ 1099511627776) : itA f_term_Walk_1 [.elt t_Term t.enc 0] (t.pre.map Tm.enc) := by
  intro S us hwf hlen hrep hany l J Jx hat hgrow hyield h0
  obtain ⟨u, rfl⟩ : ∃ u, us = [u] := by
    match us, hlen with
    | [u], _ => exact ⟨u, rfl⟩
  have hu : RepD (lfs tab) S (.elt t_Term t.enc 0) u := hrep 0
  have E : YEnv S l J Jx := ⟨hat, hgrow, fun xs x R W args h1 h2 h3 => hyield xs x R W args h1 h2 h3⟩
  obtain ⟨b, o, ws, rfl, hF, hc, hk⟩ : ∃ b o, ∃ ws : Nat → Value, u = .pointer (some ⟨b, o, none⟩) ∧ S.F b ∧ (∀ j, j < 3 → S.w.cell? ⟨b, o + j, none⟩ = some (ws j)) ∧ ∀ j, j < 3 → RepK (lfs tab) S.w S.F ([K.str, .bool, .sl t_Term].getD j .oth) (t.enc.getD j V.none) (ws j) := by
    cases hu with
    | elt e cs off b o us h1 h2 h3 =>
      rw [term_lf] at h2 h3
      exact ⟨b, o, us, rfl, h1, h2, h3⟩
  have ht : RepD (lfs tab) S (tD t) (.agg #[ws 0, ws 1, ws 2]) := by
    refine .agg _ [ws 0, ws 1, ws 2] rfl fun j => ?_
    match j with
    | 0 => exact .v _ _ _ (by have := hk 0 (by omega); rw [Tm.enc_eq] at this; exact this)
    | 1 => exact .v _ _ _ (by have := hk 1 (by omega); rw [Tm.enc_eq] at this; exact this)
    | 2 => exact .v _ _ _ (by have := hk 2 (by omega); rw [Tm.enc_eq] at this; exact this)
    | j + 3 => exact .undef _
  have c0 := hc 0 (by omega)
  have c1 := hc 1 (by omega)
  have c2 := hc 2 (by omega)
  rw [Nat.add_zero] at c0
  have hw := callsIn_wide.1 (walk_ok E t [] (fun _ => False) S.w _ (.slice none 0 0) 0 ht ⟨[], rfl, rfl, .inl ⟨rfl, rfl⟩⟩ (fun b h => by cases h) (by omega) (by rw [List.append_nil]; exact h0))
  show Calls Tryz.prog 77 #[.func (.yield l) #[] #[], .pointer (some ⟨b, o, none⟩)] S.w _
  go_enter Tryz.func77, Tryz.ntmps77
  go_wp2_with (go_at_call 78; refine hw.mono ?_; rintro e W' (⟨rfl, R', _, _, hJ'⟩ | ⟨rfl, hx⟩))
  · go_end0
    exact ⟨⟨_, rfl⟩, .inl ⟨R', hJ'⟩⟩
  · go_end0
    exact ⟨⟨_, rfl⟩, .inr hx⟩
end Go.Proofs.YtehchnjnbbnkbaaGreat
set_option linter.unusedVariables false
set_option linter.unusedSimpArgs false
namespace Go.Abs
variable {P : Program} {lf : TypeId → List K}
def encV (l : List UInt8) : List V := [V.s ⟨l.toArray⟩]
theorem putCells_get {α : Type} [Inhabited α] (enc : α → Value) (d : Array α) (c : Array Value) (k : Nat) (hk : k < d.size) (hc : d.size ≤ c.size) : (Sort.putCells enc 0 d c).getD k undef = enc d[k]! := by
  unfold Sort.putCells
  rw [Array.getD_eq_getD_getElem?, Array.getElem?_mapIdx, Array.getElem?_eq_getElem (by omega)]
  simp [hk]
theorem acalls_sort {f : FuncId} {e : TypeId} (T : Tab) (he : lfs T e = [.str])
    (hsort : ∀ (blk off cap : Nat) (ss : List (List UInt8)) (w : World), Sort.Holds Proofs.encStr w blk off ss.toArray → blk < w.heap.size → ss.length < 4611686018427387904 → Calls P f #[.slice (some ⟨blk, off, none⟩) ss.length cap] w fun en w' => en = .returned (.tuple #[]) ∧ ∃ n os, w' = Sort.grow (Sort.putRow Proofs.encStr (Sort.ahead w n) blk off (ss.mergeSort fun x y => decide (x ≤ y)).toArray) os)
    (hnil : ∀ (p : Option Addr) (cap : Nat) (w : World), Calls P f #[.slice p 0 cap] w fun e w' => e = .returned (.tuple #[]) ∧ w' = w)
    (ss : List (List UInt8)) (n : Nat) (hn : n = ss.length) (hlim : n ≤ lim) {Q : D → Heap → Prop} (hQ : Q (.tup []) [.row e ((ss.mergeSort fun x y => decide (x ≤ y)).map encV)]) :
    ACalls P (lfs T) f [.osl (.own 0) n] [.row e (ss.map encV)] Q := by
  intro S vs hH hL hla hmks hwf hlen hrep hloc
  obtain ⟨u0, rfl⟩ : ∃ u0, vs = [u0] := by
    match vs, hlen with
    | [u0], _ => exact ⟨u0, rfl⟩
  have h0 : RepD (lfs T) S (.osl (.own 0) n) u0 := hrep 0
  have hobj : S.obj (.own 0) = .row e (ss.map encV) := by show S.H.getD 0 .dead = _; rw [hH]; rfl
  have e0 : u0 = rowVal n (S.blk (.own 0)) := by
    cases h0 with
    | osl _ _ _ _ h => exact (h e _ hobj).2 (by simp [hn])
  subst e0
  have hss : (ss.mergeSort fun x y => decide (x ≤ y)).length = ss.length := List.length_mergeSort _
  rcases hwf.row hobj with ⟨hb0, hxs0⟩ | ⟨b, c, arr, hb0, hheap, hsz, hnc, hcm, hxl, hrp⟩
  · have hs0 : ss = [] := by simpa using hxs0
    subst hs0
    rw [hb0]
    have hn0 : n = 0 := by simpa using hn
    subst hn0
    refine (hnil none 0 S.w).mono ?_
    rintro en w' ⟨rfl, rfl⟩
    refine ⟨_, .tup [], S, rfl, rfl, hL, hla, hmks, hwf, .tup [] [] rfl (repD_of_list rfl fun j hj => by simp at hj), rfl, Ext.refl S, ?_⟩
    rw [hH]
    simpa using hQ
  · rw [hb0]
    rw [he] at hsz hxl hrp
    have hnc' : ss.length ≤ c := by simpa using hnc
    have hblt : b < S.w.heap.size := hwf.lt (.own 0) (b, c) hb0
    have hcell : ∀ j, j < ss.length → arr.getD j undef = .string ⟨(ss[j]!).toArray⟩ ∧ (ByteArray.mk (ss[j]!).toArray).size ≤ big := fun j hj => by
      have h1 := hrp j 0 (by simpa using hj) (by simp)
      have h2 : ((ss.map encV).getD j []).getD 0 V.none = V.s ⟨(ss[j]!).toArray⟩ := by
        have e5 : (ss.map encV).getD j [] = encV ss[j]! := by
          rw [List.getD_eq_getElem?_getD, List.getElem?_map, List.getElem?_eq_getElem hj, getElem!_pos ss j hj]; rfl
        rw [e5]; rfl
      rw [h2] at h1
      simp only [List.length_singleton, Nat.mul_one, Nat.add_zero] at h1
      have h3 : (([K.str] : List K).getD 0 .oth) = .str := rfl
      rw [h3] at h1
      generalize arr.getD j undef = u at h1
      generalize hy : V.s ⟨(ss[j]!).toArray⟩ = y at h1
      cases h1 with
      | str x hx => subst hy; exact ⟨rfl, hx⟩
    have hH1 : Sort.Holds Proofs.encStr S.w b 0 ss.toArray := fun j hj => by
      have hj' : j < ss.length := by simpa using hj
      have hja : j < arr.size := by rw [hsz]; simp; omega
      refine ⟨?_, ?_⟩
      · rw [Nat.zero_add, cell_of hheap hja, (hcell j hj').1]
        simp [Proofs.encStr, getElem!_pos, hj']
      · simp [World.frozen?, hheap]
    rw [hn]
    refine (hsort b 0 c ss S.w hH1 hblt (by unfold lim at hlim; omega)).mono ?_
    rintro en w' ⟨rfl, k, os, rfl⟩
    have hin : ∀ x, x ∈ (ss.mergeSort fun x y => decide (x ≤ y)) → x ∈ ss := fun x hx => List.mem_mergeSort.1 hx
    generalize (ss.mergeSort fun x y => decide (x ≤ y)) = d at hQ hss hin
    have hheap' : ∀ i, i < S.w.heap.size → (Sort.grow (Sort.putRow Proofs.encStr (Sort.ahead S.w k) b 0 d.toArray) os).heap[i]? = if i = b then some (.cells (Sort.putCells Proofs.encStr 0 d.toArray arr) e (0, 0)) else S.w.heap[i]? := fun i hi => by
      simp only [Sort.grow, Sort.putRow, Sort.mapBlock, Sort.ahead]
      rw [Array.getElem?_append_left (by simpa using hi), Array.getElem?_modify]
      by_cases h : b = i
      · subst h; rw [if_pos rfl, if_pos rfl, hheap]; rfl
      · rw [if_neg h, if_neg (fun h' => h h'.symm)]
    generalize hw : Sort.grow (Sort.putRow Proofs.encStr (Sort.ahead S.w k) b 0 d.toArray) os = w' at hheap'
    have hwsz : S.w.heap.size ≤ w'.heap.size := by
      rw [← hw]; simp [Sort.grow, Sort.putRow, Sort.mapBlock, Sort.ahead]
    have hpsz : (Sort.putCells Proofs.encStr 0 d.toArray arr).size = arr.size := by simp [Sort.putCells]
    have hblkl : ∀ i, S.blk (.loc i) = none := fun i => by show S.la.getD i none = none; rw [hla]; rfl
    have hrel : Rel (lfs T) ⟨[], []⟩ S.H { tmps := #[], defers := [] } S := ⟨rfl, hL, rfl, by unfold marks; rw [hmks]; rfl, fun j => by
      show RepD _ S (([] : List D).getD j .undef) _
      rw [List.getD_nil]; exact .undef _, hwf⟩
    have hinv : Inv S S := ⟨Ext.refl S, fun i bc h => (by rw [hblkl] at h; cases h), fun d hd => by rw [hmks] at hd; cases hd⟩
    have hhas : S.has (.own 0) := by show 0 < S.H.length; rw [hH]; simp
    obtain ⟨j1, j2⟩ := S.upd_at hwf hhas (.row e (d.map encV)) (some (b, c)) w'
    obtain ⟨g1, g2, g3⟩ := Rel.upd hrel hinv (.own 0) (.row e (d.map encV)) (some (b, c)) w' hhas hwsz (fun i hi hne => by
        rw [hheap' i hi, if_neg (fun h => hne _ hb0 h.symm)]) (by rw [← hw]; rfl) (by rw [← hw]; rfl) (by rw [← hw]; rfl)
      (fun x hx => by
        cases hx
        exact ⟨.inl ⟨_, hb0, rfl⟩, Nat.lt_of_lt_of_le hblt hwsz⟩)
      (by
        refine ⟨fun bc j3 _ => ?_, fun e' xs' j3 => ?_, fun e' xs' j3 => (by rw [j1] at j3; cases j3)⟩
        · rw [j1] at j3; cases j3
        · rw [j1] at j3; cases j3
          exact ⟨ss.map encV, hobj, by simp [hss], fun _ => by rw [j2, hb0]⟩)
      (fun _ _ => trivial)
      (fun mD mK => .inr ⟨b, c, Sort.putCells Proofs.encStr 0 d.toArray arr, rfl, by rw [Sig.upd_w, hheap' b hblt, if_pos rfl], by rw [hpsz, he]; exact hsz, by simpa [hss] using hnc', hcm, fun i hi => by
          rw [he, List.getD_eq_getElem?_getD, List.getElem?_map, List.getElem?_eq_getElem (by simpa using hi)]; rfl,
        fun i j hi hj => by
          rw [Sig.upd_w, Sig.upd_F]
          rw [he] at hj ⊢
          have hi' : i < d.length := by simpa using hi
          have hj0 : j = 0 := by simpa using hj
          subst hj0
          have hmem : d[i] ∈ ss := hin _ (List.getElem_mem hi')
          obtain ⟨q, hq, hqe⟩ := List.mem_iff_getElem.1 hmem
          have hb := (hcell q hq).2
          rw [getElem!_pos ss q hq, hqe] at hb
          rw [show i * ([K.str] : List K).length + 0 = i by simp, putCells_get _ _ _ _ (by simpa using hi') (by rw [hsz]; simp; omega)]
          have e6 : (d.map encV).getD i [] = encV d[i] := by
            rw [List.getD_eq_getElem?_getD, List.getElem?_map, List.getElem?_eq_getElem hi']; rfl
          rw [e6]
          have : (encV d[i]).getD 0 V.none = V.s ⟨d[i].toArray⟩ := rfl
          rw [this]
          have e3 : Proofs.encStr d.toArray[i]! = .string (V.s ⟨d[i].toArray⟩).str := by
            simp [Proofs.encStr, getElem!_pos, hi', V.str]
          rw [e3]
          exact .str _ hb⟩)
    refine ⟨_, .tup [], S.upd (.own 0) (.row e (d.map encV)) (some (b, c)) w', rfl, Sig.upd_w _ _ _ _ _, hL, hla, hmks, g1.wf, .tup [] [] rfl (repD_of_list rfl fun j hj => by simp at hj), rfl, g2.ext, ?_⟩
    have : (S.upd (.own 0) (.row e (d.map encV)) (some (b, c)) w').H = [.row e (d.map encV)] := by show S.H.set 0 _ = _; rw [hH]; rfl
    rw [this]; exact hQ
end Go.Abs
set_option linter.unusedVariables false
namespace Go.Proofs.YtehchnjnbbnkbaaGreat
open Go Go.Abs
def bleL (x y : List UInt8) : Bool := decide (x ≤ y)
def sortL (l : List (List UInt8)) : List (List UInt8) := l.mergeSort bleL
def byL (l : List UInt8) : ByteArray := ⟨l.toArray⟩
theorem byL_data (x : ByteArray) : byL x.data.toList = x := by cases x; simp [byL]
theorem sort_len (l : List ByteArray) : (sortL (l.map fun x => x.data.toList)).length = l.length := by simp [sortL, List.length_mergeSort]
theorem slices_Sort_ok (l : List ByteArray) (n : Nat) (hn : n = l.length) (hlim : n ≤ lim) {Q : D → Heap → Prop}
    (hQ : Q (.tup []) [.row t_string ((sortL (l.map fun x => x.data.toList)).map fun x => [V.s (byL x)])]) : cl f_slices_Sort_string [.osl (.own 0) n] [.row t_string (l.map fun x => [V.s x])] Q := by
  have hQ' : Q (.tup []) [.row t_string (List.map encV ((l.map fun x => x.data.toList).mergeSort fun x y => decide (x ≤ y)))] := hQ
  have h := acalls_sort (f := f_slices_Sort_string) (e := t_string) tab (by kernel_rfl)
    (fun blk off cap ss w h1 h2 h3 => Any.slices_Sort_string lays190 blk off cap ss w h1 h2 h3) (fun p cap w => Any.slices_Sort_string_none lays190 p cap w)
    (l.map fun x => x.data.toList) n (by simp [hn]) hlim (Q := Q) hQ'
  have e : (l.map fun x => x.data.toList).map encV = l.map fun x => [V.s x] := by
    rw [List.map_map]
    refine List.map_congr_left fun x _ => ?_
    show [V.s (byL x.data.toList)] = _
    rw [byL_data]
  rw [e] at h
  exact h
end Go.Proofs.YtehchnjnbbnkbaaGreat
set_option linter.unusedVariables false
set_option linter.unusedSimpArgs false
namespace Go.Abs
inductive As : D → D → Prop
  | refl (d : D) : As d d
  | nil (e : TypeId) (x : V) : x.list = [] → As .nil (.v (.sl e) x)
  | agg (cs ds : List D) : cs.length = ds.length → (∀ j, As (cs.getD j .undef) (ds.getD j .undef)) → As (.agg cs) (.agg ds)
  | tup (cs ds : List D) : cs.length = ds.length → (∀ j, As (cs.getD j .undef) (ds.getD j .undef)) → As (.tup cs) (.tup ds)
theorem anyL_iff (p : Ref → Bool) : ∀ l : List D, D.anyL p l = false ↔ ∀ j, D.anyR p (l.getD j .undef) = false
  | [] => by simp [D.anyL, D.anyR]
  | d :: r => by
    have ih := anyL_iff p r
    constructor
    · intro h j
      unfold D.anyL at h
      cases hd : D.anyR p d with
      | true => rw [hd] at h; cases h
      | false =>
        rw [hd] at h
        cases j with
        | zero => exact hd
        | succ j => exact ih.1 h j
    · intro h
      have h0 : D.anyR p d = false := h 0
      unfold D.anyL
      rw [h0]
      exact ih.2 fun j => h (j + 1)
theorem As.rep {lf : TypeId → List K} {S : Sig} {d d' : D} (h : As d d') : ∀ v, RepD lf S d v → D.local d = false → RepD lf S d' v ∧ D.local d' = false := by
  induction h with
  | refl d => exact fun v h h' => ⟨h, h'⟩
  | nil e x hx =>
    intro v h _
    cases h
    exact ⟨.v _ _ _ (.sl0 e x none 0 hx), rfl⟩
  | agg cs ds hl _ ih =>
    intro v h hn
    have hn := (anyL_iff _ cs).1 hn
    cases h with
    | agg _ us h1 h2 => exact ⟨.agg ds us (hl ▸ h1) fun j => (ih j _ (h2 j) (hn j)).1, (anyL_iff _ ds).2 fun j => (ih j _ (h2 j) (hn j)).2⟩
  | tup cs ds hl _ ih =>
    intro v h hn
    have hn := (anyL_iff _ cs).1 hn
    cases h with
    | tup _ us h1 h2 => exact ⟨.tup ds us (hl ▸ h1) fun j => (ih j _ (h2 j) (hn j)).1, (anyL_iff _ ds).2 fun j => (ih j _ (h2 j) (hn j)).2⟩
theorem ACalls.as {P : Program} {lf : TypeId → List K} {f : FuncId} {args : List D} {H : Heap} {Q : D → Heap → Prop} (h : ACalls P lf f args H (fun r H' => ∃ r', As r r' ∧ Q r' H')) : ACalls P lf f args H Q :=
  fun S vs h1 h2 h3 h4 h5 h6 h7 h8 => (h S vs h1 h2 h3 h4 h5 h6 h7 h8).mono fun _ _ ⟨v, r, S', a, b, c, d, e0, e, f, g, i, r', j, k⟩ => ⟨v, r', S', a, b, c, d, e0, e, (j.rep v f g).1, (j.rep v f g).2, i, k⟩
theorem As.last3 (a b : D) (e : TypeId) : As (.agg [a, b, .nil]) (.agg [a, b, .v (.sl e) (.l [])]) :=
  .agg _ _ rfl fun j => match j with
    | 0 => .refl _ | 1 => .refl _ | 2 => .nil e _ rfl | _ + 3 => .refl _
theorem As.pair {a a' b b' : D} (h : As a a') (h' : As b b') : As (.tup [a, b]) (.tup [a', b']) :=
  .tup _ _ rfl fun j => match j with
    | 0 => h | 1 => h' | _ + 2 => .refl _
end Go.Abs
set_option linter.unusedVariables false
set_option maxRecDepth 100000
namespace Go.Proofs.YtehchnjnbbnkbaaGreat
open Go.Abs
def env_l06_PathDecreases : Env := envA [(6, ua 1 2 (ua 5 4 ((.undef 10) :: (.undef 12) :: ua 14 19 (ua 36 7 ([.dead 41]))))), (12, ua 1 2 (ua 5 4 ((.undef 10) :: (.undef 12) :: ua 14 47 ([.dead 45, .dead 59])))), (3000005, ua 1 2 (ua 5 2 ((.undef 8) :: (.undef 10) :: ua 14 19 ([.dead 5, .dead 32]))))] [(14, 10, [], [])] [] [] [5]
def kl_l06_PathDecreases_0 (Q : QD) : Post := blockK 0 (seqJ env_l06_PathDecreases (fnAt [1, 1, 1, 1, 1] Tryz.f4) (endK env_l06_PathDecreases Tryz.f4 Q))
def kl_l06_PathDecreases_1 (Q : QD) : Post := blockK 2 (seqJ env_l06_PathDecreases (fnAt [1, 1, 1, 1, 1, 1] Tryz.f4) (endK env_l06_PathDecreases Tryz.f4 Q))
@[irreducible] def lp_l06_PathDecreases_1 (Q : QD) (m1 : Nat) (x0 : LL) (x9 : V) (x13 : Int) : Prop :=
  iter (adj (env_l06_PathDecreases.adj 12)) (evCode env_l06_PathDecreases (fnAt [1, 1, 1, 1, 1, 0, 1, 0, 0] Tryz.f4)) (kl_l06_PathDecreases_1 Q) m1 ⟨(.v (.sl t_Rank) (V.l x0)) :: un 2 (sk 2 (un 4 ((.v (.sl t_Term) (x9)) :: .undef :: .skip :: .undef :: (.v (.int .i64) (V.i x13)) :: un 47 ([.skip])))), dd 62 ([])⟩ []
@[irreducible] def lp_l06_PathDecreases_0 (Q : QD) (m0 : Nat) (x0 : LL) (x9 x33 : V) (x34 x35 : Int) : Prop :=
  iter (adj (env_l06_PathDecreases.adj 6)) (evCode env_l06_PathDecreases (fnAt [1, 1, 1, 1, 0, 1, 0, 0] Tryz.f4)) (kl_l06_PathDecreases_0 Q) m0 ⟨(.v (.sl t_Rank) (V.l x0)) :: un 2 (sk 2 (un 4 ((.v (.sl t_Term) (x9)) :: .undef :: .skip :: .undef :: .skip :: un 19 ((.v (.sl t_bool) (x33)) :: (.v (.int .i64) (V.i x34)) :: (.v (.int .i64) (V.i x35)) :: un 7 (sk 19 ([])))))), dd 62 ([])⟩ []
@[irreducible] def jp_l06_PathDecreases_0 (Q : QD) (x0 : LL) (x7 x9 : V) : Prop :=
  joinM (evCode env_l06_PathDecreases (fnAt [1, 1, 1, 1] Tryz.f4)) ⟨(.v (.sl t_Rank) (V.l x0)) :: un 2 (sk 2 (un 2 ((.v (.sl t_bool) (x7)) :: .undef :: (.v (.sl t_Term) (x9)) :: .undef :: sk 3 (un 19 (sk 29 ([])))))), dd 62 ([])⟩ [] (endK env_l06_PathDecreases Tryz.f4 Q)
def st_l06_PathDecreases_1 (Q : QD) (m1 : Nat) (x0 : LL) (x9 : V) (x13 : Int) : Prop :=
  (x9.list.length ≤ big → iff (decide (x13 < ((x9.list.length : Int)))) (0 ≤ (IntKind.i64.wrap (x13 - (1 : Int))) ∧ (IntKind.i64.wrap (x13 - (1 : Int))) < x9.list.length ∧ 0 ≤ x13 ∧ x13 < x9.list.length ∧ cl f_l06_greater [.v (.sl t_Rank) (V.l x0), .agg [.v .str (((x9.list.getD ((IntKind.i64.wrap (x13 - (1 : Int)))).toNat []).drop 0).headD V.none), .v .bool ((((x9.list.getD ((IntKind.i64.wrap (x13 - (1 : Int)))).toNat []).drop 0).tail).headD V.none), .v (.sl t_Term) (((((x9.list.getD ((IntKind.i64.wrap (x13 - (1 : Int)))).toNat []).drop 0).tail).tail).headD V.none)], .agg [.v .str (((x9.list.getD x13.toNat []).drop 0).headD V.none), .v .bool ((((x9.list.getD x13.toNat []).drop 0).tail).headD V.none), .v (.sl t_Term) (((((x9.list.getD x13.toNat []).drop 0).tail).tail).headD V.none)]] [] fun r1 H2 => r1 = (.v .bool (r1.V)) ∧ H2 = [] ∧ iff (!r1.V.bool) (True ∧ Q (.v .bool (V.b false)) []) (lp_l06_PathDecreases_1 Q m1 x0 x9 (IntKind.i64.wrap (x13 + (1 : Int))))) (cl f_l06_alive [] [] fun r3 H4 => r3 = (.v .bool (r3.V)) ∧ H4 = [] ∧ True ∧ Q (.v .bool (r3.V)) []))
theorem lp_l06_PathDecreases_1_s (Q : QD) (m1 : Nat) (x0 : LL) (x9 : V) (x13 : Int) : lp_l06_PathDecreases_1 Q (m1 + 1) x0 x9 x13 = st_l06_PathDecreases_1 Q m1 x0 x9 x13 := by kernel_rfl
theorem rule_l06_PathDecreases_1 (Q : QD) : RuleG3 (lp_l06_PathDecreases_1 Q) (st_l06_PathDecreases_1 Q) := ruleG3 _ _ (lp_l06_PathDecreases_1_s Q)
def st_l06_PathDecreases_0 (Q : QD) (m0 : Nat) (x0 : LL) (x9 x33 : V) (x34 x35 : Int) : Prop :=
  iff (decide (x35 < x34)) (0 ≤ x35 ∧ x35 < x33.list.length ∧ iff (!((((x33.list.getD x35.toNat []).drop 0).headD V.none).bool)) (cl f_l06_alive [] [] fun r1 H2 => r1 = (.v .bool (r1.V)) ∧ H2 = [] ∧ True ∧ Q (.v .bool (r1.V)) []) (lp_l06_PathDecreases_0 Q m0 x0 x9 x33 x34 (IntKind.i64.wrap (x35 + (1 : Int))))) (∃ m1, lp_l06_PathDecreases_1 Q m1 x0 x9 1)
theorem lp_l06_PathDecreases_0_s (Q : QD) (m0 : Nat) (x0 : LL) (x9 x33 : V) (x34 x35 : Int) : lp_l06_PathDecreases_0 Q (m0 + 1) x0 x9 x33 x34 x35 = st_l06_PathDecreases_0 Q m0 x0 x9 x33 x34 x35 := by kernel_rfl
theorem range_l06_PathDecreases_0 (Q : QD) (x0 : LL) (x9 x33 : V) (n : Nat) (hb : n ≤ big) (J : Nat → Prop)
    (step : ∀ (k : Nat), k < n → J k → ∀ K : Prop, (J (k + 1) → K) → (0 ≤ (k : Int) ∧ (k : Int) < x33.list.length ∧ iff (!((((x33.list.getD k []).drop 0).headD V.none).bool)) (cl f_l06_alive [] [] fun r1 H2 => r1 = (.v .bool (r1.V)) ∧ H2 = [] ∧ True ∧ Q (.v .bool (r1.V)) []) (K)))
    (last : J n → (∃ m1, lp_l06_PathDecreases_1 Q m1 x0 x9 1))
    (k : Nat) (le0 : k ≤ n) (hj : J k) : ∃ m0, lp_l06_PathDecreases_0 Q m0 x0 x9 x33 (n : Int) ((k : Int)) := by
  exact rangeG0 n hb J (fun m0 i => lp_l06_PathDecreases_0 Q m0 x0 x9 x33 (n : Int) i) (fun m0 i => lp_l06_PathDecreases_0_s Q m0 x0 x9 x33 (n : Int) i) (fun k hl_ hj_ m_ ih_ => step k hl_ hj_ _ ih_) last k le0 hj
def je_l06_PathDecreases_0 (Q : QD) (x0 : LL) (x7 x9 : V) : Prop :=
  (x7.list.length ≤ big → ∃ m0, lp_l06_PathDecreases_0 Q m0 x0 x9 x7 ((x7.list.length : Int)) 0)
theorem jp_l06_PathDecreases_0_s (Q : QD) (x0 : LL) (x7 x9 : V) : jp_l06_PathDecreases_0 Q x0 x7 x9 = je_l06_PathDecreases_0 Q x0 x7 x9 := by kernel_rfl
def vc_l06_PathDecreases (a0 a1 : LL) (a2_0 : ByteArray) (a2_1 : Bool) (a2_2 a2_3 : LL) (Q : QD) : Prop :=
  cl f_path_Orients [.v (.sl t_Rank) (V.l a0), .v (.sl t_Rule) (V.l a1)] [] fun r1 H2 => r1 = (.tup [.v (.sl t_bool) ((r1.parts.headD .undef).V), .v (.int .i64) ((r1.parts.tail.headD .undef).V)]) ∧ H2 = [] ∧ cl f_r05_Terms [.v (.sl t_Rule) (V.l a1), .agg [.v .str (V.s a2_0), .v .bool (V.b a2_1), .v (.sl t_Term) (V.l a2_2), .v (.sl t_Step) (V.l a2_3)]] [] fun r3 H4 => r3 = (.tup [.v (.sl t_Term) ((r3.parts.headD .undef).V), .v (.int .i64) ((r3.parts.tail.headD .undef).V)]) ∧ H4 = [] ∧ iff ((((r1.parts.tail.headD .undef).V).int) != (0 : Int)) (cl f_l06_alive [] [] fun r5 H6 => r5 = (.v .bool (r5.V)) ∧ H6 = [] ∧ True ∧ Q (.v .bool (r5.V)) []) (iff ((((r3.parts.tail.headD .undef).V).int) != (0 : Int)) (cl f_l06_alive [] [] fun r7 H8 => r7 = (.v .bool (r7.V)) ∧ H8 = [] ∧ True ∧ Q (.v .bool (r7.V)) []) (jp_l06_PathDecreases_0 Q a0 ((r1.parts.headD .undef).V) ((r3.parts.headD .undef).V)))
theorem C_l06_PathDecreases (a0 a1 : LL) (a2_0 : ByteArray) (a2_1 : Bool) (a2_2 a2_3 : LL) (Q : QD) (h : vc_l06_PathDecreases a0 a1 a2_0 a2_1 a2_2 a2_3 Q) : cl f_l06_PathDecreases [.v (.sl t_Rank) (V.l a0), .v (.sl t_Rule) (V.l a1), .agg [.v .str (V.s a2_0), .v .bool (V.b a2_1), .v (.sl t_Term) (V.l a2_2), .v (.sl t_Step) (V.l a2_3)]] [] Q :=
  acalls2 (E := env_l06_PathDecreases) (envOk _ _ _ _ _) 0 Tryz.func4 (by kernel_rfl) h
def env_path_Orients : Env := envA [(9, (.undef 1) :: ua 4 4 (ua 10 5 (ua 16 4 (ua 24 13 ((.dead 10) :: da 33 3 ([.ownT 8 38 t_bool]))))))] [] [] [] []
def kl_path_Orients_0 (Q : QD) : Post := blockK 0 (seqJ env_path_Orients (fnAt [1, 1, 1, 1, 1] Tryz.f5) (endK env_path_Orients Tryz.f5 Q))
@[irreducible] def lp_path_Orients_0 (Q : QD) (m0 : Nat) (x0 : LL) (x8n : Nat) (x21 : LL) (x22 x23 : Int) (y38 : LL) : Prop :=
  iter (adj (env_path_Orients.adj 9)) (evCode env_path_Orients (fnAt [1, 1, 1, 1, 0, 1, 0, 0] Tryz.f5)) (kl_path_Orients_0 Q) m0 ⟨(.v (.sl t_Rank) (V.l x0)) :: .undef :: sk 2 (un 4 ((.osl (.loc 38) x8n) :: .skip :: un 5 (.skip :: un 4 (.skip :: (.v (.sl t_Rule) (V.l x21)) :: (.v (.int .i64) (V.i x22)) :: (.v (.int .i64) (V.i x23)) :: un 13 ([.skip]))))), dd 38 ([.row t_bool y38])⟩ []
def st_path_Orients_0 (Q : QD) (m0 : Nat) (x0 : LL) (x8n : Nat) (x21 : LL) (x22 x23 : Int) (y38 : LL) : Prop :=
  iff (decide (x23 < x22)) (0 ≤ x23 ∧ x23 < x21.length ∧ cl f_path_Above [.v (.sl t_Rank) (V.l x0), .agg [.v .str (((x21.getD x23.toNat []).drop 0).headD V.none), .v .bool ((((x21.getD x23.toNat []).drop 0).tail).headD V.none), .v (.sl t_Term) (((((x21.getD x23.toNat []).drop 0).tail).tail).headD V.none)], .agg [.v .str ((((((x21.getD x23.toNat []).drop 0).tail).tail).tail).headD V.none), .v .bool (((((((x21.getD x23.toNat []).drop 0).tail).tail).tail).tail).headD V.none), .v (.sl t_Term) ((((((((x21.getD x23.toNat []).drop 0).tail).tail).tail).tail).tail).headD V.none)]] [] fun r1 H2 => r1 = (.v .bool (r1.V)) ∧ H2 = [] ∧ y38.length = x8n ∧ x8n + ([[r1.V]]).length ≤ lim ∧ lp_path_Orients_0 Q m0 x0 (x8n + ([[r1.V]]).length) x21 x22 (IntKind.i64.wrap (x23 + (1 : Int))) (y38 ++ ([[r1.V]]))) (((x8n = y38.length) ∧ True ∧ True) ∧ Q (.tup [.v (.sl t_bool) (V.l y38), .v (.int .i64) (V.i 0)]) [])
theorem lp_path_Orients_0_s (Q : QD) (m0 : Nat) (x0 : LL) (x8n : Nat) (x21 : LL) (x22 x23 : Int) (y38 : LL) : lp_path_Orients_0 Q (m0 + 1) x0 x8n x21 x22 x23 y38 = st_path_Orients_0 Q m0 x0 x8n x21 x22 x23 y38 := by kernel_rfl
theorem range_path_Orients_0 (Q : QD) (x0 x21 : LL) (n : Nat) (hb : n ≤ big) (J : Nat → Nat → LL → Prop)
    (step : ∀ (k : Nat) (x8n : Nat) (y38 : LL), k < n → J k x8n y38 → ∀ K : Nat → LL → Prop, (∀ (x8n' : Nat) (y38' : LL), J (k + 1) x8n' y38' → K x8n' y38') → (0 ≤ (k : Int) ∧ (k : Int) < x21.length ∧ cl f_path_Above [.v (.sl t_Rank) (V.l x0), .agg [.v .str (((x21.getD k []).drop 0).headD V.none), .v .bool ((((x21.getD k []).drop 0).tail).headD V.none), .v (.sl t_Term) (((((x21.getD k []).drop 0).tail).tail).headD V.none)], .agg [.v .str ((((((x21.getD k []).drop 0).tail).tail).tail).headD V.none), .v .bool (((((((x21.getD k []).drop 0).tail).tail).tail).tail).headD V.none), .v (.sl t_Term) ((((((((x21.getD k []).drop 0).tail).tail).tail).tail).tail).headD V.none)]] [] fun r1 H2 => r1 = (.v .bool (r1.V)) ∧ H2 = [] ∧ y38.length = x8n ∧ x8n + ([[r1.V]]).length ≤ lim ∧ K (x8n + ([[r1.V]]).length) (y38 ++ ([[r1.V]]))))
    (last : ∀ (x8n : Nat) (y38 : LL), J n x8n y38 → (((x8n = y38.length) ∧ True ∧ True) ∧ Q (.tup [.v (.sl t_bool) (V.l y38), .v (.int .i64) (V.i 0)]) []))
    (k : Nat) (x8n : Nat) (y38 : LL) (le0 : k ≤ n) (hj : J k x8n y38) : ∃ m0, lp_path_Orients_0 Q m0 x0 x8n x21 (n : Int) ((k : Int)) y38 := by
  exact rangeG2 n hb J (fun m0 i x8n y38 => lp_path_Orients_0 Q m0 x0 x8n x21 (n : Int) i y38) (fun m0 i x8n y38 => lp_path_Orients_0_s Q m0 x0 x8n x21 (n : Int) i y38) (fun k x8n y38 hl_ hj_ m_ ih_ => step k x8n y38 hl_ hj_ _ ih_) last k x8n y38 le0 hj
def vc_path_Orients (a0 a1 : LL) (Q : QD) : Prop :=
  cl f_path_Check [.v (.sl t_Rank) (V.l a0)] [] fun r1 H2 => r1 = (.v (.int .i64) (r1.V)) ∧ H2 = [] ∧ iff (r1.V.int != (0 : Int)) ((True ∧ True ∧ True) ∧ Q (.tup [.nil, .v (.int .i64) (r1.V)]) []) (cl f_term_CheckSystem [.v (.sl t_Rule) (V.l a1)] [] fun r3 H4 => r3 = (.v (.int .i64) (r3.V)) ∧ H4 = [] ∧ iff (r3.V.int != (0 : Int)) ((True ∧ True ∧ True) ∧ Q (.tup [.nil, .v (.int .i64) (r3.V)]) []) ((a1.length ≤ big → ∃ m0, lp_path_Orients_0 Q m0 a0 0 a1 ((a1.length : Int)) 0 (([] : List (List V))))))
theorem C_path_Orients (a0 a1 : LL) (Q : QD) (h : vc_path_Orients a0 a1 Q) : cl f_path_Orients [.v (.sl t_Rank) (V.l a0), .v (.sl t_Rule) (V.l a1)] [] Q :=
  acalls2 (E := env_path_Orients) (envOk _ _ _ _ _) 1 Tryz.func5 (by kernel_rfl) h
def env_l06_alive : Env := envA [] [(3, 14, [], [])] [] [] []
def vc_l06_alive (Q : QD) : Prop :=
  cl f_l06_variable [.v .str (V.s (ByteArray.mk #[120]))] [] fun r1 H2 => r1 = (.agg [.v .str ((r1.cells.headD .undef).V), .v .bool ((r1.cells.tail.headD .undef).V), .v (.sl t_Term) ((r1.cells.tail.tail.headD .undef).V)]) ∧ H2 = [] ∧ cl f_l06_variable [.v .str (V.s (ByteArray.mk #[121]))] [] fun r3 H4 => r3 = (.agg [.v .str ((r3.cells.headD .undef).V), .v .bool ((r3.cells.tail.headD .undef).V), .v (.sl t_Term) ((r3.cells.tail.tail.headD .undef).V)]) ∧ H4 = [] ∧ (∃ r5 : D, cl f_l06_symbol [.v .str (V.s (ByteArray.mk #[115])), .v (.sl t_Term) (V.l ([[(r1.cells.headD .undef).V, (r1.cells.tail.headD .undef).V, (r1.cells.tail.tail.headD .undef).V]]))] [] (fun r H' => r = (.agg [.v .str ((r5.cells.headD .undef).V), .v .bool ((r5.cells.tail.headD .undef).V), .v (.sl t_Term) ((r5.cells.tail.tail.headD .undef).V)]) ∧ H' = []) ∧ (∃ r6 : D, cl f_l06_symbol [.v .str (V.s (ByteArray.mk #[97, 100, 100])), .v (.sl t_Term) (V.l ([[(r5.cells.headD .undef).V, (r5.cells.tail.headD .undef).V, (r5.cells.tail.tail.headD .undef).V], [(r3.cells.headD .undef).V, (r3.cells.tail.headD .undef).V, (r3.cells.tail.tail.headD .undef).V]]))] [] (fun r H' => r = (.agg [.v .str ((r6.cells.headD .undef).V), .v .bool ((r6.cells.tail.headD .undef).V), .v (.sl t_Term) ((r6.cells.tail.tail.headD .undef).V)]) ∧ H' = []) ∧ (∃ r7 : D, cl f_l06_symbol [.v .str (V.s (ByteArray.mk #[97, 100, 100])), .v (.sl t_Term) (V.l ([[(r1.cells.headD .undef).V, (r1.cells.tail.headD .undef).V, (r1.cells.tail.tail.headD .undef).V], [(r3.cells.headD .undef).V, (r3.cells.tail.headD .undef).V, (r3.cells.tail.tail.headD .undef).V]]))] [] (fun r H' => r = (.agg [.v .str ((r7.cells.headD .undef).V), .v .bool ((r7.cells.tail.headD .undef).V), .v (.sl t_Term) ((r7.cells.tail.tail.headD .undef).V)]) ∧ H' = []) ∧ (∃ r8 : D, cl f_l06_symbol [.v .str (V.s (ByteArray.mk #[115])), .v (.sl t_Term) (V.l ([[(r7.cells.headD .undef).V, (r7.cells.tail.headD .undef).V, (r7.cells.tail.tail.headD .undef).V]]))] [] (fun r H' => r = (.agg [.v .str ((r8.cells.headD .undef).V), .v .bool ((r8.cells.tail.headD .undef).V), .v (.sl t_Term) ((r8.cells.tail.tail.headD .undef).V)]) ∧ H' = []) ∧ cl f_path_Greater [.v (.sl t_Rank) (V.l ([[V.s (ByteArray.mk #[97, 100, 100]), V.i 2, V.i 0], [V.s (ByteArray.mk #[115]), V.i 1, V.i 0]])), .agg [.v .str ((r6.cells.headD .undef).V), .v .bool ((r6.cells.tail.headD .undef).V), .v (.sl t_Term) ((r6.cells.tail.tail.headD .undef).V)], .agg [.v .str ((r8.cells.headD .undef).V), .v .bool ((r8.cells.tail.headD .undef).V), .v (.sl t_Term) ((r8.cells.tail.tail.headD .undef).V)]] [] fun r9 H10 => r9 = (.tup [.v .bool ((r9.parts.headD .undef).V), .v (.int .i64) ((r9.parts.tail.headD .undef).V)]) ∧ H10 = [] ∧ cl f_path_Greater [.v (.sl t_Rank) (V.l ([[V.s (ByteArray.mk #[97, 100, 100]), V.i 2, V.i 0], [V.s (ByteArray.mk #[115]), V.i 1, V.i 0]])), .agg [.v .str ((r8.cells.headD .undef).V), .v .bool ((r8.cells.tail.headD .undef).V), .v (.sl t_Term) ((r8.cells.tail.tail.headD .undef).V)], .agg [.v .str ((r6.cells.headD .undef).V), .v .bool ((r6.cells.tail.headD .undef).V), .v (.sl t_Term) ((r6.cells.tail.tail.headD .undef).V)]] [] fun r11 H12 => r11 = (.tup [.v .bool ((r11.parts.headD .undef).V), .v (.int .i64) ((r11.parts.tail.headD .undef).V)]) ∧ H12 = [] ∧ iff ((((r9.parts.tail.headD .undef).V).int) == (0 : Int)) (iff (((r9.parts.headD .undef).V).bool) (iff ((((r11.parts.tail.headD .undef).V).int) == (0 : Int)) (True ∧ Q (.v .bool (V.b (!(((r11.parts.headD .undef).V).bool)))) []) (True ∧ Q (.v .bool (V.b false)) [])) (True ∧ Q (.v .bool (V.b false)) [])) (True ∧ Q (.v .bool (V.b false)) [])))))
theorem C_l06_alive (Q : QD) (h : vc_l06_alive Q) : cl f_l06_alive [] [] Q :=
  acalls2 (E := env_l06_alive) (envOk _ _ _ _ _) 0 Tryz.func8 (by kernel_rfl) h
def env_r05_Terms : Env := envA [(8, (.undef 1) :: ua 3 4 (ua 9 12 (ua 22 4 (ua 29 23 ((.dead 3) :: da 9 2 ((.dead 36) :: (.dead 41) :: da 49 2 ([])))))))] [(10, 14, [], [])] [24] [] []
def kl_r05_Terms_0 (Q : QD) : Post := blockK 0 (seqJ env_r05_Terms (fnAt [1, 1, 1, 1, 1] Tryz.f11) (endK env_r05_Terms Tryz.f11 Q))
@[irreducible] def lp_r05_Terms_0 (Q : QD) (m0 : Nat) (x0 : LL) (x7n : Nat) (x26 : LL) (x27 x28 : Int) (y24 : LL) : Prop :=
  iter (adj (env_r05_Terms.adj 8)) (evCode env_r05_Terms (fnAt [1, 1, 1, 1, 0, 1, 0, 0] Tryz.f11)) (kl_r05_Terms_0 Q) m0 ⟨(.v (.sl t_Rule) (V.l x0)) :: .undef :: .skip :: un 4 ((.osl (.loc 24) x7n) :: .skip :: un 12 (.skip :: un 4 ((.v (.sl t_Step) (V.l x26)) :: (.v (.int .i64) (V.i x27)) :: (.v (.int .i64) (V.i x28)) :: un 23 ([.skip])))), dd 24 ((.row t_Term y24) :: dd 28 ([]))⟩ []
def st_r05_Terms_0 (Q : QD) (m0 : Nat) (x0 : LL) (x7n : Nat) (x26 : LL) (x27 x28 : Int) (y24 : LL) : Prop :=
  iff (decide (x28 < x27)) (0 ≤ x28 ∧ x28 < x26.length ∧ y24.length = x7n ∧ y24.length = x7n ∧ 0 ≤ (IntKind.i64.wrap ((((x7n : Nat) : Int)) - (1 : Int))) ∧ (IntKind.i64.wrap ((((x7n : Nat) : Int)) - (1 : Int))) < x7n ∧ y24.length = x7n ∧ ((IntKind.i64.wrap ((((x7n : Nat) : Int)) - (1 : Int)))).toNat < x7n ∧ (∃ r1 : D, cl f_r04_Step [.v (.sl t_Rule) (V.l x0), .agg [.v .str (((y24.getD (((IntKind.i64.wrap ((((x7n : Nat) : Int)) - (1 : Int)))).toNat) []).drop 0).headD V.none), .v .bool ((((y24.getD (((IntKind.i64.wrap ((((x7n : Nat) : Int)) - (1 : Int)))).toNat) []).drop 0).tail).headD V.none), .v (.sl t_Term) (((((y24.getD (((IntKind.i64.wrap ((((x7n : Nat) : Int)) - (1 : Int)))).toNat) []).drop 0).tail).tail).headD V.none)], .agg [.v (.int .i64) (((x26.getD x28.toNat []).drop 0).headD V.none), .v (.sl t_int) ((((x26.getD x28.toNat []).drop 0).tail).headD V.none)]] [] (fun r H' => r = (.tup [.agg [.v .str ((((r1.parts.headD .undef).cells).headD .undef).V), .v .bool (((((r1.parts.headD .undef).cells).tail).headD .undef).V), .v (.sl t_Term) ((((((r1.parts.headD .undef).cells).tail).tail).headD .undef).V)], .v (.int .i64) ((r1.parts.tail.headD .undef).V)]) ∧ H' = []) ∧ iff ((((r1.parts.tail.headD .undef).V).int) != (0 : Int)) ((True ∧ True ∧ True) ∧ Q (.tup [.nil, .v (.int .i64) ((r1.parts.tail.headD .undef).V)]) []) (y24.length = x7n ∧ x7n + ([[(((r1.parts.headD .undef).cells).headD .undef).V, ((((r1.parts.headD .undef).cells).tail).headD .undef).V, (((((r1.parts.headD .undef).cells).tail).tail).headD .undef).V]]).length ≤ lim ∧ lp_r05_Terms_0 Q m0 x0 (x7n + ([[(((r1.parts.headD .undef).cells).headD .undef).V, ((((r1.parts.headD .undef).cells).tail).headD .undef).V, (((((r1.parts.headD .undef).cells).tail).tail).headD .undef).V]]).length) x26 x27 (IntKind.i64.wrap (x28 + (1 : Int))) (y24 ++ ([[(((r1.parts.headD .undef).cells).headD .undef).V, ((((r1.parts.headD .undef).cells).tail).headD .undef).V, (((((r1.parts.headD .undef).cells).tail).tail).headD .undef).V]]))))) (((x7n = y24.length) ∧ True ∧ True) ∧ Q (.tup [.v (.sl t_Term) (V.l y24), .v (.int .i64) (V.i 0)]) [])
theorem lp_r05_Terms_0_s (Q : QD) (m0 : Nat) (x0 : LL) (x7n : Nat) (x26 : LL) (x27 x28 : Int) (y24 : LL) : lp_r05_Terms_0 Q (m0 + 1) x0 x7n x26 x27 x28 y24 = st_r05_Terms_0 Q m0 x0 x7n x26 x27 x28 y24 := by kernel_rfl
theorem range_r05_Terms_0 (Q : QD) (x0 x26 : LL) (n : Nat) (hb : n ≤ big) (J : Nat → Nat → LL → Prop)
    (step : ∀ (k : Nat) (x7n : Nat) (y24 : LL), k < n → J k x7n y24 → ∀ K : Nat → LL → Prop, (∀ (x7n' : Nat) (y24' : LL), J (k + 1) x7n' y24' → K x7n' y24') → (0 ≤ (k : Int) ∧ (k : Int) < x26.length ∧ y24.length = x7n ∧ y24.length = x7n ∧ 0 ≤ (IntKind.i64.wrap ((((x7n : Nat) : Int)) - (1 : Int))) ∧ (IntKind.i64.wrap ((((x7n : Nat) : Int)) - (1 : Int))) < x7n ∧ y24.length = x7n ∧ ((IntKind.i64.wrap ((((x7n : Nat) : Int)) - (1 : Int)))).toNat < x7n ∧ (∃ r1 : D, cl f_r04_Step [.v (.sl t_Rule) (V.l x0), .agg [.v .str (((y24.getD (((IntKind.i64.wrap ((((x7n : Nat) : Int)) - (1 : Int)))).toNat) []).drop 0).headD V.none), .v .bool ((((y24.getD (((IntKind.i64.wrap ((((x7n : Nat) : Int)) - (1 : Int)))).toNat) []).drop 0).tail).headD V.none), .v (.sl t_Term) (((((y24.getD (((IntKind.i64.wrap ((((x7n : Nat) : Int)) - (1 : Int)))).toNat) []).drop 0).tail).tail).headD V.none)], .agg [.v (.int .i64) (((x26.getD k []).drop 0).headD V.none), .v (.sl t_int) ((((x26.getD k []).drop 0).tail).headD V.none)]] [] (fun r H' => r = (.tup [.agg [.v .str ((((r1.parts.headD .undef).cells).headD .undef).V), .v .bool (((((r1.parts.headD .undef).cells).tail).headD .undef).V), .v (.sl t_Term) ((((((r1.parts.headD .undef).cells).tail).tail).headD .undef).V)], .v (.int .i64) ((r1.parts.tail.headD .undef).V)]) ∧ H' = []) ∧ iff ((((r1.parts.tail.headD .undef).V).int) != (0 : Int)) ((True ∧ True ∧ True) ∧ Q (.tup [.nil, .v (.int .i64) ((r1.parts.tail.headD .undef).V)]) []) (y24.length = x7n ∧ x7n + ([[(((r1.parts.headD .undef).cells).headD .undef).V, ((((r1.parts.headD .undef).cells).tail).headD .undef).V, (((((r1.parts.headD .undef).cells).tail).tail).headD .undef).V]]).length ≤ lim ∧ K (x7n + ([[(((r1.parts.headD .undef).cells).headD .undef).V, ((((r1.parts.headD .undef).cells).tail).headD .undef).V, (((((r1.parts.headD .undef).cells).tail).tail).headD .undef).V]]).length) (y24 ++ ([[(((r1.parts.headD .undef).cells).headD .undef).V, ((((r1.parts.headD .undef).cells).tail).headD .undef).V, (((((r1.parts.headD .undef).cells).tail).tail).headD .undef).V]]))))))
    (last : ∀ (x7n : Nat) (y24 : LL), J n x7n y24 → (((x7n = y24.length) ∧ True ∧ True) ∧ Q (.tup [.v (.sl t_Term) (V.l y24), .v (.int .i64) (V.i 0)]) []))
    (k : Nat) (x7n : Nat) (y24 : LL) (le0 : k ≤ n) (hj : J k x7n y24) : ∃ m0, lp_r05_Terms_0 Q m0 x0 x7n x26 (n : Int) ((k : Int)) y24 := by
  exact rangeG2 n hb J (fun m0 i x7n y24 => lp_r05_Terms_0 Q m0 x0 x7n x26 (n : Int) i y24) (fun m0 i x7n y24 => lp_r05_Terms_0_s Q m0 x0 x7n x26 (n : Int) i y24) (fun k x7n y24 hl_ hj_ m_ ih_ => step k x7n y24 hl_ hj_ _ ih_) last k x7n y24 le0 hj
def vc_r05_Terms (a0 : LL) (a1_0 : ByteArray) (a1_1 : Bool) (a1_2 a1_3 : LL) (Q : QD) : Prop :=
  (a1_3.length ≤ big → iff (decide (((a1_3.length : Int)) > (4096 : Int))) ((True ∧ True ∧ True) ∧ Q (.tup [.nil, .v (.int .i64) (V.i 3)]) []) (cl f_r01_Check [.agg [.v .str (V.s a1_0), .v .bool (V.b a1_1), .v (.sl t_Term) (V.l a1_2)]] [] fun r1 H2 => r1 = (.v (.int .i64) (r1.V)) ∧ H2 = [] ∧ iff (r1.V.int != (0 : Int)) ((True ∧ True ∧ True) ∧ Q (.tup [.nil, .v (.int .i64) (r1.V)]) []) ((a1_3.length ≤ big → ∃ m0, lp_r05_Terms_0 Q m0 a0 1 a1_3 ((a1_3.length : Int)) 0 ([[V.s a1_0, V.b a1_1, V.l a1_2]])))))
theorem C_r05_Terms (a0 : LL) (a1_0 : ByteArray) (a1_1 : Bool) (a1_2 a1_3 : LL) (Q : QD) (h : vc_r05_Terms a0 a1_0 a1_1 a1_2 a1_3 Q) : cl f_r05_Terms [.v (.sl t_Rule) (V.l a0), .agg [.v .str (V.s a1_0), .v .bool (V.b a1_1), .v (.sl t_Term) (V.l a1_2), .v (.sl t_Step) (V.l a1_3)]] [] Q :=
  acalls2 (E := env_r05_Terms) (envOk _ _ _ _ _) 0 Tryz.func11 (by kernel_rfl) h
def env_l06_greater : Env := envA [] [] [] [] []
def vc_l06_greater (a0 : LL) (a1_0 : ByteArray) (a1_1 : Bool) (a1_2 : LL) (a2_0 : ByteArray) (a2_1 : Bool) (a2_2 : LL) (Q : QD) : Prop :=
  cl f_path_Greater [.v (.sl t_Rank) (V.l a0), .agg [.v .str (V.s a1_0), .v .bool (V.b a1_1), .v (.sl t_Term) (V.l a1_2)], .agg [.v .str (V.s a2_0), .v .bool (V.b a2_1), .v (.sl t_Term) (V.l a2_2)]] [] fun r1 H2 => r1 = (.tup [.v .bool ((r1.parts.headD .undef).V), .v (.int .i64) ((r1.parts.tail.headD .undef).V)]) ∧ H2 = [] ∧ iff ((((r1.parts.tail.headD .undef).V).int) == (0 : Int)) (True ∧ Q (.v .bool ((r1.parts.headD .undef).V)) []) (True ∧ Q (.v .bool (V.b false)) [])
theorem C_l06_greater (a0 : LL) (a1_0 : ByteArray) (a1_1 : Bool) (a1_2 : LL) (a2_0 : ByteArray) (a2_1 : Bool) (a2_2 : LL) (Q : QD) (h : vc_l06_greater a0 a1_0 a1_1 a1_2 a2_0 a2_1 a2_2 Q) : cl f_l06_greater [.v (.sl t_Rank) (V.l a0), .agg [.v .str (V.s a1_0), .v .bool (V.b a1_1), .v (.sl t_Term) (V.l a1_2)], .agg [.v .str (V.s a2_0), .v .bool (V.b a2_1), .v (.sl t_Term) (V.l a2_2)]] [] Q :=
  acalls2 (E := env_l06_greater) (envOk _ _ _ _ _) 0 Tryz.func12 (by kernel_rfl) h
def env_path_Check : Env := envA [] [] [] [] []
def vc_path_Check (a0 : LL) (Q : QD) : Prop :=
  cl f_path_Names_Rank [.v (.sl t_Rank) (V.l a0), .fn f_path_Check_1 []] [] fun r1 H2 => r1 = (.v (.int .i64) (r1.V)) ∧ H2 = [] ∧ iff (r1.V.int != (0 : Int)) (True ∧ Q (.v (.int .i64) (r1.V)) []) (cl f_slices_ContainsFunc_Rank [.v (.sl t_Rank) (V.l a0), .fn f_path_Check_2 []] [] fun r3 H4 => r3 = (.v .bool (r3.V)) ∧ H4 = [] ∧ iff r3.V.bool (True ∧ Q (.v (.int .i64) (V.i 2)) []) (True ∧ Q (.v (.int .i64) (V.i 0)) []))
theorem C_path_Check (a0 : LL) (Q : QD) (h : vc_path_Check a0 Q) : cl f_path_Check [.v (.sl t_Rank) (V.l a0)] [] Q :=
  acalls2 (E := env_path_Check) (envOk _ _ _ _ _) 0 Tryz.func13 (by kernel_rfl) h
def env_term_CheckSystem : Env := envA [(8, ua 2 9 (ua 12 8 (ua 21 6 ([.dead 26]))))] [] [] [] []
def kl_term_CheckSystem_0 (Q : QD) : Post := blockK 0 (seqJ env_term_CheckSystem (fnAt [1, 1, 1, 1, 1] Tryz.f14) (endK env_term_CheckSystem Tryz.f14 Q))
@[irreducible] def lp_term_CheckSystem_0 (Q : QD) (m0 : Nat) (x0 : LL) (y20_x : V) (y20n : Nat) (y20s : List Nat) : Prop :=
  iter (adj (env_term_CheckSystem.adj 8)) (evCode env_term_CheckSystem (fnAt [1, 1, 1, 1, 0, 1, 0, 0] Tryz.f14)) (kl_term_CheckSystem_0 Q) m0 ⟨(.v (.sl t_Rule) (V.l x0)) :: .skip :: un 9 (.skip :: un 8 ((.ptr (.loc 20) 0) :: un 6 (sk 2 ([])))), dd 20 ((.iter mt_9_3 (.v (.mp mt_9_3) (y20_x)) y20n y20s) :: dd 8 ([]))⟩ []
def st_term_CheckSystem_0 (Q : QD) (m0 : Nat) (x0 : LL) (y20_x : V) (y20n : Nat) (y20s : List Nat) : Prop :=
  y20_x.list.length = y20n ∧ ((∀ j : Nat, j < y20n → j ∈ y20s) → cl f_slices_ContainsFunc_Rule [.v (.sl t_Rule) (V.l x0), .fn f_term_extra []] [] fun r2 H3 => r2 = (.v .bool (r2.V)) ∧ H3 = [] ∧ iff r2.V.bool (True ∧ Q (.v (.int .i64) (V.i 7)) []) (True ∧ Q (.v (.int .i64) (V.i 0)) [])) ∧ (∀ j1 : Nat, j1 < y20n → j1 ∉ y20s → y20s.length < y20n → y20_x.list.length = y20n ∧ cl f_term_Marked [.v .str ((y20_x.list.getD j1 []).headD V.none)] [] fun r4 H5 => r4 = (.v .bool (r4.V)) ∧ H5 = [] ∧ iff r4.V.bool (True ∧ Q (.v (.int .i64) (V.i 6)) []) (lp_term_CheckSystem_0 Q m0 x0 y20_x y20n (j1 :: y20s)))
theorem lp_term_CheckSystem_0_s (Q : QD) (m0 : Nat) (x0 : LL) (y20_x : V) (y20n : Nat) (y20s : List Nat) : lp_term_CheckSystem_0 Q (m0 + 1) x0 y20_x y20n y20s = st_term_CheckSystem_0 Q m0 x0 y20_x y20n y20s := by kernel_rfl
theorem rule_term_CheckSystem_0 (Q : QD) : RuleG4 (lp_term_CheckSystem_0 Q) (st_term_CheckSystem_0 Q) := ruleG4 _ _ (lp_term_CheckSystem_0_s Q)
def vc_term_CheckSystem (a0 : LL) (Q : QD) : Prop :=
  cl f_term_CheckRules [.v (.sl t_Rule) (V.l a0)] [] fun r1 H2 => r1 = (.v (.int .i64) (r1.V)) ∧ H2 = [] ∧ iff (r1.V.int != (0 : Int)) (True ∧ Q (.v (.int .i64) (r1.V)) []) (cl f_term_Arities [.v (.sl t_Rule) (V.l a0)] [] fun r3 H4 => r3 = (.tup [.v (.mp mt_9_3) ((r3.parts.headD .undef).V), .v .bool ((r3.parts.tail.headD .undef).V)]) ∧ H4 = [] ∧ iff (!(((r3.parts.tail.headD .undef).V).bool)) (True ∧ Q (.v (.int .i64) (V.i 6)) []) (∃ m0, lp_term_CheckSystem_0 Q m0 a0 ((r3.parts.headD .undef).V) ((((r3.parts.headD .undef).V).list).length) (([] : List Nat))))
theorem C_term_CheckSystem (a0 : LL) (Q : QD) (h : vc_term_CheckSystem a0 Q) : cl f_term_CheckSystem [.v (.sl t_Rule) (V.l a0)] [] Q :=
  acalls2 (E := env_term_CheckSystem) (envOk _ _ _ _ _) 0 Tryz.func14 (by kernel_rfl) h
def env_path_Above : Env := envA [] [(1, 3, [], []), (2, 15, [], [])] [] [] []
def vc_path_Above (a0 : LL) (a1_0 : ByteArray) (a1_1 : Bool) (a1_2 : LL) (a2_0 : ByteArray) (a2_1 : Bool) (a2_2 : LL) (Q : QD) : Prop :=
  (∃ r1 : D, cl f_path_nodes [.agg [.v .str (V.s a1_0), .v .bool (V.b a1_1), .v (.sl t_Term) (V.l a1_2)], .nil] [] (fun r H' => r = (.v (.sl t_path_node) (r1.V)) ∧ H' = []) ∧ cl f_path_nodes [.agg [.v .str (V.s a2_0), .v .bool (V.b a2_1), .v (.sl t_Term) (V.l a2_2)], .osl (.own 0) 0] [.row t_path_node (([] : List (List V)))] fun r2 H3 => r2 = (.osl (.own 0) r2.len) ∧ H3 = [.row t_path_node ((H3.headD .dead).xs)] ∧ ((H3.headD .dead).xs).length = r2.len ∧ 0 ≤ (IntKind.i64.wrap (((r1.V.list.length : Int)) * (((r2.len : Nat) : Int)))) ∧ (IntKind.i64.wrap (((r1.V.list.length : Int)) * (((r2.len : Nat) : Int)))) = (IntKind.i64.wrap (((r1.V.list.length : Int)) * (((r2.len : Nat) : Int)))) ∧ (IntKind.i64.wrap (((r1.V.list.length : Int)) * (((r2.len : Nat) : Int)))) ≤ lim ∧ ((H3.headD .dead).xs).length = r2.len ∧ 0 ≤ (IntKind.i64.wrap (((r1.V.list.length : Int)) * (((r2.len : Nat) : Int)))) ∧ (IntKind.i64.wrap (((r1.V.list.length : Int)) * (((r2.len : Nat) : Int)))) = (IntKind.i64.wrap (((r1.V.list.length : Int)) * (((r2.len : Nat) : Int)))) ∧ (IntKind.i64.wrap (((r1.V.list.length : Int)) * (((r2.len : Nat) : Int)))) ≤ lim ∧ (r1.V.list.length ≤ big → ((H3.headD .dead).xs).length = r2.len ∧ (r2.len ≤ big → cl f_path_comparer_greater [.ptr (.own 0) 0, .v (.int .i64) (V.i (IntKind.i64.wrap (((r1.V.list.length : Int)) - (1 : Int)))), .v (.int .i64) (V.i (IntKind.i64.wrap ((((r2.len : Nat) : Int)) - (1 : Int))))] [.cells [.v (.sl t_Rank) (V.l a0), .v (.sl t_path_node) (r1.V), .osl (.own 1) r2.len, .osl (.own 2) (((IntKind.i64.wrap (((r1.V.list.length : Int)) * (((r2.len : Nat) : Int))))).toNat), .osl (.own 3) (((IntKind.i64.wrap (((r1.V.list.length : Int)) * (((r2.len : Nat) : Int))))).toNat)], .row t_path_node ((H3.headD .dead).xs), .row t_uint8 (zeroRow [.int .u8] ((IntKind.i64.wrap (((r1.V.list.length : Int)) * (((r2.len : Nat) : Int))))).toNat), .row t_uint8 (zeroRow [.int .u8] ((IntKind.i64.wrap (((r1.V.list.length : Int)) * (((r2.len : Nat) : Int))))).toNat)] fun r4 H5 => r4 = (.v .bool (r4.V)) ∧ H5 = [.cells [.v (.sl t_Rank) ((((H5.headD .dead).cs).headD .undef).V), .v (.sl t_path_node) (((((H5.headD .dead).cs).tail).headD .undef).V), .osl (.own 1) ((((((H5.headD .dead).cs).tail).tail).headD .undef).len), .osl (.own 2) (((((((H5.headD .dead).cs).tail).tail).tail).headD .undef).len), .osl (.own 3) ((((((((H5.headD .dead).cs).tail).tail).tail).tail).headD .undef).len)], .row t_path_node ((H5.tail.headD .dead).xs), .row t_uint8 ((H5.tail.tail.headD .dead).xs), .row t_uint8 ((H5.tail.tail.tail.headD .dead).xs)] ∧ True ∧ Q (.v .bool (r4.V)) [])))
theorem C_path_Above (a0 : LL) (a1_0 : ByteArray) (a1_1 : Bool) (a1_2 : LL) (a2_0 : ByteArray) (a2_1 : Bool) (a2_2 : LL) (Q : QD) (h : vc_path_Above a0 a1_0 a1_1 a1_2 a2_0 a2_1 a2_2 Q) : cl f_path_Above [.v (.sl t_Rank) (V.l a0), .agg [.v .str (V.s a1_0), .v .bool (V.b a1_1), .v (.sl t_Term) (V.l a1_2)], .agg [.v .str (V.s a2_0), .v .bool (V.b a2_1), .v (.sl t_Term) (V.l a2_2)]] [] Q :=
  acalls2 (E := env_path_Above) (envOk _ _ _ _ _) 0 Tryz.func15 (by kernel_rfl) h
def env_l06_variable : Env := envA [] [] [] [] []
def vc_l06_variable (a0 : ByteArray) (Q : QD) : Prop :=
  (True ∧ True ∧ True ∧ True) ∧ Q (.agg [.v .str (V.s a0), .v .bool (V.b true), .nil]) []
theorem C_l06_variable (a0 : ByteArray) (Q : QD) (h : vc_l06_variable a0 Q) : cl f_l06_variable [.v .str (V.s a0)] [] Q :=
  acalls2 (E := env_l06_variable) (envOk _ _ _ _ _) 0 Tryz.func20 (by kernel_rfl) h
def env_l06_symbol : Env := envA [] [] [] [] []
def vc_l06_symbol (a0 : ByteArray) (a1 : LL) (Q : QD) : Prop :=
  (True ∧ True ∧ True ∧ True) ∧ Q (.agg [.v .str (V.s a0), .v .bool (V.b false), .v (.sl t_Term) (V.l a1)]) []
theorem C_l06_symbol (a0 : ByteArray) (a1 : LL) (Q : QD) (h : vc_l06_symbol a0 a1 Q) : cl f_l06_symbol [.v .str (V.s a0), .v (.sl t_Term) (V.l a1)] [] Q :=
  acalls2 (E := env_l06_symbol) (envOk _ _ _ _ _) 0 Tryz.func21 (by kernel_rfl) h
def env_path_Greater : Env := envA [] [] [] [] []
def vc_path_Greater (a0 : LL) (a1_0 : ByteArray) (a1_1 : Bool) (a1_2 : LL) (a2_0 : ByteArray) (a2_1 : Bool) (a2_2 : LL) (Q : QD) : Prop :=
  cl f_path_Check [.v (.sl t_Rank) (V.l a0)] [] fun r1 H2 => r1 = (.v (.int .i64) (r1.V)) ∧ H2 = [] ∧ iff (r1.V.int != (0 : Int)) ((True ∧ True ∧ True) ∧ Q (.tup [.v .bool (V.b false), .v (.int .i64) (r1.V)]) []) (cl f_term_All [.v (.sl t_Term) (V.l ([[V.s a1_0, V.b a1_1, V.l a1_2], [V.s a2_0, V.b a2_1, V.l a2_2]]))] [] fun r3 H4 => r3 = (.v (.int .i64) (r3.V)) ∧ H4 = [] ∧ iff (r3.V.int != (0 : Int)) ((True ∧ True ∧ True) ∧ Q (.tup [.v .bool (V.b false), .v (.int .i64) (r3.V)]) []) (cl f_path_Above [.v (.sl t_Rank) (V.l a0), .agg [.v .str (V.s a1_0), .v .bool (V.b a1_1), .v (.sl t_Term) (V.l a1_2)], .agg [.v .str (V.s a2_0), .v .bool (V.b a2_1), .v (.sl t_Term) (V.l a2_2)]] [] fun r5 H6 => r5 = (.v .bool (r5.V)) ∧ H6 = [] ∧ (True ∧ True ∧ True) ∧ Q (.tup [.v .bool (r5.V), .v (.int .i64) (V.i 0)]) []))
theorem C_path_Greater (a0 : LL) (a1_0 : ByteArray) (a1_1 : Bool) (a1_2 : LL) (a2_0 : ByteArray) (a2_1 : Bool) (a2_2 : LL) (Q : QD) (h : vc_path_Greater a0 a1_0 a1_1 a1_2 a2_0 a2_1 a2_2 Q) : cl f_path_Greater [.v (.sl t_Rank) (V.l a0), .agg [.v .str (V.s a1_0), .v .bool (V.b a1_1), .v (.sl t_Term) (V.l a1_2)], .agg [.v .str (V.s a2_0), .v .bool (V.b a2_1), .v (.sl t_Term) (V.l a2_2)]] [] Q :=
  acalls2 (E := env_path_Greater) (envOk _ _ _ _ _) 0 Tryz.func22 (by kernel_rfl) h
def env_r01_Equal : Env := envA [] [] [] [] []
def vc_r01_Equal (a0_0 : ByteArray) (a0_1 : Bool) (a0_2 : LL) (a1_0 : ByteArray) (a1_1 : Bool) (a1_2 : LL) (Q : QD) : Prop :=
  cl f_r01_Compare [.agg [.v .str (V.s a0_0), .v .bool (V.b a0_1), .v (.sl t_Term) (V.l a0_2)], .agg [.v .str (V.s a1_0), .v .bool (V.b a1_1), .v (.sl t_Term) (V.l a1_2)]] [] fun r1 H2 => r1 = (.v (.int .i64) (r1.V)) ∧ H2 = [] ∧ True ∧ Q (.v .bool (V.b (r1.V.int == (0 : Int)))) []
theorem C_r01_Equal (a0_0 : ByteArray) (a0_1 : Bool) (a0_2 : LL) (a1_0 : ByteArray) (a1_1 : Bool) (a1_2 : LL) (Q : QD) (h : vc_r01_Equal a0_0 a0_1 a0_2 a1_0 a1_1 a1_2 Q) : cl f_r01_Equal [.agg [.v .str (V.s a0_0), .v .bool (V.b a0_1), .v (.sl t_Term) (V.l a0_2)], .agg [.v .str (V.s a1_0), .v .bool (V.b a1_1), .v (.sl t_Term) (V.l a1_2)]] [] Q :=
  acalls2 (E := env_r01_Equal) (envOk _ _ _ _ _) 0 Tryz.func23 (by kernel_rfl) h
def env_r01_Check : Env := envA [] [] [] [] []
def vc_r01_Check (a0_0 : ByteArray) (a0_1 : Bool) (a0_2 : LL) (Q : QD) : Prop :=
  cl f_r01_Formed [.agg [.v .str (V.s a0_0), .v .bool (V.b a0_1), .v (.sl t_Term) (V.l a0_2)]] [] fun r1 H2 => r1 = (.v .bool (r1.V)) ∧ H2 = [] ∧ iff (!r1.V.bool) (True ∧ Q (.v (.int .i64) (V.i 4)) []) (cl f_r01_Size [.agg [.v .str (V.s a0_0), .v .bool (V.b a0_1), .v (.sl t_Term) (V.l a0_2)]] [] fun r3 H4 => r3 = (.v (.int .i64) (r3.V)) ∧ H4 = [] ∧ iff (decide (r3.V.int > (4000 : Int))) (True ∧ Q (.v (.int .i64) (V.i 3)) []) (cl f_r01_Depth [.agg [.v .str (V.s a0_0), .v .bool (V.b a0_1), .v (.sl t_Term) (V.l a0_2)]] [] fun r5 H6 => r5 = (.v (.int .i64) (r5.V)) ∧ H6 = [] ∧ iff (decide (r5.V.int > (200 : Int))) (True ∧ Q (.v (.int .i64) (V.i 3)) []) (True ∧ Q (.v (.int .i64) (V.i 0)) [])))
theorem C_r01_Check (a0_0 : ByteArray) (a0_1 : Bool) (a0_2 : LL) (Q : QD) (h : vc_r01_Check a0_0 a0_1 a0_2 Q) : cl f_r01_Check [.agg [.v .str (V.s a0_0), .v .bool (V.b a0_1), .v (.sl t_Term) (V.l a0_2)]] [] Q :=
  acalls2 (E := env_r01_Check) (envOk _ _ _ _ _) 0 Tryz.func25 (by kernel_rfl) h
def env_r04_Step : Env := envA [(3000008, ua 1 2 ((.undef 7) :: ua 9 12 (ua 23 27 ([]))))] [(8, 11, [], [])] [] [] [8]
@[irreducible] def jp_r04_Step_0 (Q : QD) (x0 : LL) (x8 : V) (y4_0 : ByteArray) (y4_1 : Bool) (y4_2 : LL) (y5_0 : Int) (y5_1 : LL) (y6_0 : ByteArray) (y6_1 : Bool) : Prop :=
  joinM (evCode env_r04_Step (fnAt [1, 1, 1, 1, 1, 1] Tryz.f26)) ⟨(.v (.sl t_Rule) (V.l x0)) :: un 2 (.skip :: (.ptr (.loc 4) 0) :: (.ptr (.loc 5) 0) :: (.ptr (.loc 6) 0) :: .undef :: (.v (.sl t_Bind) (x8)) :: un 12 (sk 2 (un 27 (sk 12 ([]))))), dd 4 ((.cells [.v .str (V.s y4_0), .v .bool (V.b y4_1), .v (.sl t_Term) (V.l y4_2)]) :: (.cells [.v (.int .i64) (V.i y5_0), .v (.sl t_int) (V.l y5_1)]) :: (.cells [.v .str (V.s y6_0), .v .bool (V.b y6_1), .nil]) :: dd 55 ([]))⟩ [] (endK env_r04_Step Tryz.f26 Q)
def je_r04_Step_0 (Q : QD) (x0 : LL) (x8 : V) (y4_0 : ByteArray) (y4_1 : Bool) (y4_2 : LL) (y5_0 : Int) (y5_1 : LL) (y6_0 : ByteArray) (y6_1 : Bool) : Prop :=
  0 ≤ y5_0 ∧ y5_0 < x0.length ∧ (∃ r1 : D, cl f_r01_Apply [.v (.sl t_Bind) (x8), .agg [.v .str (((x0.getD y5_0.toNat []).drop 3).headD V.none), .v .bool ((((x0.getD y5_0.toNat []).drop 3).tail).headD V.none), .v (.sl t_Term) (((((x0.getD y5_0.toNat []).drop 3).tail).tail).headD V.none)]] [] (fun r H' => r = (.agg [.v .str ((r1.cells.headD .undef).V), .v .bool ((r1.cells.tail.headD .undef).V), .v (.sl t_Term) ((r1.cells.tail.tail.headD .undef).V)]) ∧ H' = []) ∧ cl f_r01_Put [.agg [.v .str (V.s y4_0), .v .bool (V.b y4_1), .v (.sl t_Term) (V.l y4_2)], .v (.sl t_int) (V.l y5_1), .agg [.v .str ((r1.cells.headD .undef).V), .v .bool ((r1.cells.tail.headD .undef).V), .v (.sl t_Term) ((r1.cells.tail.tail.headD .undef).V)]] [] fun r2 H3 => r2 = (.agg [.v .str ((r2.cells.headD .undef).V), .v .bool ((r2.cells.tail.headD .undef).V), .v (.sl t_Term) ((r2.cells.tail.tail.headD .undef).V)]) ∧ H3 = [] ∧ ((True ∧ True ∧ True ∧ True) ∧ True ∧ True) ∧ Q (.tup [.agg [.v .str ((r2.cells.headD .undef).V), .v .bool ((r2.cells.tail.headD .undef).V), .v (.sl t_Term) ((r2.cells.tail.tail.headD .undef).V)], .v (.int .i64) (V.i 0)]) [])
theorem jp_r04_Step_0_s (Q : QD) (x0 : LL) (x8 : V) (y4_0 : ByteArray) (y4_1 : Bool) (y4_2 : LL) (y5_0 : Int) (y5_1 : LL) (y6_0 : ByteArray) (y6_1 : Bool) : jp_r04_Step_0 Q x0 x8 y4_0 y4_1 y4_2 y5_0 y5_1 y6_0 y6_1 = je_r04_Step_0 Q x0 x8 y4_0 y4_1 y4_2 y5_0 y5_1 y6_0 y6_1 := by kernel_rfl
def vc_r04_Step (a0 : LL) (a1_0 : ByteArray) (a1_1 : Bool) (a1_2 : LL) (a2_0 : Int) (a2_1 : LL) (Q : QD) : Prop :=
  cl f_r04_Subst [.v (.sl t_Rule) (V.l a0), .agg [.v .str (V.s a1_0), .v .bool (V.b a1_1), .v (.sl t_Term) (V.l a1_2)], .agg [.v (.int .i64) (V.i a2_0), .v (.sl t_int) (V.l a2_1)]] [] fun r1 H2 => r1 = (.tup [.v (.sl t_Bind) ((r1.parts.headD .undef).V), .v (.int .i64) ((r1.parts.tail.headD .undef).V)]) ∧ H2 = [] ∧ iff ((((r1.parts.tail.headD .undef).V).int) != (0 : Int)) (((True ∧ True ∧ True ∧ True) ∧ True ∧ True) ∧ Q (.tup [.agg [.v .str (V.s (ByteArray.mk #[])), .v .bool (V.b false), .nil], .v (.int .i64) ((r1.parts.tail.headD .undef).V)]) []) (0 ≤ a2_0 ∧ a2_0 < a0.length ∧ cl f_r01_Grown [.v (.sl t_Bind) ((r1.parts.headD .undef).V), .agg [.v .str (((a0.getD a2_0.toNat []).drop 3).headD V.none), .v .bool ((((a0.getD a2_0.toNat []).drop 3).tail).headD V.none), .v (.sl t_Term) (((((a0.getD a2_0.toNat []).drop 3).tail).tail).headD V.none)]] [] fun r3 H4 => r3 = (.tup [.v (.int .i64) ((r3.parts.headD .undef).V), .v (.int .i64) ((r3.parts.tail.headD .undef).V)]) ∧ H4 = [] ∧ cl f_r04_replaced [.agg [.v .str (V.s a1_0), .v .bool (V.b a1_1), .v (.sl t_Term) (V.l a1_2)], .v (.sl t_int) (V.l a2_1), .v (.int .i64) ((r3.parts.headD .undef).V), .v (.int .i64) ((r3.parts.tail.headD .undef).V)] [] fun r5 H6 => r5 = (.tup [.v (.int .i64) ((r5.parts.headD .undef).V), .v (.int .i64) ((r5.parts.tail.headD .undef).V)]) ∧ H6 = [] ∧ iff (decide ((((r5.parts.headD .undef).V).int) > (4000 : Int))) (((True ∧ True ∧ True ∧ True) ∧ True ∧ True) ∧ Q (.tup [.agg [.v .str (V.s (ByteArray.mk #[])), .v .bool (V.b false), .nil], .v (.int .i64) (V.i 3)]) []) (iff (decide ((((r5.parts.tail.headD .undef).V).int) > (200 : Int))) (((True ∧ True ∧ True ∧ True) ∧ True ∧ True) ∧ Q (.tup [.agg [.v .str (V.s (ByteArray.mk #[])), .v .bool (V.b false), .nil], .v (.int .i64) (V.i 3)]) []) (jp_r04_Step_0 Q a0 ((r1.parts.headD .undef).V) a1_0 a1_1 a1_2 a2_0 a2_1 (ByteArray.mk #[]) false)))
theorem C_r04_Step (a0 : LL) (a1_0 : ByteArray) (a1_1 : Bool) (a1_2 : LL) (a2_0 : Int) (a2_1 : LL) (Q : QD) (h : vc_r04_Step a0 a1_0 a1_1 a1_2 a2_0 a2_1 Q) : cl f_r04_Step [.v (.sl t_Rule) (V.l a0), .agg [.v .str (V.s a1_0), .v .bool (V.b a1_1), .v (.sl t_Term) (V.l a1_2)], .agg [.v (.int .i64) (V.i a2_0), .v (.sl t_int) (V.l a2_1)]] [] Q :=
  acalls2 (E := env_r04_Step) (envOk _ _ _ _ _) 0 Tryz.func26 (by kernel_rfl) h
def env_path_Names_Rank_pathCheck1 : Env := envA [(4, ua 4 6 (ua 13 27 ((.dead 6) :: da 19 2 ([.dead 28, .dead 35]))))] [(6, 18, [], [])] [] [] []
def kl_path_Names_Rank_pathCheck1_0 (Q : QD) : Post := blockK 0 (seqJ env_path_Names_Rank_pathCheck1 (fnAt [1, 1, 1] Tryz.f27) (endK env_path_Names_Rank_pathCheck1 Tryz.f27 Q))
@[irreducible] def lp_path_Names_Rank_pathCheck1_0 (Q : QD) (m0 : Nat) (x0 x10 : LL) (x11 x12 : Int) : Prop :=
  iter (adj (env_path_Names_Rank_pathCheck1.adj 4)) (evCode env_path_Names_Rank_pathCheck1 (fnAt [1, 1, 0, 1, 0, 0] Tryz.f27)) (kl_path_Names_Rank_pathCheck1_0 Q) m0 ⟨(.v (.sl t_Rank) (V.l x0)) :: (.fn f_path_Check_1 []) :: sk 2 (un 6 ((.v (.sl t_Rank) (V.l x10)) :: (.v (.int .i64) (V.i x11)) :: (.v (.int .i64) (V.i x12)) :: un 27 ([]))), dd 40 ([])⟩ []
def st_path_Names_Rank_pathCheck1_0 (Q : QD) (m0 : Nat) (x0 x10 : LL) (x11 x12 : Int) : Prop :=
  iff (decide (x12 < x11)) (0 ≤ x12 ∧ x12 < x10.length ∧ (∃ r1 : D, cl f_path_Check_1 [.agg [.v .str (((x10.getD x12.toNat []).drop 0).headD V.none), .v (.int .i64) ((((x10.getD x12.toNat []).drop 0).tail).headD V.none), .v (.int .i64) (((((x10.getD x12.toNat []).drop 0).tail).tail).headD V.none)]] [] (fun r H' => r = (.v .str (r1.V)) ∧ H' = []) ∧ (∃ r2 : D, cl f_term_IsName [.v .str (r1.V), .v .bool (V.b true)] [] (fun r H' => r = (.v .bool (r2.V)) ∧ H' = []) ∧ iff (!r2.V.bool) (True ∧ Q (.v (.int .i64) (V.i 4)) []) (iff (decide (x12 > (0 : Int))) ((∃ r3 : D, cl f_path_Check_1 [.agg [.v .str (((x10.getD x12.toNat []).drop 0).headD V.none), .v (.int .i64) ((((x10.getD x12.toNat []).drop 0).tail).headD V.none), .v (.int .i64) (((((x10.getD x12.toNat []).drop 0).tail).tail).headD V.none)]] [] (fun r H' => r = (.v .str (r3.V)) ∧ H' = []) ∧ 0 ≤ (IntKind.i64.wrap (x12 - (1 : Int))) ∧ (IntKind.i64.wrap (x12 - (1 : Int))) < x0.length ∧ cl f_path_Check_1 [.agg [.v .str (((x0.getD ((IntKind.i64.wrap (x12 - (1 : Int)))).toNat []).drop 0).headD V.none), .v (.int .i64) ((((x0.getD ((IntKind.i64.wrap (x12 - (1 : Int)))).toNat []).drop 0).tail).headD V.none), .v (.int .i64) (((((x0.getD ((IntKind.i64.wrap (x12 - (1 : Int)))).toNat []).drop 0).tail).tail).headD V.none)]] [] fun r4 H5 => r4 = (.v .str (r4.V)) ∧ H5 = [] ∧ iff (Op.bytesLess r3.V.str.toList r4.V.str.toList || r3.V.str.toList == r4.V.str.toList) (True ∧ Q (.v (.int .i64) (V.i 4)) []) (lp_path_Names_Rank_pathCheck1_0 Q m0 x0 x10 x11 (IntKind.i64.wrap (x12 + (1 : Int)))))) (lp_path_Names_Rank_pathCheck1_0 Q m0 x0 x10 x11 (IntKind.i64.wrap (x12 + (1 : Int)))))))) (True ∧ Q (.v (.int .i64) (V.i 0)) [])
theorem lp_path_Names_Rank_pathCheck1_0_s (Q : QD) (m0 : Nat) (x0 x10 : LL) (x11 x12 : Int) : lp_path_Names_Rank_pathCheck1_0 Q (m0 + 1) x0 x10 x11 x12 = st_path_Names_Rank_pathCheck1_0 Q m0 x0 x10 x11 x12 := by kernel_rfl
theorem range_path_Names_Rank_pathCheck1_0 (Q : QD) (x0 x10 : LL) (n : Nat) (hb : n ≤ big) (J : Nat → Prop)
    (step : ∀ (k : Nat), k < n → J k → ∀ K : Prop, (J (k + 1) → K) → (0 ≤ (k : Int) ∧ (k : Int) < x10.length ∧ (∃ r1 : D, cl f_path_Check_1 [.agg [.v .str (((x10.getD k []).drop 0).headD V.none), .v (.int .i64) ((((x10.getD k []).drop 0).tail).headD V.none), .v (.int .i64) (((((x10.getD k []).drop 0).tail).tail).headD V.none)]] [] (fun r H' => r = (.v .str (r1.V)) ∧ H' = []) ∧ (∃ r2 : D, cl f_term_IsName [.v .str (r1.V), .v .bool (V.b true)] [] (fun r H' => r = (.v .bool (r2.V)) ∧ H' = []) ∧ iff (!r2.V.bool) (True ∧ Q (.v (.int .i64) (V.i 4)) []) (iff (decide ((k : Int) > (0 : Int))) ((∃ r3 : D, cl f_path_Check_1 [.agg [.v .str (((x10.getD k []).drop 0).headD V.none), .v (.int .i64) ((((x10.getD k []).drop 0).tail).headD V.none), .v (.int .i64) (((((x10.getD k []).drop 0).tail).tail).headD V.none)]] [] (fun r H' => r = (.v .str (r3.V)) ∧ H' = []) ∧ 0 ≤ (IntKind.i64.wrap ((k : Int) - (1 : Int))) ∧ (IntKind.i64.wrap ((k : Int) - (1 : Int))) < x0.length ∧ cl f_path_Check_1 [.agg [.v .str (((x0.getD ((IntKind.i64.wrap ((k : Int) - (1 : Int)))).toNat []).drop 0).headD V.none), .v (.int .i64) ((((x0.getD ((IntKind.i64.wrap ((k : Int) - (1 : Int)))).toNat []).drop 0).tail).headD V.none), .v (.int .i64) (((((x0.getD ((IntKind.i64.wrap ((k : Int) - (1 : Int)))).toNat []).drop 0).tail).tail).headD V.none)]] [] fun r4 H5 => r4 = (.v .str (r4.V)) ∧ H5 = [] ∧ iff (Op.bytesLess r3.V.str.toList r4.V.str.toList || r3.V.str.toList == r4.V.str.toList) (True ∧ Q (.v (.int .i64) (V.i 4)) []) (K))) (K))))))
    (last : J n → (True ∧ Q (.v (.int .i64) (V.i 0)) []))
    (k : Nat) (le0 : k ≤ n) (hj : J k) : ∃ m0, lp_path_Names_Rank_pathCheck1_0 Q m0 x0 x10 (n : Int) ((k : Int)) := by
  exact rangeG0 n hb J (fun m0 i => lp_path_Names_Rank_pathCheck1_0 Q m0 x0 x10 (n : Int) i) (fun m0 i => lp_path_Names_Rank_pathCheck1_0_s Q m0 x0 x10 (n : Int) i) (fun k hl_ hj_ m_ ih_ => step k hl_ hj_ _ ih_) last k le0 hj
def vc_path_Names_Rank_pathCheck1 (a0 : LL) (Q : QD) : Prop :=
  (a0.length ≤ big → iff (decide (((a0.length : Int)) > (256 : Int))) (True ∧ Q (.v (.int .i64) (V.i 3)) []) ((a0.length ≤ big → ∃ m0, lp_path_Names_Rank_pathCheck1_0 Q m0 a0 a0 ((a0.length : Int)) 0)))
theorem C_path_Names_Rank_pathCheck1 (a0 : LL) (Q : QD) (h : vc_path_Names_Rank_pathCheck1 a0 Q) : cl f_path_Names_Rank [.v (.sl t_Rank) (V.l a0), .fn f_path_Check_1 []] [] Q :=
  acalls2 (E := env_path_Names_Rank_pathCheck1) (envOk _ _ _ _ _) 0 Tryz.func27 (by kernel_rfl) h
def env_slices_ContainsFunc_Rank_pathCheck2 : Env := envA [] [] [] [] []
def vc_slices_ContainsFunc_Rank_pathCheck2 (a0 : LL) (Q : QD) : Prop :=
  cl f_slices_IndexFunc_Rank [.v (.sl t_Rank) (V.l a0), .fn f_path_Check_2 []] [] fun r1 H2 => r1 = (.v (.int .i64) (r1.V)) ∧ H2 = [] ∧ True ∧ Q (.v .bool (V.b (decide (r1.V.int ≥ (0 : Int))))) []
theorem C_slices_ContainsFunc_Rank_pathCheck2 (a0 : LL) (Q : QD) (h : vc_slices_ContainsFunc_Rank_pathCheck2 a0 Q) : cl f_slices_ContainsFunc_Rank [.v (.sl t_Rank) (V.l a0), .fn f_path_Check_2 []] [] Q :=
  acalls2 (E := env_slices_ContainsFunc_Rank_pathCheck2) (envOk _ _ _ _ _) 0 Tryz.func29 (by kernel_rfl) h
def env_term_CheckRules : Env := envA [(4, (.undef 0) :: (.undef 2) :: ua 4 5 (ua 12 13 ((.dead 4) :: da 19 2 ([]))))] [] [] [] []
def kl_term_CheckRules_0 (Q : QD) : Post := blockK 0 (seqJ env_term_CheckRules (fnAt [1, 1, 1] Tryz.f31) (endK env_term_CheckRules Tryz.f31 Q))
@[irreducible] def lp_term_CheckRules_0 (Q : QD) (m0 : Nat) (x9 : LL) (x10 x11 : Int) : Prop :=
  iter (adj (env_term_CheckRules.adj 4)) (evCode env_term_CheckRules (fnAt [1, 1, 0, 1, 0, 0] Tryz.f31)) (kl_term_CheckRules_0 Q) m0 ⟨.undef :: .skip :: .undef :: .skip :: un 5 ((.v (.sl t_Rule) (V.l x9)) :: (.v (.int .i64) (V.i x10)) :: (.v (.int .i64) (V.i x11)) :: un 13 ([])), dd 25 ([])⟩ []
def st_term_CheckRules_0 (Q : QD) (m0 : Nat) (x9 : LL) (x10 x11 : Int) : Prop :=
  iff (decide (x11 < x10)) (0 ≤ x11 ∧ x11 < x9.length ∧ cl f_term_All [.v (.sl t_Term) (V.l ([[((x9.getD x11.toNat []).drop 0).headD V.none, (((x9.getD x11.toNat []).drop 0).tail).headD V.none, ((((x9.getD x11.toNat []).drop 0).tail).tail).headD V.none], [(((((x9.getD x11.toNat []).drop 0).tail).tail).tail).headD V.none, ((((((x9.getD x11.toNat []).drop 0).tail).tail).tail).tail).headD V.none, (((((((x9.getD x11.toNat []).drop 0).tail).tail).tail).tail).tail).headD V.none]]))] [] fun r1 H2 => r1 = (.v (.int .i64) (r1.V)) ∧ H2 = [] ∧ iff (r1.V.int != (0 : Int)) (True ∧ Q (.v (.int .i64) (r1.V)) []) (lp_term_CheckRules_0 Q m0 x9 x10 (IntKind.i64.wrap (x11 + (1 : Int))))) (True ∧ Q (.v (.int .i64) (V.i 0)) [])
theorem lp_term_CheckRules_0_s (Q : QD) (m0 : Nat) (x9 : LL) (x10 x11 : Int) : lp_term_CheckRules_0 Q (m0 + 1) x9 x10 x11 = st_term_CheckRules_0 Q m0 x9 x10 x11 := by kernel_rfl
theorem range_term_CheckRules_0 (Q : QD) (x9 : LL) (n : Nat) (hb : n ≤ big) (J : Nat → Prop)
    (step : ∀ (k : Nat), k < n → J k → ∀ K : Prop, (J (k + 1) → K) → (0 ≤ (k : Int) ∧ (k : Int) < x9.length ∧ cl f_term_All [.v (.sl t_Term) (V.l ([[((x9.getD k []).drop 0).headD V.none, (((x9.getD k []).drop 0).tail).headD V.none, ((((x9.getD k []).drop 0).tail).tail).headD V.none], [(((((x9.getD k []).drop 0).tail).tail).tail).headD V.none, ((((((x9.getD k []).drop 0).tail).tail).tail).tail).headD V.none, (((((((x9.getD k []).drop 0).tail).tail).tail).tail).tail).headD V.none]]))] [] fun r1 H2 => r1 = (.v (.int .i64) (r1.V)) ∧ H2 = [] ∧ iff (r1.V.int != (0 : Int)) (True ∧ Q (.v (.int .i64) (r1.V)) []) (K)))
    (last : J n → (True ∧ Q (.v (.int .i64) (V.i 0)) []))
    (k : Nat) (le0 : k ≤ n) (hj : J k) : ∃ m0, lp_term_CheckRules_0 Q m0 x9 (n : Int) ((k : Int)) := by
  exact rangeG0 n hb J (fun m0 i => lp_term_CheckRules_0 Q m0 x9 (n : Int) i) (fun m0 i => lp_term_CheckRules_0_s Q m0 x9 (n : Int) i) (fun k hl_ hj_ m_ ih_ => step k hl_ hj_ _ ih_) last k le0 hj
def vc_term_CheckRules (a0 : LL) (Q : QD) : Prop :=
  (a0.length ≤ big → iff (decide (((a0.length : Int)) > (64 : Int))) (True ∧ Q (.v (.int .i64) (V.i 3)) []) ((a0.length ≤ big → ∃ m0, lp_term_CheckRules_0 Q m0 a0 ((a0.length : Int)) 0)))
theorem C_term_CheckRules (a0 : LL) (Q : QD) (h : vc_term_CheckRules a0 Q) : cl f_term_CheckRules [.v (.sl t_Rule) (V.l a0)] [] Q :=
  acalls2 (E := env_term_CheckRules) (envOk _ _ _ _ _) 0 Tryz.func31 (by kernel_rfl) h
def env_term_Arities : Env := envA [(3, (.undef 0) :: (.undef 6) :: (.undef 8) :: ua 10 4 (ua 17 13 (ua 32 25 ([.dead 6, .dead 8, .dead 10, .dead 29, .dead 46, .dead 54])))), (6, (.undef 0) :: (.undef 6) :: (.undef 8) :: ua 10 4 (ua 17 7 (ua 26 4 (ua 32 25 ([.dead 6, .dead 8, .dead 10, .dead 29, .dead 46, .dead 54]))))), (10, (.undef 0) :: (.undef 6) :: (.undef 8) :: ua 10 4 (ua 17 7 (ua 26 3 (ua 32 25 ([.dead 8])))))] [] [] [] []
def kl_term_Arities_0 (Q : QD) : Post := blockK 0 (seqJ env_term_Arities (fnAt [1, 1, 1] Tryz.f32) (endK env_term_Arities Tryz.f32 Q))
def kl_term_Arities_1 (Q : QD) (m0 : Nat) : Post := blockK 2 (blockK 1 (seqJ env_term_Arities (fnAt [1, 1, 0, 1, 0, 0, 1, 1, 1] Tryz.f32) (loopK (adj (env_term_Arities.adj 3)) (iter (adj (env_term_Arities.adj 3)) (evCode env_term_Arities (fnAt [1, 1, 0, 1, 0, 0] Tryz.f32)) (kl_term_Arities_0 Q) m0) (kl_term_Arities_0 Q))))
@[irreducible] def rg_term_Arities_2 (Q : QD) (m0 m1 : Nat) (zx14 : LL) (zx15 zx16 : Int) (zx24_0 zx24_1 zx24_2 zx24_3 zx24_4 zx24_5 : V) (zx25 : Int) (zx29_0 : List V) (zy3_0 : Bool) (zy13 : LL) (q1_0 : Bool) (q3 : LL) (rows : LL) : Prop :=
  rangeR (evCode env_term_Arities (fnAt [1, 1, 0, 1, 0, 0, 1, 1, 0, 0, 1, 1, 0, 0, 1, 1, 0, 0, 1, 1, 0, 0] Tryz.f32)) (evCode env_term_Arities (fnAt [1, 1, 0, 1, 0, 0, 1, 1, 0, 0, 1, 1, 0, 0, 1, 1, 0, 0, 1, 1, 0, 1] Tryz.f32)) [30, 31] (rowA 77) [.cells [.undef], .cells [.v .bool (V.b zy3_0)], .cells [.mp (.own 3)], .map mt_9_3 zy13] (.undef :: .skip :: (.ptr (.own 0) 0) :: (.ptr (.own 1) 0) :: (.ptr (.own 2) 0) :: .skip :: .undef :: .skip :: .undef :: .skip :: un 4 ((.v (.sl t_Rule) (V.l zx14)) :: (.v (.int .i64) (V.i zx15)) :: (.v (.int .i64) (V.i zx16)) :: un 7 ((.agg [.v .str (zx24_0), .v .bool (zx24_1), .v (.sl t_Term) (zx24_2), .v .str (zx24_3), .v .bool (zx24_4), .v (.sl t_Term) (zx24_5)]) :: (.v (.int .i64) (V.i zx25)) :: un 3 ((.fn f_term_Walk_1 [.elt t_Term zx29_0 0]) :: sk 2 (un 25 ([.skip])))))) (dd 58 []) (outR env_term_Arities [.loc 2, .loc 3, .loc 4, .loc 13] ⟨.undef :: .skip :: (.ptr (.loc 2) 0) :: (.ptr (.loc 3) 0) :: (.ptr (.loc 4) 0) :: .skip :: .undef :: .skip :: .undef :: .skip :: un 4 ((.v (.sl t_Rule) (V.l zx14)) :: (.v (.int .i64) (V.i zx15)) :: (.v (.int .i64) (V.i zx16)) :: un 7 ((.agg [.v .str (zx24_0), .v .bool (zx24_1), .v (.sl t_Term) (zx24_2), .v .str (zx24_3), .v .bool (zx24_4), .v (.sl t_Term) (zx24_5)]) :: (.v (.int .i64) (V.i zx25)) :: un 3 ((.fn f_term_Walk_1 [.elt t_Term zx29_0 0]) :: sk 2 (un 25 ([.skip]))))), dd 2 ((.cells [.undef]) :: (.cells [.v .bool (V.b zy3_0)]) :: (.cells [.mp (.loc 13)]) :: dd 8 ((.map mt_9_3 zy13) :: dd 44 ([])))⟩ [] (blockK 4 (blockK 3 (seqJ env_term_Arities (fnAt [1, 1, 0, 1, 0, 0, 1, 1, 0, 0, 1, 1, 0, 0, 1, 1, 1] Tryz.f32) (loopK (adj (env_term_Arities.adj 6)) (iter (adj (env_term_Arities.adj 6)) (evCode env_term_Arities (fnAt [1, 1, 0, 1, 0, 0, 1, 1, 0, 0, 1, 1, 0, 0] Tryz.f32)) (kl_term_Arities_1 Q m0) m1) (kl_term_Arities_1 Q m0)))))) rows [.cells [.undef], .cells [.v .bool (V.b q1_0)], .cells [.mp (.own 3)], .map mt_9_3 q3]
@[irreducible] def lp_term_Arities_1 (Q : QD) (m0 m1 : Nat) (x14 : LL) (x15 x16 : Int) (x24_0 x24_1 x24_2 x24_3 x24_4 x24_5 : V) (x25 : Int) (y3_0 : Bool) (y13 : LL) : Prop :=
  iter (adj (env_term_Arities.adj 6)) (evCode env_term_Arities (fnAt [1, 1, 0, 1, 0, 0, 1, 1, 0, 0, 1, 1, 0, 0] Tryz.f32)) (kl_term_Arities_1 Q m0) m1 ⟨.undef :: .skip :: (.ptr (.loc 2) 0) :: (.ptr (.loc 3) 0) :: (.ptr (.loc 4) 0) :: .skip :: .undef :: .skip :: .undef :: .skip :: un 4 ((.v (.sl t_Rule) (V.l x14)) :: (.v (.int .i64) (V.i x15)) :: (.v (.int .i64) (V.i x16)) :: un 7 ((.agg [.v .str (x24_0), .v .bool (x24_1), .v (.sl t_Term) (x24_2), .v .str (x24_3), .v .bool (x24_4), .v (.sl t_Term) (x24_5)]) :: (.v (.int .i64) (V.i x25)) :: un 4 (sk 2 (un 25 ([.skip]))))), dd 2 ((.cells [.undef]) :: (.cells [.v .bool (V.b y3_0)]) :: (.cells [.mp (.loc 13)]) :: dd 8 ((.map mt_9_3 y13) :: dd 44 ([])))⟩ []
@[irreducible] def lp_term_Arities_0 (Q : QD) (m0 : Nat) (x14 : LL) (x15 x16 : Int) (y3_0 : Bool) (y13 : LL) : Prop :=
  iter (adj (env_term_Arities.adj 3)) (evCode env_term_Arities (fnAt [1, 1, 0, 1, 0, 0] Tryz.f32)) (kl_term_Arities_0 Q) m0 ⟨.undef :: .skip :: (.ptr (.loc 2) 0) :: (.ptr (.loc 3) 0) :: (.ptr (.loc 4) 0) :: .skip :: .undef :: .skip :: .undef :: .skip :: un 4 ((.v (.sl t_Rule) (V.l x14)) :: (.v (.int .i64) (V.i x15)) :: (.v (.int .i64) (V.i x16)) :: un 13 (sk 2 (un 25 ([.skip])))), dd 2 ((.cells [.undef]) :: (.cells [.v .bool (V.b y3_0)]) :: (.cells [.mp (.loc 13)]) :: dd 8 ((.map mt_9_3 y13) :: dd 44 ([])))⟩ []
theorem rgn_term_Arities_2 (Q : QD) (m0 m1 : Nat) (zx14 : LL) (zx15 zx16 : Int) (zx24_0 zx24_1 zx24_2 zx24_3 zx24_4 zx24_5 : V) (zx25 : Int) (zx29_0 : List V) (zy3_0 : Bool) (zy13 : LL) (q1_0 : Bool) (q3 : LL) : rg_term_Arities_2 Q m0 m1 zx14 zx15 zx16 zx24_0 zx24_1 zx24_2 zx24_3 zx24_4 zx24_5 zx25 zx29_0 zy3_0 zy13 q1_0 q3 [] = (lp_term_Arities_1 Q m0 m1 zx14 zx15 zx16 zx24_0 zx24_1 zx24_2 zx24_3 zx24_4 zx24_5 (IntKind.i64.wrap (zx25 + (1 : Int))) q1_0 q3) := by kernel_rfl
theorem rgc_term_Arities_2 (Q : QD) (m0 m1 : Nat) (zx14 : LL) (zx15 zx16 : Int) (zx24_0 zx24_1 zx24_2 zx24_3 zx24_4 zx24_5 : V) (zx25 : Int) (zx29_0 : List V) (zy3_0 : Bool) (zy13 : LL) (q1_0 : Bool) (q3 : LL) (r : List V) (rs : LL) : rg_term_Arities_2 Q m0 m1 zx14 zx15 zx16 zx24_0 zx24_1 zx24_2 zx24_3 zx24_4 zx24_5 zx25 zx29_0 zy3_0 zy13 q1_0 q3 (r :: rs) = (iff ((r.tail.headD V.none).bool) (rg_term_Arities_2 Q m0 m1 zx14 zx15 zx16 zx24_0 zx24_1 zx24_2 zx24_3 zx24_4 zx24_5 zx25 zx29_0 zy3_0 zy13 q1_0 q3 rs) (iff (mhas [.str] [r.headD V.none] q3) ((((r.tail.tail.headD V.none).list).length ≤ big → iff ((((mget [.str] [V.i 0] [r.headD V.none] q3).headD V.none).int) != ((((r.tail.tail.headD V.none).list).length : Int))) ((True ∧ True ∧ True) ∧ Q (.tup [.v (.mp mt_9_3) (V.l ([])), .v .bool (V.b false)]) []) ((((r.tail.tail.headD V.none).list).length ≤ big → rg_term_Arities_2 Q m0 m1 zx14 zx15 zx16 zx24_0 zx24_1 zx24_2 zx24_3 zx24_4 zx24_5 zx25 zx29_0 zy3_0 zy13 q1_0 (mset [.str] [r.headD V.none] [V.i ((((r.tail.tail.headD V.none).list).length : Int))] q3) rs)))) ((((r.tail.tail.headD V.none).list).length ≤ big → rg_term_Arities_2 Q m0 m1 zx14 zx15 zx16 zx24_0 zx24_1 zx24_2 zx24_3 zx24_4 zx24_5 zx25 zx29_0 zy3_0 zy13 q1_0 (mset [.str] [r.headD V.none] [V.i ((((r.tail.tail.headD V.none).list).length : Int))] q3) rs)))) := by kernel_rfl
theorem each_term_Arities_2 (Q : QD) (m0 m1 : Nat) (zx14 : LL) (zx15 zx16 : Int) (zx24_0 zx24_1 zx24_2 zx24_3 zx24_4 zx24_5 : V) (zx25 : Int) (zx29_0 : List V) (zy3_0 : Bool) (zy13 : LL) (J : LL → Bool → LL → Prop)
    (step : ∀ (r : List V) (rs : LL) (q1_0 : Bool) (q3 : LL), J (r :: rs) q1_0 q3 → ∀ K : Bool → LL → Prop, (∀ (q1_0' : Bool) (q3' : LL), J rs q1_0' q3' → K q1_0' q3') → (iff ((r.tail.headD V.none).bool) (K q1_0 q3) (iff (mhas [.str] [r.headD V.none] q3) ((((r.tail.tail.headD V.none).list).length ≤ big → iff ((((mget [.str] [V.i 0] [r.headD V.none] q3).headD V.none).int) != ((((r.tail.tail.headD V.none).list).length : Int))) ((True ∧ True ∧ True) ∧ Q (.tup [.v (.mp mt_9_3) (V.l ([])), .v .bool (V.b false)]) []) ((((r.tail.tail.headD V.none).list).length ≤ big → K q1_0 (mset [.str] [r.headD V.none] [V.i ((((r.tail.tail.headD V.none).list).length : Int))] q3))))) ((((r.tail.tail.headD V.none).list).length ≤ big → K q1_0 (mset [.str] [r.headD V.none] [V.i ((((r.tail.tail.headD V.none).list).length : Int))] q3))))))
    (last : ∀ (q1_0 : Bool) (q3 : LL), J [] q1_0 q3 → (lp_term_Arities_1 Q m0 m1 zx14 zx15 zx16 zx24_0 zx24_1 zx24_2 zx24_3 zx24_4 zx24_5 (IntKind.i64.wrap (zx25 + (1 : Int))) q1_0 q3))
    : ∀ (rows : LL) (q1_0 : Bool) (q3 : LL), J rows q1_0 q3 → rg_term_Arities_2 Q m0 m1 zx14 zx15 zx16 zx24_0 zx24_1 zx24_2 zx24_3 zx24_4 zx24_5 zx25 zx29_0 zy3_0 zy13 q1_0 q3 rows := by
  intro rows
  induction rows with
  | nil => intro q1_0 q3 h; rw [rgn_term_Arities_2]; exact last q1_0 q3 h
  | cons r rs ih => intro q1_0 q3 h; rw [rgc_term_Arities_2]; exact step r rs q1_0 q3 h (fun q1_0 q3 => rg_term_Arities_2 Q m0 m1 zx14 zx15 zx16 zx24_0 zx24_1 zx24_2 zx24_3 zx24_4 zx24_5 zx25 zx29_0 zy3_0 zy13 q1_0 q3 rs) ih
def st_term_Arities_1 (Q : QD) (m0 m1 : Nat) (x14 : LL) (x15 x16 : Int) (x24_0 x24_1 x24_2 x24_3 x24_4 x24_5 : V) (x25 : Int) (y3_0 : Bool) (y13 : LL) : Prop :=
  iff (decide (x25 < (2 : Int))) (0 ≤ x25 ∧ x25 < (2 : Int) ∧ cl f_term_Walk [.agg [.v .str ((([[x24_0, x24_1, x24_2], [x24_3, x24_4, x24_5]] : List (List V)).getD x25.toNat []).headD V.none), .v .bool (((([[x24_0, x24_1, x24_2], [x24_3, x24_4, x24_5]] : List (List V)).getD x25.toNat []).tail).headD V.none), .v (.sl t_Term) ((((([[x24_0, x24_1, x24_2], [x24_3, x24_4, x24_5]] : List (List V)).getD x25.toNat []).tail).tail).headD V.none)]] [] fun r1 H2 => r1 = (.fn f_term_Walk_1 [.elt t_Term ((r1.capsOf.headD .undef).eltOf) 0]) ∧ H2 = [] ∧ ∃ rows : LL, itA 77 [.elt t_Term ((r1.capsOf.headD .undef).eltOf) 0] rows ∧ rg_term_Arities_2 Q m0 m1 x14 x15 x16 x24_0 x24_1 x24_2 x24_3 x24_4 x24_5 x25 ((r1.capsOf.headD .undef).eltOf) y3_0 y13 y3_0 y13 rows) (lp_term_Arities_0 Q m0 x14 x15 (IntKind.i64.wrap (x16 + (1 : Int))) y3_0 y13)
theorem lp_term_Arities_1_s (Q : QD) (m0 m1 : Nat) (x14 : LL) (x15 x16 : Int) (x24_0 x24_1 x24_2 x24_3 x24_4 x24_5 : V) (x25 : Int) (y3_0 : Bool) (y13 : LL) : lp_term_Arities_1 Q m0 (m1 + 1) x14 x15 x16 x24_0 x24_1 x24_2 x24_3 x24_4 x24_5 x25 y3_0 y13 = st_term_Arities_1 Q m0 m1 x14 x15 x16 x24_0 x24_1 x24_2 x24_3 x24_4 x24_5 x25 y3_0 y13 := by kernel_rfl
theorem rule_term_Arities_1 (Q : QD) (m0 : Nat) : RuleG12 (lp_term_Arities_1 Q m0) (st_term_Arities_1 Q m0) := ruleG12 _ _ (lp_term_Arities_1_s Q m0)
def st_term_Arities_0 (Q : QD) (m0 : Nat) (x14 : LL) (x15 x16 : Int) (y3_0 : Bool) (y13 : LL) : Prop :=
  iff (decide (x16 < x15)) (0 ≤ x16 ∧ x16 < x14.length ∧ ∃ m1, lp_term_Arities_1 Q m0 m1 x14 x15 x16 (((x14.getD x16.toNat []).drop 0).headD V.none) ((((x14.getD x16.toNat []).drop 0).tail).headD V.none) (((((x14.getD x16.toNat []).drop 0).tail).tail).headD V.none) ((((((x14.getD x16.toNat []).drop 0).tail).tail).tail).headD V.none) (((((((x14.getD x16.toNat []).drop 0).tail).tail).tail).tail).headD V.none) ((((((((x14.getD x16.toNat []).drop 0).tail).tail).tail).tail).tail).headD V.none) 0 y3_0 y13) ((True ∧ True ∧ True) ∧ Q (.tup [.v (.mp mt_9_3) (V.l y13), .v .bool (V.b true)]) [])
theorem lp_term_Arities_0_s (Q : QD) (m0 : Nat) (x14 : LL) (x15 x16 : Int) (y3_0 : Bool) (y13 : LL) : lp_term_Arities_0 Q (m0 + 1) x14 x15 x16 y3_0 y13 = st_term_Arities_0 Q m0 x14 x15 x16 y3_0 y13 := by kernel_rfl
theorem rule_term_Arities_0 (Q : QD) : RuleG5 (lp_term_Arities_0 Q) (st_term_Arities_0 Q) := ruleG5 _ _ (lp_term_Arities_0_s Q)
def vc_term_Arities (a0 : LL) (Q : QD) : Prop :=
  (a0.length ≤ big → ∃ m0, lp_term_Arities_0 Q m0 a0 ((a0.length : Int)) 0 false (([] : List (List V))))
theorem C_term_Arities (a0 : LL) (Q : QD) (h : vc_term_Arities a0 Q) : cl f_term_Arities [.v (.sl t_Rule) (V.l a0)] [] Q :=
  acalls2 (E := env_term_Arities) (envOk _ _ _ _ _) 0 Tryz.func32 (by kernel_rfl) h
def env_slices_ContainsFunc_Rule_termextra : Env := envA [] [] [] [] []
def vc_slices_ContainsFunc_Rule_termextra (a0 : LL) (Q : QD) : Prop :=
  cl f_slices_IndexFunc_Rule [.v (.sl t_Rule) (V.l a0), .fn f_term_extra []] [] fun r1 H2 => r1 = (.v (.int .i64) (r1.V)) ∧ H2 = [] ∧ True ∧ Q (.v .bool (V.b (decide (r1.V.int ≥ (0 : Int))))) []
theorem C_slices_ContainsFunc_Rule_termextra (a0 : LL) (Q : QD) (h : vc_slices_ContainsFunc_Rule_termextra a0 Q) : cl f_slices_ContainsFunc_Rule [.v (.sl t_Rule) (V.l a0), .fn f_term_extra []] [] Q :=
  acalls2 (E := env_slices_ContainsFunc_Rule_termextra) (envOk _ _ _ _ _) 0 Tryz.func34 (by kernel_rfl) h
def env_term_Marked : Env := envA [] [] [] [] []
def vc_term_Marked (a0 : ByteArray) (Q : QD) : Prop :=
  cl f_strings_HasSuffix [.v .str (V.s a0), .v .str (V.s (ByteArray.mk #[35]))] [] fun r1 H2 => r1 = (.v .bool (r1.V)) ∧ H2 = [] ∧ True ∧ Q (.v .bool (r1.V)) []
theorem C_term_Marked (a0 : ByteArray) (Q : QD) (h : vc_term_Marked a0 Q) : cl f_term_Marked [.v .str (V.s a0)] [] Q :=
  acalls2 (E := env_term_Marked) (envOk _ _ _ _ _) 0 Tryz.func33 (by kernel_rfl) h
def env_path_nodes_nil : Env := envA [(1000000, [.ownT 1 33 t_path_node]), (3, (.undef 0) :: (.undef 2) :: (.undef 4) :: ua 7 4 (ua 14 15 ((.dead 2) :: (.dead 7) :: (.dead 19) :: (.dead 23) :: da 25 2 ([.ownC 5 3 34 t_int]))))] [] [] [(8, [⟨5, 3, 34⟩])] []
def kl_path_nodes_nil_0 (Q : QD) : Post := blockK 0 (seqJ env_path_nodes_nil (fnAt [1, 1, 1] Tryz.f36) (endK env_path_nodes_nil Tryz.f36 Q))
@[irreducible] def lp_path_nodes_nil_0 (Q : QD) (m0 : Nat) (x1n : Nat) (x11 : LL) (x12 x13 : Int) (y5_0 : ByteArray) (y5_1 : Bool) (y5_2 : LL) (y5_3n : Nat) (y33 y34 : LL) : Prop :=
  iter (adj (env_path_nodes_nil.adj 3)) (evCode env_path_nodes_nil (fnAt [1, 1, 0, 1, 0, 0] Tryz.f36)) (kl_path_nodes_nil_0 Q) m0 ⟨.undef :: (.osl (.loc 33) x1n) :: .undef :: .skip :: .undef :: (.ptr (.loc 5) 0) :: .skip :: un 4 ((.v (.sl t_Term) (V.l x11)) :: (.v (.int .i64) (V.i x12)) :: (.v (.int .i64) (V.i x13)) :: un 15 (sk 4 ([]))), dd 5 ((.cells [.v .str (V.s y5_0), .v .bool (V.b y5_1), .v (.sl t_Term) (V.l y5_2), .osl (.loc 34) y5_3n]) :: dd 27 ([.row t_path_node y33, .row t_int y34]))⟩ []
def st_path_nodes_nil_0 (Q : QD) (m0 : Nat) (x1n : Nat) (x11 : LL) (x12 x13 : Int) (y5_0 : ByteArray) (y5_1 : Bool) (y5_2 : LL) (y5_3n : Nat) (y33 y34 : LL) : Prop :=
  iff (decide (x13 < x12)) (0 ≤ x13 ∧ x13 < x11.length ∧ cl f_path_nodes [.agg [.v .str (((x11.getD x13.toNat []).drop 0).headD V.none), .v .bool ((((x11.getD x13.toNat []).drop 0).tail).headD V.none), .v (.sl t_Term) (((((x11.getD x13.toNat []).drop 0).tail).tail).headD V.none)], .osl (.own 0) x1n] [.row t_path_node y33] fun r1 H2 => r1 = (.osl (.own 0) r1.len) ∧ H2 = [.row t_path_node ((H2.headD .dead).xs)] ∧ ((H2.headD .dead).xs).length = r1.len ∧ (r1.len ≤ big → y34.length = y5_3n ∧ y5_3n + ([[V.i (IntKind.i64.wrap ((((r1.len : Nat) : Int)) - (1 : Int)))]]).length ≤ lim ∧ lp_path_nodes_nil_0 Q m0 r1.len x11 x12 (IntKind.i64.wrap (x13 + (1 : Int))) y5_0 y5_1 y5_2 (y5_3n + ([[V.i (IntKind.i64.wrap ((((r1.len : Nat) : Int)) - (1 : Int)))]]).length) ((H2.headD .dead).xs) (y34 ++ ([[V.i (IntKind.i64.wrap ((((r1.len : Nat) : Int)) - (1 : Int)))]])))) (y5_3n = y34.length ∧ y33.length = x1n ∧ x1n + ([[V.s y5_0, V.b y5_1, V.l y5_2, V.l y34]]).length ≤ lim ∧ (x1n + ([[V.s y5_0, V.b y5_1, V.l y5_2, V.l y34]]).length = (y33 ++ ([[V.s y5_0, V.b y5_1, V.l y5_2, V.l y34]])).length) ∧ Q (.v (.sl t_path_node) (V.l (y33 ++ ([[V.s y5_0, V.b y5_1, V.l y5_2, V.l y34]])))) [])
theorem lp_path_nodes_nil_0_s (Q : QD) (m0 : Nat) (x1n : Nat) (x11 : LL) (x12 x13 : Int) (y5_0 : ByteArray) (y5_1 : Bool) (y5_2 : LL) (y5_3n : Nat) (y33 y34 : LL) : lp_path_nodes_nil_0 Q (m0 + 1) x1n x11 x12 x13 y5_0 y5_1 y5_2 y5_3n y33 y34 = st_path_nodes_nil_0 Q m0 x1n x11 x12 x13 y5_0 y5_1 y5_2 y5_3n y33 y34 := by kernel_rfl
theorem range_path_nodes_nil_0 (Q : QD) (x11 : LL) (y5_0 : ByteArray) (y5_1 : Bool) (y5_2 : LL) (n : Nat) (hb : n ≤ big) (J : Nat → Nat → Nat → LL → LL → Prop)
    (step : ∀ (k : Nat) (x1n y5_3n : Nat) (y33 y34 : LL), k < n → J k x1n y5_3n y33 y34 → ∀ K : Nat → Nat → LL → LL → Prop, (∀ (x1n' y5_3n' : Nat) (y33' y34' : LL), J (k + 1) x1n' y5_3n' y33' y34' → K x1n' y5_3n' y33' y34') → (0 ≤ (k : Int) ∧ (k : Int) < x11.length ∧ cl f_path_nodes [.agg [.v .str (((x11.getD k []).drop 0).headD V.none), .v .bool ((((x11.getD k []).drop 0).tail).headD V.none), .v (.sl t_Term) (((((x11.getD k []).drop 0).tail).tail).headD V.none)], .osl (.own 0) x1n] [.row t_path_node y33] fun r1 H2 => r1 = (.osl (.own 0) r1.len) ∧ H2 = [.row t_path_node ((H2.headD .dead).xs)] ∧ ((H2.headD .dead).xs).length = r1.len ∧ (r1.len ≤ big → y34.length = y5_3n ∧ y5_3n + ([[V.i (IntKind.i64.wrap ((((r1.len : Nat) : Int)) - (1 : Int)))]]).length ≤ lim ∧ K r1.len (y5_3n + ([[V.i (IntKind.i64.wrap ((((r1.len : Nat) : Int)) - (1 : Int)))]]).length) ((H2.headD .dead).xs) (y34 ++ ([[V.i (IntKind.i64.wrap ((((r1.len : Nat) : Int)) - (1 : Int)))]])))))
    (last : ∀ (x1n y5_3n : Nat) (y33 y34 : LL), J n x1n y5_3n y33 y34 → (y5_3n = y34.length ∧ y33.length = x1n ∧ x1n + ([[V.s y5_0, V.b y5_1, V.l y5_2, V.l y34]]).length ≤ lim ∧ (x1n + ([[V.s y5_0, V.b y5_1, V.l y5_2, V.l y34]]).length = (y33 ++ ([[V.s y5_0, V.b y5_1, V.l y5_2, V.l y34]])).length) ∧ Q (.v (.sl t_path_node) (V.l (y33 ++ ([[V.s y5_0, V.b y5_1, V.l y5_2, V.l y34]])))) []))
    (k : Nat) (x1n y5_3n : Nat) (y33 y34 : LL) (le0 : k ≤ n) (hj : J k x1n y5_3n y33 y34) : ∃ m0, lp_path_nodes_nil_0 Q m0 x1n x11 (n : Int) ((k : Int)) y5_0 y5_1 y5_2 y5_3n y33 y34 := by
  exact rangeG4 n hb J (fun m0 i x1n y5_3n y33 y34 => lp_path_nodes_nil_0 Q m0 x1n x11 (n : Int) i y5_0 y5_1 y5_2 y5_3n y33 y34) (fun m0 i x1n y5_3n y33 y34 => lp_path_nodes_nil_0_s Q m0 x1n x11 (n : Int) i y5_0 y5_1 y5_2 y5_3n y33 y34) (fun k x1n y5_3n y33 y34 hl_ hj_ m_ ih_ => step k x1n y5_3n y33 y34 hl_ hj_ _ ih_) last k x1n y5_3n y33 y34 le0 hj
def vc_path_nodes_nil (a0_0 : ByteArray) (a0_1 : Bool) (a0_2 : LL) (Q : QD) : Prop :=
  (a0_2.length ≤ big → ∃ m0, lp_path_nodes_nil_0 Q m0 0 a0_2 ((a0_2.length : Int)) 0 a0_0 a0_1 a0_2 0 (([] : List (List V))) (([] : List (List V))))
theorem C_path_nodes_nil (a0_0 : ByteArray) (a0_1 : Bool) (a0_2 : LL) (Q : QD) (h : vc_path_nodes_nil a0_0 a0_1 a0_2 Q) : cl f_path_nodes [.agg [.v .str (V.s a0_0), .v .bool (V.b a0_1), .v (.sl t_Term) (V.l a0_2)], .nil] [] Q :=
  acalls2 (E := env_path_nodes_nil) (envOk _ _ _ _ _) 2 Tryz.func36 (by kernel_rfl) h
def env_path_nodes : Env := envA [(3, (.undef 0) :: (.undef 2) :: (.undef 4) :: ua 7 4 (ua 14 15 ((.dead 2) :: (.dead 7) :: (.dead 19) :: (.dead 23) :: da 25 2 ([.ownC 5 3 33 t_int]))))] [] [] [(8, [⟨5, 3, 33⟩])] []
def kl_path_nodes_0 (Q : QD) : Post := blockK 0 (seqJ env_path_nodes (fnAt [1, 1, 1] Tryz.f36) (endK env_path_nodes Tryz.f36 Q))
@[irreducible] def lp_path_nodes_0 (Q : QD) (m0 : Nat) (x1n : Nat) (x11 : LL) (x12 x13 : Int) (y5_0 : ByteArray) (y5_1 : Bool) (y5_2 : LL) (y5_3n : Nat) (y33 h0 : LL) : Prop :=
  iter (adj (env_path_nodes.adj 3)) (evCode env_path_nodes (fnAt [1, 1, 0, 1, 0, 0] Tryz.f36)) (kl_path_nodes_0 Q) m0 ⟨.undef :: (.osl (.own 0) x1n) :: .undef :: .skip :: .undef :: (.ptr (.loc 5) 0) :: .skip :: un 4 ((.v (.sl t_Term) (V.l x11)) :: (.v (.int .i64) (V.i x12)) :: (.v (.int .i64) (V.i x13)) :: un 15 (sk 4 ([]))), dd 5 ((.cells [.v .str (V.s y5_0), .v .bool (V.b y5_1), .v (.sl t_Term) (V.l y5_2), .osl (.loc 33) y5_3n]) :: dd 27 ([.row t_int y33]))⟩ [.row t_path_node h0]
def st_path_nodes_0 (Q : QD) (m0 : Nat) (x1n : Nat) (x11 : LL) (x12 x13 : Int) (y5_0 : ByteArray) (y5_1 : Bool) (y5_2 : LL) (y5_3n : Nat) (y33 h0 : LL) : Prop :=
  iff (decide (x13 < x12)) (0 ≤ x13 ∧ x13 < x11.length ∧ cl f_path_nodes [.agg [.v .str (((x11.getD x13.toNat []).drop 0).headD V.none), .v .bool ((((x11.getD x13.toNat []).drop 0).tail).headD V.none), .v (.sl t_Term) (((((x11.getD x13.toNat []).drop 0).tail).tail).headD V.none)], .osl (.own 0) x1n] [.row t_path_node h0] fun r1 H2 => r1 = (.osl (.own 0) r1.len) ∧ H2 = [.row t_path_node ((H2.headD .dead).xs)] ∧ ((H2.headD .dead).xs).length = r1.len ∧ (r1.len ≤ big → y33.length = y5_3n ∧ y5_3n + ([[V.i (IntKind.i64.wrap ((((r1.len : Nat) : Int)) - (1 : Int)))]]).length ≤ lim ∧ lp_path_nodes_0 Q m0 r1.len x11 x12 (IntKind.i64.wrap (x13 + (1 : Int))) y5_0 y5_1 y5_2 (y5_3n + ([[V.i (IntKind.i64.wrap ((((r1.len : Nat) : Int)) - (1 : Int)))]]).length) (y33 ++ ([[V.i (IntKind.i64.wrap ((((r1.len : Nat) : Int)) - (1 : Int)))]])) ((H2.headD .dead).xs))) (y5_3n = y33.length ∧ h0.length = x1n ∧ x1n + ([[V.s y5_0, V.b y5_1, V.l y5_2, V.l y33]]).length ≤ lim ∧ True ∧ Q (.osl (.own 0) (x1n + ([[V.s y5_0, V.b y5_1, V.l y5_2, V.l y33]]).length)) [.row t_path_node (h0 ++ ([[V.s y5_0, V.b y5_1, V.l y5_2, V.l y33]]))])
theorem lp_path_nodes_0_s (Q : QD) (m0 : Nat) (x1n : Nat) (x11 : LL) (x12 x13 : Int) (y5_0 : ByteArray) (y5_1 : Bool) (y5_2 : LL) (y5_3n : Nat) (y33 h0 : LL) : lp_path_nodes_0 Q (m0 + 1) x1n x11 x12 x13 y5_0 y5_1 y5_2 y5_3n y33 h0 = st_path_nodes_0 Q m0 x1n x11 x12 x13 y5_0 y5_1 y5_2 y5_3n y33 h0 := by kernel_rfl
theorem range_path_nodes_0 (Q : QD) (x11 : LL) (y5_0 : ByteArray) (y5_1 : Bool) (y5_2 : LL) (n : Nat) (hb : n ≤ big) (J : Nat → Nat → Nat → LL → LL → Prop)
    (step : ∀ (k : Nat) (x1n y5_3n : Nat) (y33 h0 : LL), k < n → J k x1n y5_3n y33 h0 → ∀ K : Nat → Nat → LL → LL → Prop, (∀ (x1n' y5_3n' : Nat) (y33' h0' : LL), J (k + 1) x1n' y5_3n' y33' h0' → K x1n' y5_3n' y33' h0') → (0 ≤ (k : Int) ∧ (k : Int) < x11.length ∧ cl f_path_nodes [.agg [.v .str (((x11.getD k []).drop 0).headD V.none), .v .bool ((((x11.getD k []).drop 0).tail).headD V.none), .v (.sl t_Term) (((((x11.getD k []).drop 0).tail).tail).headD V.none)], .osl (.own 0) x1n] [.row t_path_node h0] fun r1 H2 => r1 = (.osl (.own 0) r1.len) ∧ H2 = [.row t_path_node ((H2.headD .dead).xs)] ∧ ((H2.headD .dead).xs).length = r1.len ∧ (r1.len ≤ big → y33.length = y5_3n ∧ y5_3n + ([[V.i (IntKind.i64.wrap ((((r1.len : Nat) : Int)) - (1 : Int)))]]).length ≤ lim ∧ K r1.len (y5_3n + ([[V.i (IntKind.i64.wrap ((((r1.len : Nat) : Int)) - (1 : Int)))]]).length) (y33 ++ ([[V.i (IntKind.i64.wrap ((((r1.len : Nat) : Int)) - (1 : Int)))]])) ((H2.headD .dead).xs))))
    (last : ∀ (x1n y5_3n : Nat) (y33 h0 : LL), J n x1n y5_3n y33 h0 → (y5_3n = y33.length ∧ h0.length = x1n ∧ x1n + ([[V.s y5_0, V.b y5_1, V.l y5_2, V.l y33]]).length ≤ lim ∧ True ∧ Q (.osl (.own 0) (x1n + ([[V.s y5_0, V.b y5_1, V.l y5_2, V.l y33]]).length)) [.row t_path_node (h0 ++ ([[V.s y5_0, V.b y5_1, V.l y5_2, V.l y33]]))]))
    (k : Nat) (x1n y5_3n : Nat) (y33 h0 : LL) (le0 : k ≤ n) (hj : J k x1n y5_3n y33 h0) : ∃ m0, lp_path_nodes_0 Q m0 x1n x11 (n : Int) ((k : Int)) y5_0 y5_1 y5_2 y5_3n y33 h0 := by
  exact rangeG4 n hb J (fun m0 i x1n y5_3n y33 h0 => lp_path_nodes_0 Q m0 x1n x11 (n : Int) i y5_0 y5_1 y5_2 y5_3n y33 h0) (fun m0 i x1n y5_3n y33 h0 => lp_path_nodes_0_s Q m0 x1n x11 (n : Int) i y5_0 y5_1 y5_2 y5_3n y33 h0) (fun k x1n y5_3n y33 h0 hl_ hj_ m_ ih_ => step k x1n y5_3n y33 h0 hl_ hj_ _ ih_) last k x1n y5_3n y33 h0 le0 hj
def vc_path_nodes (a0_0 : ByteArray) (a0_1 : Bool) (a0_2 : LL) (a1n : Nat) (h0 : LL) (Q : QD) : Prop :=
  (a0_2.length ≤ big → ∃ m0, lp_path_nodes_0 Q m0 a1n a0_2 ((a0_2.length : Int)) 0 a0_0 a0_1 a0_2 0 (([] : List (List V))) h0)
theorem C_path_nodes (a0_0 : ByteArray) (a0_1 : Bool) (a0_2 : LL) (a1n : Nat) (h0 : LL) (Q : QD) (h : vc_path_nodes a0_0 a0_1 a0_2 a1n h0 Q) : cl f_path_nodes [.agg [.v .str (V.s a0_0), .v .bool (V.b a0_1), .v (.sl t_Term) (V.l a0_2)], .osl (.own 0) a1n] [.row t_path_node h0] Q :=
  acalls2 (E := env_path_nodes) (envOk _ _ _ _ _) 1 Tryz.func36 (by kernel_rfl) h
def env_path_comparer_greater : Env := envA [(3000007, ua 1 2 ((.undef 6) :: ua 8 35 ([.dead 29])))] [] [] [] [7]
@[irreducible] def jp_path_comparer_greater_0 (Q : QD) (x7 : Int) (h0_0 h0_1 : V) (h0_2n h0_3n h0_4n : Nat) (h1 h2 h3 : LL) : Prop :=
  joinM (evCode env_path_comparer_greater (fnAt [1, 1, 1] Tryz.f37)) ⟨(.ptr (.own 0) 0) :: un 2 (sk 3 (.undef :: (.v (.int .i64) (V.i x7)) :: un 35 (sk 8 ([])))), dd 51 ([])⟩ [.cells [.v (.sl t_Rank) (h0_0), .v (.sl t_path_node) (h0_1), .osl (.own 1) h0_2n, .osl (.own 2) h0_3n, .osl (.own 3) h0_4n], .row t_path_node h1, .row t_uint8 h2, .row t_uint8 h3] (endK env_path_comparer_greater Tryz.f37 Q)
def je_path_comparer_greater_0 (Q : QD) (x7 : Int) (h0_0 h0_1 : V) (h0_2n h0_3n h0_4n : Nat) (h1 h2 h3 : LL) : Prop :=
  h2.length = h0_3n ∧ 0 ≤ x7 ∧ x7 < h0_3n ∧ h2.length = h0_3n ∧ x7.toNat < h0_3n ∧ True ∧ Q (.v .bool (V.b (((((h2.getD x7.toNat []).drop 0).headD V.none).int) == (1 : Int)))) [.cells [.v (.sl t_Rank) (h0_0), .v (.sl t_path_node) (h0_1), .osl (.own 1) h0_2n, .osl (.own 2) h0_3n, .osl (.own 3) h0_4n], .row t_path_node h1, .row t_uint8 h2, .row t_uint8 h3]
theorem jp_path_comparer_greater_0_s (Q : QD) (x7 : Int) (h0_0 h0_1 : V) (h0_2n h0_3n h0_4n : Nat) (h1 h2 h3 : LL) : jp_path_comparer_greater_0 Q x7 h0_0 h0_1 h0_2n h0_3n h0_4n h1 h2 h3 = je_path_comparer_greater_0 Q x7 h0_0 h0_1 h0_2n h0_3n h0_4n h1 h2 h3 := by kernel_rfl
def vc_path_comparer_greater (a1 a2 : Int) (h0_0 h0_1 : LL) (h0_2n h0_3n h0_4n : Nat) (h1 h2 h3 : LL) (Q : QD) : Prop :=
  h1.length = h0_2n ∧ (h0_2n ≤ big → h2.length = h0_3n ∧ 0 ≤ (IntKind.i64.wrap ((IntKind.i64.wrap (a1 * (((h0_2n : Nat) : Int)))) + a2)) ∧ (IntKind.i64.wrap ((IntKind.i64.wrap (a1 * (((h0_2n : Nat) : Int)))) + a2)) < h0_3n ∧ h2.length = h0_3n ∧ ((IntKind.i64.wrap ((IntKind.i64.wrap (a1 * (((h0_2n : Nat) : Int)))) + a2))).toNat < h0_3n ∧ iff (((((h2.getD (((IntKind.i64.wrap ((IntKind.i64.wrap (a1 * (((h0_2n : Nat) : Int)))) + a2))).toNat) []).drop 0).headD V.none).int) == (0 : Int)) (cl f_path_comparer_compare [.ptr (.own 0) 0, .v (.int .i64) (V.i a1), .v (.int .i64) (V.i a2)] [.cells [.v (.sl t_Rank) (V.l h0_0), .v (.sl t_path_node) (V.l h0_1), .osl (.own 1) h0_2n, .osl (.own 2) h0_3n, .osl (.own 3) h0_4n], .row t_path_node h1, .row t_uint8 h2, .row t_uint8 h3] fun r1 H2 => r1 = (.v .bool (r1.V)) ∧ H2 = [.cells [.v (.sl t_Rank) ((((H2.headD .dead).cs).headD .undef).V), .v (.sl t_path_node) (((((H2.headD .dead).cs).tail).headD .undef).V), .osl (.own 1) ((((((H2.headD .dead).cs).tail).tail).headD .undef).len), .osl (.own 2) (((((((H2.headD .dead).cs).tail).tail).tail).headD .undef).len), .osl (.own 3) ((((((((H2.headD .dead).cs).tail).tail).tail).tail).headD .undef).len)], .row t_path_node ((H2.tail.headD .dead).xs), .row t_uint8 ((H2.tail.tail.headD .dead).xs), .row t_uint8 ((H2.tail.tail.tail.headD .dead).xs)] ∧ ((H2.tail.tail.headD .dead).xs).length = ((((((H2.headD .dead).cs).tail).tail).tail).headD .undef).len ∧ 0 ≤ (IntKind.i64.wrap ((IntKind.i64.wrap (a1 * (((h0_2n : Nat) : Int)))) + a2)) ∧ (IntKind.i64.wrap ((IntKind.i64.wrap (a1 * (((h0_2n : Nat) : Int)))) + a2)) < (((((((H2.headD .dead).cs).tail).tail).tail).headD .undef).len) ∧ ((H2.tail.tail.headD .dead).xs).length = ((((((H2.headD .dead).cs).tail).tail).tail).headD .undef).len ∧ ((IntKind.i64.wrap ((IntKind.i64.wrap (a1 * (((h0_2n : Nat) : Int)))) + a2))).toNat < ((((((H2.headD .dead).cs).tail).tail).tail).headD .undef).len ∧ iff r1.V.bool ((((H2.tail.tail.headD .dead).xs).set (((IntKind.i64.wrap ((IntKind.i64.wrap (a1 * (((h0_2n : Nat) : Int)))) + a2))).toNat) (setV (((H2.tail.tail.headD .dead).xs).getD (((IntKind.i64.wrap ((IntKind.i64.wrap (a1 * (((h0_2n : Nat) : Int)))) + a2))).toNat) []) 0 [V.i 2])).length = ((((((H2.headD .dead).cs).tail).tail).tail).headD .undef).len ∧ 0 ≤ (IntKind.i64.wrap ((IntKind.i64.wrap (a1 * (((h0_2n : Nat) : Int)))) + a2)) ∧ (IntKind.i64.wrap ((IntKind.i64.wrap (a1 * (((h0_2n : Nat) : Int)))) + a2)) < (((((((H2.headD .dead).cs).tail).tail).tail).headD .undef).len) ∧ (((H2.tail.tail.headD .dead).xs).set (((IntKind.i64.wrap ((IntKind.i64.wrap (a1 * (((h0_2n : Nat) : Int)))) + a2))).toNat) (setV (((H2.tail.tail.headD .dead).xs).getD (((IntKind.i64.wrap ((IntKind.i64.wrap (a1 * (((h0_2n : Nat) : Int)))) + a2))).toNat) []) 0 [V.i 2])).length = ((((((H2.headD .dead).cs).tail).tail).tail).headD .undef).len ∧ ((IntKind.i64.wrap ((IntKind.i64.wrap (a1 * (((h0_2n : Nat) : Int)))) + a2))).toNat < ((((((H2.headD .dead).cs).tail).tail).tail).headD .undef).len ∧ jp_path_comparer_greater_0 Q (IntKind.i64.wrap ((IntKind.i64.wrap (a1 * (((h0_2n : Nat) : Int)))) + a2)) ((((H2.headD .dead).cs).headD .undef).V) (((((H2.headD .dead).cs).tail).headD .undef).V) ((((((H2.headD .dead).cs).tail).tail).headD .undef).len) (((((((H2.headD .dead).cs).tail).tail).tail).headD .undef).len) ((((((((H2.headD .dead).cs).tail).tail).tail).tail).headD .undef).len) ((H2.tail.headD .dead).xs) ((((H2.tail.tail.headD .dead).xs).set (((IntKind.i64.wrap ((IntKind.i64.wrap (a1 * (((h0_2n : Nat) : Int)))) + a2))).toNat) (setV (((H2.tail.tail.headD .dead).xs).getD (((IntKind.i64.wrap ((IntKind.i64.wrap (a1 * (((h0_2n : Nat) : Int)))) + a2))).toNat) []) 0 [V.i 2])).set (((IntKind.i64.wrap ((IntKind.i64.wrap (a1 * (((h0_2n : Nat) : Int)))) + a2))).toNat) (setV ((((H2.tail.tail.headD .dead).xs).set (((IntKind.i64.wrap ((IntKind.i64.wrap (a1 * (((h0_2n : Nat) : Int)))) + a2))).toNat) (setV (((H2.tail.tail.headD .dead).xs).getD (((IntKind.i64.wrap ((IntKind.i64.wrap (a1 * (((h0_2n : Nat) : Int)))) + a2))).toNat) []) 0 [V.i 2])).getD (((IntKind.i64.wrap ((IntKind.i64.wrap (a1 * (((h0_2n : Nat) : Int)))) + a2))).toNat) []) 0 [V.i 1])) ((H2.tail.tail.tail.headD .dead).xs)) (jp_path_comparer_greater_0 Q (IntKind.i64.wrap ((IntKind.i64.wrap (a1 * (((h0_2n : Nat) : Int)))) + a2)) ((((H2.headD .dead).cs).headD .undef).V) (((((H2.headD .dead).cs).tail).headD .undef).V) ((((((H2.headD .dead).cs).tail).tail).headD .undef).len) (((((((H2.headD .dead).cs).tail).tail).tail).headD .undef).len) ((((((((H2.headD .dead).cs).tail).tail).tail).tail).headD .undef).len) ((H2.tail.headD .dead).xs) (((H2.tail.tail.headD .dead).xs).set (((IntKind.i64.wrap ((IntKind.i64.wrap (a1 * (((h0_2n : Nat) : Int)))) + a2))).toNat) (setV (((H2.tail.tail.headD .dead).xs).getD (((IntKind.i64.wrap ((IntKind.i64.wrap (a1 * (((h0_2n : Nat) : Int)))) + a2))).toNat) []) 0 [V.i 2])) ((H2.tail.tail.tail.headD .dead).xs))) (jp_path_comparer_greater_0 Q (IntKind.i64.wrap ((IntKind.i64.wrap (a1 * (((h0_2n : Nat) : Int)))) + a2)) (V.l h0_0) (V.l h0_1) h0_2n h0_3n h0_4n h1 h2 h3))
theorem C_path_comparer_greater (a1 a2 : Int) (h0_0 h0_1 : LL) (h0_2n h0_3n h0_4n : Nat) (h1 h2 h3 : LL) (Q : QD) (h : vc_path_comparer_greater a1 a2 h0_0 h0_1 h0_2n h0_3n h0_4n h1 h2 h3 Q) : cl f_path_comparer_greater [.ptr (.own 0) 0, .v (.int .i64) (V.i a1), .v (.int .i64) (V.i a2)] [.cells [.v (.sl t_Rank) (V.l h0_0), .v (.sl t_path_node) (V.l h0_1), .osl (.own 1) h0_2n, .osl (.own 2) h0_3n, .osl (.own 3) h0_4n], .row t_path_node h1, .row t_uint8 h2, .row t_uint8 h3] Q :=
  acalls2 (E := env_path_comparer_greater) (envOk _ _ _ _ _) 0 Tryz.func37 (by kernel_rfl) h
def env_r01_IsName : Env := envA [(3000004, (.undef 1) :: ua 4 8 ([.dead 11])), (3000005, (.undef 1) :: ua 4 14 ([.dead 11, .dead 15]))] [] [] [] [4, 5]
@[irreducible] def jp_r01_IsName_1 (Q : QD) (x0 : ByteArray) : Prop :=
  joinM (evCode env_r01_IsName (fnAt [1, 1, 1] Tryz.f38)) ⟨(.v .str (V.s x0)) :: .undef :: sk 2 (un 14 (sk 6 ([]))), dd 24 ([])⟩ [] (endK env_r01_IsName Tryz.f38 Q)
@[irreducible] def jp_r01_IsName_0 (Q : QD) (x0 : ByteArray) (x12 : V) : Prop :=
  joinM (evCode env_r01_IsName (fnAt [1, 1, 0, 1] Tryz.f38)) ⟨(.v .str (V.s x0)) :: .undef :: sk 2 (un 8 ((.v .bool (x12)) :: sk 11 ([]))), dd 24 ([])⟩ [] (seqJ env_r01_IsName (fnAt [1, 1, 1] Tryz.f38) (endK env_r01_IsName Tryz.f38 Q))
def je_r01_IsName_1 (Q : QD) (x0 : ByteArray) : Prop :=
  iff (!(x0.toList == (ByteArray.mk #[]).toList)) (cl f_r01_Letters [.v .str (V.s x0)] [] fun r1 H2 => r1 = (.v .bool (r1.V)) ∧ H2 = [] ∧ True ∧ Q (.v .bool (r1.V)) []) (True ∧ Q (.v .bool (V.b false)) [])
theorem jp_r01_IsName_1_s (Q : QD) (x0 : ByteArray) : jp_r01_IsName_1 Q x0 = je_r01_IsName_1 Q x0 := by kernel_rfl
def je_r01_IsName_0 (Q : QD) (x0 : ByteArray) (x12 : V) : Prop :=
  iff x12.bool ((x0.size ≤ big → 0 ≤ (0 : Int) ∧ (0 : Int) ≤ (IntKind.i64.wrap (((x0.size : Int)) - (1 : Int))) ∧ (IntKind.i64.wrap (((x0.size : Int)) - (1 : Int))) ≤ x0.size ∧ jp_r01_IsName_1 Q (x0.extract (0 : Int).toNat ((IntKind.i64.wrap (((x0.size : Int)) - (1 : Int)))).toNat))) (jp_r01_IsName_1 Q x0)
theorem jp_r01_IsName_0_s (Q : QD) (x0 : ByteArray) (x12 : V) : jp_r01_IsName_0 Q x0 x12 = je_r01_IsName_0 Q x0 x12 := by kernel_rfl
def vc_r01_IsName (a0 : ByteArray) (a1 : Bool) (Q : QD) : Prop :=
  (a0.size ≤ big → iff (decide (((a0.size : Int)) > (24 : Int))) (True ∧ Q (.v .bool (V.b false)) []) (iff a1 (cl f_r01_Marked [.v .str (V.s a0)] [] fun r1 H2 => r1 = (.v .bool (r1.V)) ∧ H2 = [] ∧ jp_r01_IsName_0 Q a0 r1.V) (jp_r01_IsName_0 Q a0 (V.b false))))
theorem C_r01_IsName (a0 : ByteArray) (a1 : Bool) (Q : QD) (h : vc_r01_IsName a0 a1 Q) : cl f_r01_IsName [.v .str (V.s a0), .v .bool (V.b a1)] [] Q :=
  acalls2 (E := env_r01_IsName) (envOk _ _ _ _ _) 0 Tryz.func38 (by kernel_rfl) h
def env_r01_CompareNames : Env := envA [(2, ua 4 6 (ua 12 19 ([.dead 29])))] [(4, 6, [], []), (5, 8, [], [])] [] [] []
def kl_r01_CompareNames_0 (Q : QD) : Post := blockK 0 (seqJ env_r01_CompareNames (fnAt [1, 1] Tryz.f39) (endK env_r01_CompareNames Tryz.f39 Q))
@[irreducible] def lp_r01_CompareNames_0 (Q : QD) (m0 : Nat) (x0 x1 : ByteArray) (x10 x11 : Int) : Prop :=
  iter (adj (env_r01_CompareNames.adj 2)) (evCode env_r01_CompareNames (fnAt [1, 0, 1, 0, 0] Tryz.f39)) (kl_r01_CompareNames_0 Q) m0 ⟨(.v .str (V.s x0)) :: (.v .str (V.s x1)) :: sk 2 (un 6 ((.v (.int .i64) (V.i x10)) :: (.v (.int .i64) (V.i x11)) :: un 19 (sk 5 ([])))), dd 36 ([])⟩ []
def st_r01_CompareNames_0 (Q : QD) (m0 : Nat) (x0 x1 : ByteArray) (x10 x11 : Int) : Prop :=
  iff (decide (x11 < x10)) (0 ≤ x11 ∧ x11 < x0.size ∧ 0 ≤ x11 ∧ x11 < x1.size ∧ iff ((((x0.data.toList.getD x11.toNat 0).toNat : Int)) != (((x1.data.toList.getD x11.toNat 0).toNat : Int))) (0 ≤ x11 ∧ x11 < x0.size ∧ 0 ≤ x11 ∧ x11 < x1.size ∧ cl f_r01_CompareInts [.v (.int .i64) (V.i (IntKind.i64.wrap (((x0.data.toList.getD x11.toNat 0).toNat : Int)))), .v (.int .i64) (V.i (IntKind.i64.wrap (((x1.data.toList.getD x11.toNat 0).toNat : Int))))] [] fun r1 H2 => r1 = (.v (.int .i64) (r1.V)) ∧ H2 = [] ∧ True ∧ Q (.v (.int .i64) (r1.V)) []) (lp_r01_CompareNames_0 Q m0 x0 x1 x10 (IntKind.i64.wrap (x11 + (1 : Int))))) ((x0.size ≤ big → (x1.size ≤ big → cl f_r01_CompareInts [.v (.int .i64) (V.i ((x0.size : Int))), .v (.int .i64) (V.i ((x1.size : Int)))] [] fun r3 H4 => r3 = (.v (.int .i64) (r3.V)) ∧ H4 = [] ∧ True ∧ Q (.v (.int .i64) (r3.V)) [])))
theorem lp_r01_CompareNames_0_s (Q : QD) (m0 : Nat) (x0 x1 : ByteArray) (x10 x11 : Int) : lp_r01_CompareNames_0 Q (m0 + 1) x0 x1 x10 x11 = st_r01_CompareNames_0 Q m0 x0 x1 x10 x11 := by kernel_rfl
theorem range_r01_CompareNames_0 (Q : QD) (x0 x1 : ByteArray) (n : Nat) (hb : n ≤ big) (J : Nat → Prop)
    (step : ∀ (k : Nat), k < n → J k → ∀ K : Prop, (J (k + 1) → K) → (0 ≤ (k : Int) ∧ (k : Int) < x0.size ∧ 0 ≤ (k : Int) ∧ (k : Int) < x1.size ∧ iff ((((x0.data.toList.getD k 0).toNat : Int)) != (((x1.data.toList.getD k 0).toNat : Int))) (0 ≤ (k : Int) ∧ (k : Int) < x0.size ∧ 0 ≤ (k : Int) ∧ (k : Int) < x1.size ∧ cl f_r01_CompareInts [.v (.int .i64) (V.i (IntKind.i64.wrap (((x0.data.toList.getD k 0).toNat : Int)))), .v (.int .i64) (V.i (IntKind.i64.wrap (((x1.data.toList.getD k 0).toNat : Int))))] [] fun r1 H2 => r1 = (.v (.int .i64) (r1.V)) ∧ H2 = [] ∧ True ∧ Q (.v (.int .i64) (r1.V)) []) (K)))
    (last : J n → ((x0.size ≤ big → (x1.size ≤ big → cl f_r01_CompareInts [.v (.int .i64) (V.i ((x0.size : Int))), .v (.int .i64) (V.i ((x1.size : Int)))] [] fun r3 H4 => r3 = (.v (.int .i64) (r3.V)) ∧ H4 = [] ∧ True ∧ Q (.v (.int .i64) (r3.V)) []))))
    (k : Nat) (le0 : k ≤ n) (hj : J k) : ∃ m0, lp_r01_CompareNames_0 Q m0 x0 x1 (n : Int) ((k : Int)) := by
  exact rangeG0 n hb J (fun m0 i => lp_r01_CompareNames_0 Q m0 x0 x1 (n : Int) i) (fun m0 i => lp_r01_CompareNames_0_s Q m0 x0 x1 (n : Int) i) (fun k hl_ hj_ m_ ih_ => step k hl_ hj_ _ ih_) last k le0 hj
def vc_r01_CompareNames (a0 a1 : ByteArray) (Q : QD) : Prop :=
  (a0.size ≤ big → (a1.size ≤ big → ∃ m0, lp_r01_CompareNames_0 Q m0 a0 a1 (if ((a1.size : Int)) < ((a0.size : Int)) then ((a1.size : Int)) else ((a0.size : Int))) 0))
theorem C_r01_CompareNames (a0 a1 : ByteArray) (Q : QD) (h : vc_r01_CompareNames a0 a1 Q) : cl f_r01_CompareNames [.v .str (V.s a0), .v .str (V.s a1)] [] Q :=
  acalls2 (E := env_r01_CompareNames) (envOk _ _ _ _ _) 0 Tryz.func39 (by kernel_rfl) h
end Go.Proofs.YtehchnjnbbnkbaaGreat
