import Derived.Test.YtgohjdaepcmonaaR01D
import Derived.Test.YtgohjdaepcmonaaAbsJ
set_option linter.unusedVariables false
set_option linter.unusedSimpArgs false
namespace Go.Proofs.Ytgohjdaepcmonaa
open Go.Abs
abbrev WTt := WT (lfs tab)
def AllWT : List K → List V → Prop
  | [], [] => True
  | k :: ks, v :: vs => WTt k v ∧ AllWT ks vs
  | _, _ => False
theorem allWT_of : ∀ (ks : List K) (vs : List V), vs.length = ks.length → (∀ j, j < ks.length → WTt (ks.getD j .oth) (vs.getD j V.none)) → AllWT ks vs
  | [], [], _, _ => trivial
  | [], _ :: _, h, _ => by simp at h
  | _ :: _, [], h, _ => by simp at h
  | k :: ks, v :: vs, h, h2 => ⟨h2 0 (by simp), allWT_of ks vs (by simpa using h) fun j hj => h2 (j + 1) (by simpa using hj)⟩
theorem wt_str {v : V} (h : WTt .str v) : ∃ s, v = .s s := by cases h with | str s => exact ⟨s, rfl⟩
theorem wt_bool {v : V} (h : WTt .bool v) : ∃ b, v = .b b := by cases h with | bool b => exact ⟨b, rfl⟩
theorem lf_Term : lfs tab t_Term = [.str, .bool, .sl t_Term] := by kernel_rfl
theorem terms_of_rows : ∀ (xs : List (List V)), (∀ i, i < xs.length → ∃ t : Tm, xs.getD i [] = t.enc ∧ t.size ≤ V.bulkL t.enc) → ∃ l : List Tm, xs = Tm.encL l ∧ Tm.sizeL l ≤ V.bulkR (Tm.encL l)
  | [], _ => ⟨[], rfl, by simp [Tm.sizeL]⟩
  | x :: xs, h => by
    obtain ⟨t, ht, hs⟩ := h 0 (by simp)
    obtain ⟨l, hl, hs2⟩ := terms_of_rows xs fun i hi => h (i + 1) (by simpa using hi)
    refine ⟨t :: l, ?_, ?_⟩
    · have : x = t.enc := ht
      rw [this, hl]; rfl
    · simp only [Tm.sizeL, Tm.encL, V.bulkR]; omega
theorem wt_terms_aux {k : K} {v : V} (h : WTt k v) : k = .sl t_Term → ∃ l : List Tm, v = .l (Tm.encL l) ∧ Tm.sizeL l + 1 ≤ V.bulk (.l (Tm.encL l)) := by
  induction h with
  | int _ _ _ => intro h; cases h
  | bool _ => intro h; cases h
  | str _ => intro h; cases h
  | sl e xs h1 h2 ih =>
    intro he
    obtain rfl : e = t_Term := by injection he
    rw [lf_Term] at h1 h2 ih
    obtain ⟨l, hl, hs⟩ := terms_of_rows xs fun i hi => by
      have g0 := h1 i hi
      have g1 := h2 i 0 hi (by decide)
      have g2 := h2 i 1 hi (by decide)
      have g3 := ih i 2 hi (by decide) rfl
      generalize xs.getD i [] = c at g0 g1 g2 g3
      match c, g0 with
      | [a, b, d], _ =>
        obtain ⟨n, hn⟩ := wt_str g1
        obtain ⟨w, hw⟩ := wt_bool g2
        obtain ⟨l, hl, hs⟩ := g3
        have hn : a = .s n := hn
        have hw : b = .b w := hw
        have hl : d = .l (Tm.encL l) := hl
        subst hn hw hl
        refine ⟨.mk n w l, rfl, ?_⟩
        simp only [Tm.size, Tm.enc, V.bulkL, V.bulk] at hs ⊢
        omega
    exact ⟨l, by rw [hl], by simp only [V.bulk]; omega⟩
theorem wt_terms {v : V} (h : WTt (.sl t_Term) v) : ∃ l : List Tm, v = .l (Tm.encL l) ∧ Tm.sizeL l + 1 ≤ v.bulk := by
  obtain ⟨l, h1, h2⟩ := wt_terms_aux h rfl
  exact ⟨l, h1, by rw [h1]; exact h2⟩
theorem wt_term {a b c : V} (h : AllWT [.str, .bool, .sl t_Term] [a, b, c]) : ∃ t : Tm, a = .s t.name ∧ b = .b t.var ∧ c = .l (Tm.encL t.args) ∧ t.size ≤ a.bulk + b.bulk + c.bulk := by
  obtain ⟨h1, h2, h3, _⟩ := h
  obtain ⟨n, rfl⟩ := wt_str h1
  obtain ⟨w, rfl⟩ := wt_bool h2
  obtain ⟨l, rfl, hs⟩ := wt_terms h3
  refine ⟨.mk n w l, rfl, rfl, rfl, ?_⟩
  simp only [Tm.size] at hs ⊢
  simp only [V.bulk] at hs ⊢
  omega
def ArgWT (ts : List TypeId) (xss : List (List V)) : Prop := xss.length = ts.length ∧ ∀ i t, ts[i]? = some t → AllWT (tab.get t).lf (xss.getD i [])
theorem argWT_of {ts : List TypeId} {xss : List (List V)} (h1 : xss.length = ts.length) (h2 : ∀ i t, ts[i]? = some t → (xss.getD i []).length = (tab.get t).lf.length ∧ ∀ j, j < (tab.get t).lf.length → WT (lfs tab) ((tab.get t).lf.getD j .oth) ((xss.getD i []).getD j V.none)) : ArgWT ts xss :=
  ⟨h1, fun i t ht => allWT_of _ _ (h2 i t ht).1 (h2 i t ht).2⟩
end Go.Proofs.Ytgohjdaepcmonaa
