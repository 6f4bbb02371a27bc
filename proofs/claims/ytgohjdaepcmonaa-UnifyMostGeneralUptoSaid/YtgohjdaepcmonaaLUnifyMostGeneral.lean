/-
  THE LAW UnifyMostGeneral over canonical data.
-/
import Derived.Test.YtgohjdaepcmonaaP13
set_option linter.unusedVariables false
set_option linter.unusedSimpArgs false
namespace Go.Proofs.Ytgohjdaepcmonaa
open Go.Abs
theorem law_UnifyMostGeneral (xss : List (List V)) (h1 : xss.length = Try.f6.params.toList.length) (h2 : ∀ i t, Try.f6.params.toList[i]? = some t → (xss.getD i []).length = (tab.get t).lf.length ∧ ∀ j, j < (tab.get t).lf.length → WT (lfs tab) ((tab.get t).lf.getD j .oth) ((xss.getD i []).getD j V.none)) (h3 : V.bulkR xss ≤ 1048576) :
    ACalls Try.prog (lfs tab) 6 (argsD tab Try.f6.params.toList xss) [] fun r _ => r = .v .bool (.b true) := by
  obtain ⟨hl, hw⟩ := argWT_of h1 h2
  have e : Try.f6.params.toList = [24, 24, 25] := by kernel_rfl
  rw [e] at hl hw ⊢
  have e1 : (tab.get 24).lf = [.str, .bool, .sl t_Term] := by kernel_rfl
  have e2 : (tab.get 25).lf = [.sl t_Bind] := by kernel_rfl
  have w1 := hw 0 24 rfl
  have w2 := hw 1 24 rfl
  have w3 := hw 2 25 rfl
  rw [e1] at w1 w2
  rw [e2] at w3
  match xss, hl, w1, w2, w3 with
  | [[a, b, c], [a', b', c'], [q]], _, g1, g2, ⟨g3, _⟩ =>
    obtain ⟨s, rfl, rfl, rfl, hs⟩ := wt_term g1
    obtain ⟨t, rfl, rfl, rfl, ht⟩ := wt_term g2
    obtain ⟨l, rfl, hr⟩ := wt_binds g3
    have ea : argsD tab [24, 24, 25] [[.s s.name, .b s.var, .l (Tm.encL s.args)], [.s t.name, .b t.var, .l (Tm.encL t.args)], [.l (encS l)]] = [tD s, tD t, suD l] := by kernel_rfl
    rw [ea]
    simp only [V.bulkR, V.bulkL] at h3
    exact (l03_UnifyMostGeneral_ok s t l (by omega) (by omega) fun x hx => by have := hr x hx; omega).use rfl
end Go.Proofs.Ytgohjdaepcmonaa
