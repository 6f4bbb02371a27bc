/-
  THE LAW UnifySymmetric over canonical data.
-/
import Derived.Test.YtgohjdaepcmonaaP13
set_option linter.unusedVariables false
set_option linter.unusedSimpArgs false
namespace Go.Proofs.Ytgohjdaepcmonaa
open Go.Abs
theorem law_UnifySymmetric (xss : List (List V)) (h1 : xss.length = Try.f7.params.toList.length) (h2 : ∀ i t, Try.f7.params.toList[i]? = some t → (xss.getD i []).length = (tab.get t).lf.length ∧ ∀ j, j < (tab.get t).lf.length → WT (lfs tab) ((tab.get t).lf.getD j .oth) ((xss.getD i []).getD j V.none)) (h3 : V.bulkR xss ≤ 1048576) :
    ACalls Try.prog (lfs tab) 7 (argsD tab Try.f7.params.toList xss) [] fun r _ => r = .v .bool (.b true) := by
  obtain ⟨hl, hw⟩ := argWT_of h1 h2
  have e : Try.f7.params.toList = [24, 24] := by kernel_rfl
  rw [e] at hl hw ⊢
  have e1 : (tab.get 24).lf = [.str, .bool, .sl t_Term] := by kernel_rfl
  have w1 := hw 0 24 rfl
  have w2 := hw 1 24 rfl
  rw [e1] at w1 w2
  match xss, hl, w1, w2 with
  | [[a, b, c], [a', b', c']], _, g1, g2 =>
    obtain ⟨s, rfl, rfl, rfl, hs⟩ := wt_term g1
    obtain ⟨t, rfl, rfl, rfl, ht⟩ := wt_term g2
    have ea : argsD tab [24, 24] [[.s s.name, .b s.var, .l (Tm.encL s.args)], [.s t.name, .b t.var, .l (Tm.encL t.args)]] = [tD s, tD t] := by kernel_rfl
    rw [ea]
    simp only [V.bulkR, V.bulkL] at h3
    exact (l03_UnifySymmetric_ok s t (by omega) (by omega)).use rfl
end Go.Proofs.Ytgohjdaepcmonaa
