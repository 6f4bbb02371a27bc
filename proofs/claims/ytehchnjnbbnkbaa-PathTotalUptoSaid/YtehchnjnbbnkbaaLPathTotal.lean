/-
  THE LAW PathTotal over canonical data.
-/
import Derived.Test.YtehchnjnbbnkbaaLawC
import Derived.Test.YtehchnjnbbnkbaaLawE
set_option linter.unusedVariables false
set_option linter.unusedSimpArgs false
namespace Go.Proofs.Ytehchnjnbbnkbaa
open Go.Abs

theorem law_PathTotal (xss : List (List V)) (h1 : xss.length = Try.f6.params.toList.length) (h2 : ∀ i t, Try.f6.params.toList[i]? = some t → (xss.getD i []).length = (tab.get t).lf.length ∧ ∀ j, j < (tab.get t).lf.length → WT (lfs tab) ((tab.get t).lf.getD j .oth) ((xss.getD i []).getD j V.none)) (h3 : V.bulkR xss ≤ 1048576) :
    ACalls Try.prog (lfs tab) 6 (argsD tab Try.f6.params.toList xss) [] fun r _ => r = .v .bool (.b true) := by
  obtain ⟨hl, hw⟩ := argWT_of h1 h2
  have e : Try.f6.params.toList = [22, 25, 25] := by kernel_rfl
  rw [e] at hl hw ⊢
  have e0 : (tab.get 22).lf = [.sl t_Rank] := by kernel_rfl
  have e1 : (tab.get 25).lf = [.str, .bool, .sl t_Term] := by kernel_rfl
  have w0 := hw 0 22 rfl
  have w1 := hw 1 25 rfl
  have w2 := hw 2 25 rfl
  rw [e0] at w0
  rw [e1] at w1 w2
  match xss, hl, w0, w1, w2 with
  | [[v], [a, b, c], [a', b', c']], _, ⟨g0, _⟩, g1, g2 =>
    obtain ⟨l, rfl⟩ := wt_ranks g0
    obtain ⟨s, rfl, rfl, rfl, hs⟩ := wt_term g1
    obtain ⟨t, rfl, rfl, rfl, ht⟩ := wt_term g2
    have ea : argsD tab [22, 25, 25] [[.l (encRks l)], [.s s.name, .b s.var, .l (Tm.encL s.args)], [.s t.name, .b t.var, .l (Tm.encL t.args)]] = [rksD l, tD s, tD t] := by kernel_rfl
    rw [ea]
    simp only [V.bulkR, V.bulkL] at h3
    have hsm := small_eq
    exact (l06_PathTotal_ok l s t (by omega) (by omega)).use rfl
end Go.Proofs.Ytehchnjnbbnkbaa
