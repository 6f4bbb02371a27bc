/-
  THE LAW PathRanks over canonical data.
-/
import Derived.Test.YtehchnjnbbnkbaaLawC
set_option linter.unusedVariables false
set_option linter.unusedSimpArgs false
namespace Go.Proofs.Ytehchnjnbbnkbaa
open Go.Abs

theorem law_PathRanks (xss : List (List V)) (h1 : xss.length = Try.f7.params.toList.length) (h2 : ∀ i t, Try.f7.params.toList[i]? = some t → (xss.getD i []).length = (tab.get t).lf.length ∧ ∀ j, j < (tab.get t).lf.length → WT (lfs tab) ((tab.get t).lf.getD j .oth) ((xss.getD i []).getD j V.none)) (h3 : V.bulkR xss ≤ 1048576) :
    ACalls Try.prog (lfs tab) 7 (argsD tab Try.f7.params.toList xss) [] fun r _ => r = .v .bool (.b true) := by
  obtain ⟨hl, hw⟩ := argWT_of h1 h2
  have e : Try.f7.params.toList = [22, 9] := by kernel_rfl
  rw [e] at hl hw ⊢
  have e0 : (tab.get 22).lf = [.sl t_Rank] := by kernel_rfl
  have e1 : (tab.get 9).lf = [.str] := by kernel_rfl
  have w0 := hw 0 22 rfl
  have w1 := hw 1 9 rfl
  rw [e0] at w0
  rw [e1] at w1
  match xss, hl, w0, w1 with
  | [[v], [u]], _, ⟨g0, _⟩, ⟨g1, _⟩ =>
    obtain ⟨l, rfl⟩ := wt_ranks g0
    obtain ⟨s, rfl⟩ := wt_str g1
    have ea : argsD tab [22, 9] [[.l (encRks l)], [.s s]] = [rksD l, sD s] := by kernel_rfl
    rw [ea]
    exact (l06_PathRanks_ok l s).use rfl
end Go.Proofs.Ytehchnjnbbnkbaa
