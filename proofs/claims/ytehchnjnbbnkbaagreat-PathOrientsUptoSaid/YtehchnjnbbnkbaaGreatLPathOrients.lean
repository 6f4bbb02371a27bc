/-
  THE LAW PathOrients over canonical data.
-/
import Derived.Test.YtehchnjnbbnkbaaGreatP13
set_option linter.unusedVariables false
set_option linter.unusedSimpArgs false
namespace Go.Proofs.YtehchnjnbbnkbaaGreat
open Go.Abs
theorem law_PathOrients (xss : List (List V)) (h1 : xss.length = Tryz.f3.params.toList.length) (h2 : ∀ i t, Tryz.f3.params.toList[i]? = some t → (xss.getD i []).length = (tab.get t).lf.length ∧ ∀ j, j < (tab.get t).lf.length → WT (lfs tab) ((tab.get t).lf.getD j .oth) ((xss.getD i []).getD j V.none)) (h3 : V.bulkR xss ≤ 1048576) :
    ACalls Tryz.prog (lfs tab) 3 (argsD tab Tryz.f3.params.toList xss) [] fun r _ => r = .v .bool (.b true) := by
  obtain ⟨hl, hw⟩ := argWT_of h1 h2
  have e : Tryz.f3.params.toList = [22, 23] := by kernel_rfl
  rw [e] at hl hw ⊢
  have e0 : (tab.get 22).lf = [.sl t_Rank] := by kernel_rfl
  have e1 : (tab.get 23).lf = [.sl t_Rule] := by kernel_rfl
  have w0 := hw 0 22 rfl
  have w1 := hw 1 23 rfl
  rw [e0] at w0
  rw [e1] at w1
  match xss, hl, w0, w1 with
  | [[v], [q]], _, ⟨g0, _⟩, ⟨g1, _⟩ =>
    obtain ⟨l, rfl⟩ := wt_ranks g0
    obtain ⟨r, rfl, hr⟩ := wt_rules g1
    have ea : argsD tab [22, 23] [[.l (encRks l)], [.l (encRs r)]] = [rksD l, ruD r] := by kernel_rfl
    rw [ea]
    simp only [V.bulkR, V.bulkL] at h3
    have hsm := small_eq
    exact (l06_PathOrients_ok l r fun x hx => by have := hr x hx; omega).use rfl
end Go.Proofs.YtehchnjnbbnkbaaGreat
