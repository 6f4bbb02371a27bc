/-
  THE LAW PathOrder over canonical data.
-/
import Derived.Test.YtehchnjnbbnkbaaLawC
set_option linter.unusedVariables false
set_option linter.unusedSimpArgs false
namespace Go.Proofs.Ytehchnjnbbnkbaa
open Go.Abs

theorem law_PathOrder (xss : List (List V)) (h1 : xss.length = Try.f4.params.toList.length) (h2 : ∀ i t, Try.f4.params.toList[i]? = some t → (xss.getD i []).length = (tab.get t).lf.length ∧ ∀ j, j < (tab.get t).lf.length → WT (lfs tab) ((tab.get t).lf.getD j .oth) ((xss.getD i []).getD j V.none)) (h3 : V.bulkR xss ≤ 1048576) :
    ACalls Try.prog (lfs tab) 4 (argsD tab Try.f4.params.toList xss) [] fun r _ => r = .v .bool (.b true) := by
  obtain ⟨hl, hw⟩ := argWT_of h1 h2
  have e : Try.f4.params.toList = [22, 33] := by kernel_rfl
  rw [e] at hl hw ⊢
  have e0 : (tab.get 22).lf = [.sl t_Rank] := by kernel_rfl
  have e1 : (tab.get 33).lf = [.str, .bool, .sl t_Term, .str, .bool, .sl t_Term, .str, .bool, .sl t_Term] := by kernel_rfl
  have w0 := hw 0 22 rfl
  have w1 := hw 1 33 rfl
  rw [e0] at w0
  rw [e1] at w1
  match xss, hl, w0, w1 with
  | [[v], [a, b, c, a', b', c', a'', b'', c'']], _, ⟨g0, _⟩, ⟨k1, k2, k3, k4, k5, k6, k7⟩ =>
    obtain ⟨l, rfl⟩ := wt_ranks g0
    obtain ⟨s, rfl, rfl, rfl, hs⟩ := wt_term ⟨k1, k2, k3, trivial⟩
    obtain ⟨t, rfl, rfl, rfl, ht⟩ := wt_term ⟨k4, k5, k6, trivial⟩
    obtain ⟨u, rfl, rfl, rfl, hu⟩ := wt_term k7
    have ea : argsD tab [22, 33] [[.l (encRks l)], [.s s.name, .b s.var, .l (Tm.encL s.args), .s t.name, .b t.var, .l (Tm.encL t.args), .s u.name, .b u.var, .l (Tm.encL u.args)]] = [rksD l, t3D s t u] := by kernel_rfl
    rw [ea]
    simp only [V.bulkR, V.bulkL] at h3
    have hsm := small_eq
    exact (l06_PathOrder_ok l s t u (by omega) (by omega) (by omega)).use rfl
end Go.Proofs.Ytehchnjnbbnkbaa
