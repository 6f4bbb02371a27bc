/-
  THE LAW PathDecreases over canonical data.
-/
import Derived.Test.YtehchnjnbbnkbaaGreatP13
set_option linter.unusedVariables false
set_option linter.unusedSimpArgs false
namespace Go.Proofs.YtehchnjnbbnkbaaGreat
open Go.Abs
theorem lf_Step : lfs tab t_Step = [.int .i64, .sl t_int] := by kernel_rfl
theorem steps_of_rows : ∀ (xs : List (List V)), (∀ i, i < xs.length → ∃ y : Stp, xs.getD i [] = [V.i y.1, V.l (encP y.2)]) → ∃ l : List Stp, xs = encSt l
  | [], _ => ⟨[], rfl⟩
  | x :: xs, h => by
    obtain ⟨y, hy⟩ := h 0 (by simp)
    obtain ⟨l, hl⟩ := steps_of_rows xs fun i hi => h (i + 1) (by simpa using hi)
    refine ⟨y :: l, ?_⟩
    have : x = [V.i y.1, V.l (encP y.2)] := hy
    rw [this, hl]; rfl
theorem wt_steps {v : V} (h : WTt (.sl t_Step) v) : ∃ l : List Stp, v = .l (encSt l) := by
  obtain ⟨xs, rfl, hx⟩ := wt_sl h
  rw [lf_Step] at hx
  obtain ⟨l, hl⟩ := steps_of_rows xs fun i hi => by
    have g := hx i hi
    generalize xs.getD i [] = c at g
    match c, g with
    | [a, b], ⟨g1, g2, _⟩ =>
      obtain ⟨n, rfl⟩ := wt_int g1
      obtain ⟨p, rfl⟩ := wt_ints g2
      exact ⟨(n, p), rfl⟩
  exact ⟨l, by rw [hl]⟩
theorem law_PathDecreases (xss : List (List V)) (h1 : xss.length = Tryz.f4.params.toList.length) (h2 : ∀ i t, Tryz.f4.params.toList[i]? = some t → (xss.getD i []).length = (tab.get t).lf.length ∧ ∀ j, j < (tab.get t).lf.length → WT (lfs tab) ((tab.get t).lf.getD j .oth) ((xss.getD i []).getD j V.none)) (h3 : V.bulkR xss ≤ 1048576) :
    ACalls Tryz.prog (lfs tab) 4 (argsD tab Tryz.f4.params.toList xss) [] fun r _ => r = .v .bool (.b true) := by
  obtain ⟨hl, hw⟩ := argWT_of h1 h2
  have e : Tryz.f4.params.toList = [22, 23, 41] := by kernel_rfl
  rw [e] at hl hw ⊢
  have e0 : (tab.get 22).lf = [.sl t_Rank] := by kernel_rfl
  have e1 : (tab.get 23).lf = [.sl t_Rule] := by kernel_rfl
  have e2 : (tab.get 41).lf = [.str, .bool, .sl t_Term, .sl t_Step] := by kernel_rfl
  have w0 := hw 0 22 rfl
  have w1 := hw 1 23 rfl
  have w2 := hw 2 41 rfl
  rw [e0] at w0
  rw [e1] at w1
  rw [e2] at w2
  match xss, hl, w0, w1, w2 with
  | [[v], [q], [a, b, c, d]], _, ⟨g0, _⟩, ⟨g1, _⟩, ⟨k1, k2, k3, k4, _⟩ =>
    obtain ⟨l, rfl⟩ := wt_ranks g0
    obtain ⟨r, rfl, hr⟩ := wt_rules g1
    obtain ⟨t, rfl, rfl, rfl, ht⟩ := wt_term ⟨k1, k2, k3, trivial⟩
    obtain ⟨st, rfl⟩ := wt_steps k4
    have ea : argsD tab [22, 23, 41] [[.l (encRks l)], [.l (encRs r)], [.s t.name, .b t.var, .l (Tm.encL t.args), .l (encSt st)]] = [rksD l, ruD r, .agg [.v .str (.s t.name), .v .bool (.b t.var), .v (.sl t_Term) (.l (Tm.encL t.args)), .v (.sl t_Step) (.l (encSt st))]] := by kernel_rfl
    rw [ea]
    simp only [V.bulkR, V.bulkL] at h3
    have hsm := small_eq
    exact (l06_PathDecreases_ok l r t st (fun x hx => by have := hr x hx; omega) (by omega)).use rfl
end Go.Proofs.YtehchnjnbbnkbaaGreat
