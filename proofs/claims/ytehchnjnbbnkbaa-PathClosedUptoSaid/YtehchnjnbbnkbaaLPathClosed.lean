/-
  THE LAW PathClosed over canonical data.
-/
import Derived.Test.YtehchnjnbbnkbaaLawC
import Derived.Test.YtehchnjnbbnkbaaLawD
set_option linter.unusedVariables false
set_option linter.unusedSimpArgs false
namespace Go.Proofs.Ytehchnjnbbnkbaa
open Go.Abs

theorem binds_of_rows : ∀ (xs : List (List V)), (∀ i, i < xs.length → ∃ y : ByteArray × Tm, xs.getD i [] = encB y ∧ y.2.size ≤ V.bulkL (encB y)) → ∃ l : Su, xs = encS l ∧ ∀ y ∈ l, y.2.size ≤ V.bulkR (encS l)
  | [], _ => ⟨[], rfl, fun y hy => by cases hy⟩
  | x :: xs, h => by
    obtain ⟨y, hy, hs⟩ := h 0 (by simp)
    obtain ⟨l, hl, hs2⟩ := binds_of_rows xs fun i hi => h (i + 1) (by simpa using hi)
    have e : encS (y :: l) = encB y :: encS l := rfl
    refine ⟨y :: l, ?_, fun z hz => ?_⟩
    · have : x = encB y := hy
      rw [this, hl]; rfl
    · rw [e]
      simp only [V.bulkR]
      rcases List.mem_cons.1 hz with rfl | hz
      · omega
      · have := hs2 z hz; omega
theorem wt_binds {v : V} (h : WTt (.sl t_Bind) v) : ∃ l : Su, v = .l (encS l) ∧ ∀ y ∈ l, y.2.size ≤ v.bulk := by
  obtain ⟨xs, rfl, hx⟩ := wt_sl h
  rw [lf_Bind] at hx
  obtain ⟨l, hl, hs⟩ := binds_of_rows xs fun i hi => by
    have g := hx i hi
    generalize xs.getD i [] = c at g
    match c, g with
    | [a, b, d, e], ⟨g1, g2⟩ =>
      obtain ⟨n, rfl⟩ := wt_str g1
      obtain ⟨t, rfl, rfl, rfl, ht⟩ := wt_term g2
      refine ⟨(n, t), by rw [encB, Tm.enc_eq], ?_⟩
      rw [encB, Tm.enc_eq]
      simp only [V.bulkL]
      omega
  refine ⟨l, by rw [hl], fun y hy => ?_⟩
  have := hs y hy
  rw [hl]
  simp only [V.bulk]; omega

theorem law_PathClosed (xss : List (List V)) (h1 : xss.length = Try.f5.params.toList.length) (h2 : ∀ i t, Try.f5.params.toList[i]? = some t → (xss.getD i []).length = (tab.get t).lf.length ∧ ∀ j, j < (tab.get t).lf.length → WT (lfs tab) ((tab.get t).lf.getD j .oth) ((xss.getD i []).getD j V.none)) (h3 : V.bulkR xss ≤ 1048576) :
    ACalls Try.prog (lfs tab) 5 (argsD tab Try.f5.params.toList xss) [] fun r _ => r = .v .bool (.b true) := by
  obtain ⟨hl, hw⟩ := argWT_of h1 h2
  have e : Try.f5.params.toList = [22, 35, 39] := by kernel_rfl
  rw [e] at hl hw ⊢
  have e0 : (tab.get 22).lf = [.sl t_Rank] := by kernel_rfl
  have e1 : (tab.get 35).lf = [.str, .bool, .sl t_Term, .str, .bool, .sl t_Term] := by kernel_rfl
  have e2 : (tab.get 39).lf = [.sl t_Bind, .str, .bool, .sl t_Term, .sl t_int] := by kernel_rfl
  have w0 := hw 0 22 rfl
  have w1 := hw 1 35 rfl
  have w2 := hw 2 39 rfl
  rw [e0] at w0
  rw [e1] at w1
  rw [e2] at w2
  match xss, hl, w0, w1, w2 with
  | [[v], [a, b, c, a', b', c'], [q, a'', b'', c'', z]], _, ⟨g0, _⟩, ⟨k1, k2, k3, k4⟩, ⟨m1, m2, m3, m4, m5, _⟩ =>
    obtain ⟨l, rfl⟩ := wt_ranks g0
    obtain ⟨s, rfl, rfl, rfl, hs⟩ := wt_term ⟨k1, k2, k3, trivial⟩
    obtain ⟨t, rfl, rfl, rfl, ht⟩ := wt_term k4
    obtain ⟨su, rfl, hsu⟩ := wt_binds m1
    obtain ⟨u, rfl, rfl, rfl, hu⟩ := wt_term ⟨m2, m3, m4, trivial⟩
    obtain ⟨p, rfl⟩ := wt_ints m5
    have ea : argsD tab [22, 35, 39] [[.l (encRks l)], [.s s.name, .b s.var, .l (Tm.encL s.args), .s t.name, .b t.var, .l (Tm.encL t.args)], [.l (encS su), .s u.name, .b u.var, .l (Tm.encL u.args), .l (encP p)]] = [rksD l, t2D s t, arD su u p] := by kernel_rfl
    rw [ea]
    simp only [V.bulkR, V.bulkL] at h3
    exact (l06_PathClosed_ok l s t su u p (by omega) (by omega) (fun y hy => by have := hsu y hy; omega) (by omega)).use rfl
end Go.Proofs.Ytehchnjnbbnkbaa
