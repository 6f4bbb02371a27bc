/-
  CONTRACTS: the chapter's example; the laws.
-/
import Derived.Test.YtehchnjnbbnkbaaLawA
set_option linter.unusedVariables false
set_option linter.unusedSimpArgs false
namespace Go.Proofs.Ytehchnjnbbnkbaa
open Go.Abs

theorem l06_alive_ok : Fn f_l06_alive [] (bD true) := fun Q hQ => by
  refine C_l06_alive _ ?_
  unfold vc_l06_alive
  refine l06_variable_ok _ _ ⟨rfl, rfl, l06_variable_ok _ _ ⟨rfl, rfl, tD (.mk bS false [exX]), (l06_symbol_ok _ [exX]).here rfl, tD exS, (l06_symbol_ok _ [.mk bS false [exX], exY]).here rfl,
    tD (.mk bAdd false [exX, exY]), (l06_symbol_ok _ [exX, exY]).here rfl, tD exT, (l06_symbol_ok _ [.mk bAdd false [exX, exY]]).here rfl, ?_⟩⟩
  refine path_Greater_ok exL exS exT (by decide) (by decide) _ ⟨rfl, rfl, path_Greater_ok exL exT exS (by decide) (by decide) _ ⟨rfl, rfl, ?_⟩⟩
  rw [ex_gr1, ex_gr2, ex_err1, ex_err2]
  exact ⟨trivial, hQ⟩

theorem l06_PathRanks_ok (l : Rks) (x : ByteArray) : Fn f_l06_PathRanks [rksD l, sD x] (bD true) := fun Q hQ => by
  refine C_l06_PathRanks _ _ _ ?_
  unfold vc_l06_PathRanks
  refine r06_Check_ok l _ ⟨rfl, rfl, path_Rank_ok l x _ ⟨rfl, rfl, path_Check_ok l _ ⟨rfl, rfl, iff_bne (fun h => absurd rfl h) (fun _ => iff_bne (fun h => absurd rfl h) (fun _ => ?_))⟩⟩⟩
  rw [jp_l06_PathRanks_0_s]
  unfold je_l06_PathRanks_0
  refine iff_bne (fun h => iff_beq (fun h2 => l06_alive_ok _ ⟨rfl, rfl, trivial, hQ⟩) (fun h2 => ?_)) (fun h => iff_beq (fun _ => r06_Entry_ok l x _ ⟨rfl, rfl, iff_beq (fun _ => l06_alive_ok _ ⟨rfl, rfl, trivial, hQ⟩) (fun h2 => ?_)⟩) (fun h2 => absurd h h2))
  · have h : rkErr l ≠ 0 := h
    have h2 : (if rkErr l = 0 then rankOf l x else 0) ≠ 0 := h2
    rw [if_neg h] at h2
    exact absurd rfl h2
  · have h : rkErr l = 0 := h
    have h2 : (if rkErr l = 0 then rankOf l x else 0) ≠ (entry l x).rank := h2
    rw [if_pos h] at h2
    exact absurd rfl h2

theorem l06_PathGreater_ok (l : Rks) (s t : Tm) (hs : s.size ≤ small) (ht : t.size ≤ small) : Fn f_l06_PathGreater [rksD l, tD s, tD t] (bD true) := fun Q hQ => by
  refine C_l06_PathGreater _ _ _ _ _ _ _ _ ?_
  unfold vc_l06_PathGreater
  have fin : ∀ e : Int, e = grErr l s t → jp_l06_PathGreater_0 Q (encRks l) (.b (gr l s t)) (.i (grErr l s t)) (.i e) s.name s.var (Tm.encL s.args) t.name t.var (Tm.encL t.args) := by
    rintro _ rfl
    rw [jp_l06_PathGreater_0_s]
    unfold je_l06_PathGreater_0
    refine iff_bne (fun h => iff_not (iff_intro (fun h2 => ?_) (fun h2 => iff_beq (fun _ => l06_alive_ok _ ⟨rfl, rfl, trivial, hQ⟩) (fun h3 => absurd rfl h3)))) (fun h => iff_beq (fun _ => r06_Greater_ok l _ s t (Nat.le_refl _) _ ⟨rfl, rfl, iff_beq (fun _ => l06_alive_ok _ ⟨rfl, rfl, trivial, hQ⟩) (fun h2 => ?_)⟩) (fun h2 => absurd h h2))
    · have h : grErr l s t ≠ 0 := h
      have h2 : gr l s t = true := h2
      unfold gr at h2
      rw [decide_eq_false h] at h2
      cases h2
    · have h : grErr l s t = 0 := h
      have h2 : gr l s t ≠ gtB (rankOf l) s t := h2
      unfold gr at h2
      rw [decide_eq_true h, Bool.true_and] at h2
      exact absurd rfl h2
  refine path_Greater_ok l s t hs ht _ ⟨rfl, rfl, r06_Check_ok l _ ⟨rfl, rfl, iff_beq (fun h => ?_) (fun h => fin _ ?_)⟩⟩
  · have h : rkErr l = 0 := h
    rw [enc_two]
    refine r01_CheckAll_ok [s, t] (fun x hx => ?_) _ ⟨rfl, rfl, fin _ ?_⟩
    · rcases List.mem_cons.1 hx with rfl | hx
      · exact hs
      · rw [List.mem_singleton.1 hx]; exact ht
    · show Tm.checkAll [s, t] = _
      unfold grErr
      rw [if_neg (by simp [h])]
  · have h : rkErr l ≠ 0 := h
    show rkErr l = _
    unfold grErr
    rw [if_pos h]

theorem gr_true {l : Rks} {s t : Tm} : gr l s t = true ↔ grErr l s t = 0 ∧ Gt (rankOf l) s t := by
  unfold gr
  rw [Bool.and_eq_true, decide_eq_true_iff, gtB_true]
theorem grErr_zero {l : Rks} {s t : Tm} : grErr l s t = 0 ↔ rkErr l = 0 ∧ s.check = 0 ∧ t.check = 0 := by
  unfold grErr
  by_cases h : rkErr l = 0
  · rw [if_neg (by simp [h]), Tm.checkAll_zero]
    simp [h]
  · rw [if_pos h]
    exact ⟨fun h2 => absurd h2 h, fun h2 => absurd h2.1 h⟩

/-- Three terms. -/
abbrev t3D (s t u : Tm) : D := .agg [.v .str (.s s.name), .v .bool (.b s.var), .v (.sl t_Term) (.l (Tm.encL s.args)), .v .str (.s t.name), .v .bool (.b t.var), .v (.sl t_Term) (.l (Tm.encL t.args)), .v .str (.s u.name), .v .bool (.b u.var), .v (.sl t_Term) (.l (Tm.encL u.args))]
theorem l06_PathOrder_ok (l : Rks) (s t u : Tm) (hs : s.size ≤ small) (ht : t.size ≤ small) (hu : u.size ≤ small) : Fn f_l06_PathOrder [rksD l, t3D s t u] (bD true) := fun Q hQ => by
  refine C_l06_PathOrder _ _ _ _ _ _ _ _ _ _ _ ?_
  unfold vc_l06_PathOrder
  have al : cl f_l06_alive [] [] fun r1 H2 => r1 = (.v .bool (r1.V)) ∧ H2 = [] ∧ True ∧ Q (.v .bool (r1.V)) [] := l06_alive_ok _ ⟨rfl, rfl, trivial, hQ⟩
  refine l06_greater_ok l s s hs hs _ ⟨rfl, rfl, iff_intro (fun h => ?_) (fun _ => l06_greater_ok l s t hs ht _ ⟨rfl, rfl, iff_not (iff_intro (fun h => l06_greater_ok l t u ht hu _ ⟨rfl, rfl, iff_not (iff_intro (fun h2 => l06_greater_ok l s u hs hu _ ⟨rfl, rfl, iff_intro (fun _ => al) (fun h3 => ?_)⟩) (fun _ => al))⟩) (fun _ => al))⟩)⟩
  · have h : gr l s s = true := h
    exact absurd (gr_true.1 h).2 (Gt.irrefl s)
  · have h : gr l s t = true := h
    have h2 : gr l t u = true := h2
    have h3 : gr l s u = false := h3
    rw [gr_true, grErr_zero] at h h2
    have : gr l s u = true := gr_true.2 ⟨grErr_zero.2 ⟨h.1.1, h.1.2.1, h2.1.2.2⟩, h.2.trans h2.2⟩
    rw [h3] at this
    cases this
end Go.Proofs.Ytehchnjnbbnkbaa
