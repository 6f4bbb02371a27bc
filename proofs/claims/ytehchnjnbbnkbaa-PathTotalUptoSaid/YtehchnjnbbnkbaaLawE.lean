/-
  CONTRACTS: the law PathTotal.
-/
import Derived.Test.YtehchnjnbbnkbaaLawB
import Derived.Test.YtehchnjnbbnkbaaLpoC
set_option linter.unusedVariables false
set_option linter.unusedSimpArgs false
namespace Go.Proofs.Ytehchnjnbbnkbaa
open Go.Abs

abbrev Sy := ByteArray × Nat
def encM (M : List Sy) : List (List V) := M.map fun y => [V.s y.1, V.i (y.2 : Int)]
theorem encM_length (M : List Sy) : (encM M).length = M.length := by simp [encM]
theorem encM_getD (M : List Sy) (k : Nat) (h : k < M.length) : (encM M).getD k [] = [.s (M[k]).1, .i ((M[k]).2 : Int)] := by
  rw [encM, List.getD_eq_getElem?_getD, List.getElem?_map, List.getElem?_eq_getElem h]; rfl
/-- A symbol beside a listed one. -/
def Beside (r : ByteArray → Int) (t : Tm) (y : Sy) : Prop := (y.1 = t.name → y.2 = t.args.length) ∧ (y.1 ≠ t.name → r y.1 ≠ r t.name)
theorem Plain.push {r : ByteArray → Int} {M : List Sy} {t : Tm} (h : Plain r M) (hb : ∀ y ∈ M, Beside r t y) : Plain r (M ++ [(t.name, t.args.length)]) := by
  intro x hx y hy
  rcases List.mem_append.1 hx with hx | hx
  · rcases List.mem_append.1 hy with hy | hy
    · exact h x hx y hy
    · rw [List.mem_singleton.1 hy]; exact hb x hx
  · rcases List.mem_append.1 hy with hy | hy
    · rw [List.mem_singleton.1 hx]
      exact ⟨fun e => ((hb y hy).1 e.symm).symm, fun e => ((hb y hy).2 fun e2 => e e2.symm).symm⟩
    · rw [List.mem_singleton.1 hx, List.mem_singleton.1 hy]
      exact ⟨fun _ => rfl, fun e => absurd rfl e⟩

theorem fixed_ok (l : Rks) : ∀ (t : Tm) (M : List Sy), M.length + t.size ≤ lim → Plain (rankOf l) M → ∀ Q : D → Heap → Prop,
    (∀ n X, Q (.tup [.osl (.own 0) n, bD false]) [.row t_Symbol X]) →
    (∀ M', Plain (rankOf l) M' → (∀ x ∈ M, x ∈ M') → Within M' t → M'.length ≤ M.length + t.size → Q (.tup [.osl (.own 0) M'.length, bD true]) [.row t_Symbol (encM M')]) →
    cl f_l06_fixed [rksD l, tD t, .osl (.own 0) M.length] [.row t_Symbol (encM M)] Q := Tm.ind fun t ih M hB hP Q hF hT => by
  refine C_l06_fixed _ _ _ _ _ _ _ ?_
  unfold vc_l06_fixed
  have hlm := lim_eq
  have hl := Tm.encL_length t.args
  have hsz := Tm.size_eq t
  have hls := Tm.length_sizeL t.args
  refine iff_intro (fun _ => ⟨⟨trivial, trivial, trivial⟩, hF _ _⟩) (fun hv => ⟨encM_length M, fun hb => ?_⟩)
  -- the arguments
  have j1 : ∀ M1 : List Sy, Plain (rankOf l) M1 → (∀ x ∈ M, x ∈ M1) → (t.name, t.args.length) ∈ M1 → M1.length ≤ M.length + 1 → jp_l06_fixed_1 Q (encRks l) M1.length t.name t.var (Tm.encL t.args) (encM M1) := fun M1 hP1 hsub hin hlen => by
    rw [jp_l06_fixed_1_s]
    unfold je_l06_fixed_1
    intro hb2
    rw [hl] at hb2 ⊢
    refine range_l06_fixed_1 Q _ _ _ hb2 (fun k n h => ∃ M2 : List Sy, n = M2.length ∧ h = encM M2 ∧ Plain (rankOf l) M2 ∧ (∀ x ∈ M1, x ∈ M2) ∧ (∀ a ∈ t.args.take k, Within M2 a) ∧ M2.length ≤ M1.length + Tm.sizeL (t.args.take k)) (fun k n h hk hJ K hK => ?_) (fun n h hJ => ?_) 0 _ _ (Nat.zero_le _) ⟨M1, rfl, rfl, hP1, fun _ h => h, fun a ha => by simp at ha, by simp⟩
    · obtain ⟨M2, rfl, rfl, g1, g2, g3, g4⟩ := hJ
      simp only [Tm.encL_getD _ k hk, Tm.enc_eq, List.drop_zero, List.headD_cons, List.tail_cons]
      have hm := Tm.sizeL_take_le t.args (k + 1)
      rw [Tm.sizeL_take _ _ hk] at hm
      refine ⟨by omega, by omega, ih _ (List.getElem_mem hk) M2 (by omega) g1 _ (fun n X => ⟨rfl, rfl, ⟨trivial, trivial, trivial⟩, hF _ _⟩) (fun M3 k1 k2 k3 k4 => ⟨rfl, rfl, hK _ _ ⟨M3, rfl, rfl, k1, fun x hx => k2 x (g2 x hx), fun a ha => ?_, ?_⟩⟩)⟩
      · rw [List.take_succ_eq_append_getElem hk] at ha
        rcases List.mem_append.1 ha with ha | ha
        · exact Within.mono k2 a (g3 a ha)
        · rw [List.mem_singleton.1 ha]; exact k3
      · rw [Tm.sizeL_take _ _ hk]; omega
    · obtain ⟨M2, rfl, rfl, g1, g2, g3, g4⟩ := hJ
      rw [List.take_length] at g3 g4
      exact ⟨⟨trivial, trivial, trivial⟩, hT M2 g1 (fun x hx => g2 x (hsub x hx)) (.mk t hv (g2 _ hin) g3) (by omega)⟩
  refine range_l06_fixed_0 Q _ _ _ _ _ _ _ _ hb (fun k b => (∀ y ∈ M.take k, Beside (rankOf l) t y) ∧ b = (M.take k).any fun y => decide (y.1 = t.name)) (fun k b hk hJ m0 hK => ?_) (fun b hJ => ?_) 0 _ (Nat.zero_le _) ⟨fun y hy => by simp at hy, rfl⟩
  · obtain ⟨g1, rfl⟩ := hJ
    rw [encM_getD M k hk]
    simp only [List.drop_zero, List.headD_cons, List.tail_cons, V.str, V.int]
    have el := encM_length M
    refine ⟨el, by omega, by omega, el, hk, ?_⟩
    have next : Beside (rankOf l) t M[k] → jp_l06_fixed_0 Q m0 (encRks l) M.length ((M.take k).any fun y => decide (y.1 = t.name)) M.length (M.length : Int) (k : Int) t.name t.var (Tm.encL t.args) (.s (M[k]).1) (.i ((M[k]).2 : Int)) (encM M) := fun hbs => by
      have hall : ∀ y ∈ M.take (k + 1), Beside (rankOf l) t y := fun y hy => by
        rw [List.take_succ_eq_append_getElem hk] at hy
        rcases List.mem_append.1 hy with hy | hy
        · exact g1 y hy
        · rw [List.mem_singleton.1 hy]; exact hbs
      rw [jp_l06_fixed_0_s]
      unfold je_l06_fixed_0
      simp only [V.str]
      rw [ba_beq]
      refine iff_intro (fun h => hK _ ⟨hall, ?_⟩) (fun h => hK _ ⟨hall, ?_⟩)
      · rw [List.take_succ_eq_append_getElem hk, List.any_append, h]; rfl
      · rw [List.take_succ_eq_append_getElem hk, List.any_append, h, List.any_cons, List.any_nil, Bool.or_false, Bool.false_or]
    rw [ba_beq, hl]
    refine iff_dec (fun h1 => iff_bne (fun _ => ⟨⟨trivial, trivial, trivial⟩, hF _ _⟩) (fun h2 => iff_not (iff_dec (fun _ => next ⟨fun _ => by omega, fun h3 => absurd h1 h3⟩) (fun h3 => absurd h1 h3)))) (fun h1 => iff_not (iff_dec (fun h3 => absurd h3 h1) (fun _ => ?_)))
    refine ⟨rkD (entry l (M[k]).1), (r06_Entry_ok l _).here rfl, rkD (entry l t.name), (r06_Entry_ok l _).here rfl, iff_beq (fun _ => ⟨⟨trivial, trivial, trivial⟩, hF _ _⟩) (fun h2 => next ⟨fun h3 => absurd h3 h1, fun _ => h2⟩)⟩
  · obtain ⟨g1, rfl⟩ := hJ
    rw [List.take_length] at g1 ⊢
    refine iff_not (iff_intro (fun h => ?_) (fun h _ => ?_))
    · obtain ⟨y, hy, he⟩ := List.any_eq_true.1 h
      have he := of_decide_eq_true he
      have : y = (t.name, t.args.length) := Prod.ext he ((g1 y hy).1 he)
      exact j1 M hP (fun _ h => h) (this ▸ hy) (by omega)
    · have := j1 (M ++ [(t.name, t.args.length)]) (hP.push g1) (fun x hx => List.mem_append_left _ hx) (by simp) (by simp)
      have e1 : encM (M ++ [(t.name, t.args.length)]) = encM M ++ [[V.s t.name, V.i (((Tm.encL t.args).length : Nat) : Int)]] := by
        rw [hl]; simp [encM]
      rw [e1, List.length_append] at this
      exact ⟨encM_length M, by show M.length + 1 ≤ lim; omega, this⟩

theorem l06_PathTotal_ok (l : Rks) (s t : Tm) (hs : s.size ≤ 1048576) (ht : t.size ≤ 1048576) : Fn f_l06_PathTotal [rksD l, tD s, tD t] (bD true) := fun Q hQ => by
  refine C_l06_PathTotal _ _ _ _ _ _ _ _ ?_
  unfold vc_l06_PathTotal
  have hsm := small_eq
  have hlm := lim_eq
  have al : cl f_l06_alive [] [] fun r1 H2 => r1 = (.v .bool (r1.V)) ∧ H2 = [] ∧ True ∧ Q (.v .bool (r1.V)) [] := l06_alive_ok _ ⟨rfl, rfl, trivial, hQ⟩
  refine r06_Check_ok l _ ⟨rfl, rfl, iff_bne (fun _ => al) (fun h1 => ?_)⟩
  rw [enc_two]
  refine r01_CheckAll_ok [s, t] (fun x hx => ?_) _ ⟨rfl, rfl, iff_bne (fun _ => al) (fun h2 => r01_Equal_ok s t _ ⟨rfl, rfl, iff_intro (fun _ => al) (fun h3 => ?_)⟩)⟩
  · rcases List.mem_cons.1 hx with rfl | hx
    · omega
    · rw [List.mem_singleton.1 hx]; omega
  have h1 : rkErr l = 0 := h1
  have h2 : Tm.checkAll [s, t] = 0 := h2
  have h3 : Tm.eqB s t = false := h3
  obtain ⟨c1, c2⟩ := check_two h2
  rw [jp_l06_PathTotal_0_s]
  unfold je_l06_PathTotal_0
  have p0 : Plain (rankOf l) [] := fun x hx => by cases hx
  refine fixed_ok l s [] (by show 0 + _ ≤ _; omega) p0 _ (fun n X => ⟨rfl, rfl, al⟩) fun M1 p1 q1 w1 z1 => ⟨rfl, rfl, ?_⟩
  have z1 : M1.length ≤ 0 + s.size := z1
  refine iff_not (iff_yes rfl ?_)
  refine fixed_ok l t M1 (by omega) p1 _ (fun n X => ⟨rfl, rfl, al⟩) fun M2 p2 q2 w2 z2 => ⟨rfl, rfl, ?_⟩
  refine iff_not (iff_yes rfl ?_)
  refine ⟨bD (gr l s t), (l06_greater_ok l s t (by omega) (by omega)).here rfl, l06_greater_ok l t s (by omega) (by omega) _ ⟨rfl, rfl, ?_⟩⟩
  show iff (!(gr l s t == gr l t s)) _ _
  have e1 : grErr l s t = 0 := grErr_zero.2 ⟨h1, c1, c2⟩
  have e2 : grErr l t s = 0 := grErr_zero.2 ⟨h1, c2, c1⟩
  have : (gr l s t == gr l t s) = false := by
    rcases Gt.total p2 (Within.mono q2 s w1) w2 with h | h | h
    · exact absurd h (Tm.eqB_false.1 h3)
    · have k1 : gr l s t = true := gr_true.2 ⟨e1, h⟩
      have k2 : gr l t s = false := by rw [← Bool.not_eq_true, gr_true]; exact fun k => h.asymm k.2
      rw [k1, k2]; rfl
    · have k1 : gr l t s = true := gr_true.2 ⟨e2, h⟩
      have k2 : gr l s t = false := by rw [← Bool.not_eq_true, gr_true]; exact fun k => h.asymm k.2
      rw [k1, k2]; rfl
  rw [this]
  exact al
end Go.Proofs.Ytehchnjnbbnkbaa
