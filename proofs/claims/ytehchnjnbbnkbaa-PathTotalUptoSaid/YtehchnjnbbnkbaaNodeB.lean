/-
  CONTRACTS of the program's comparer: equality of subterms with a memo.
-/
import Derived.Test.YtehchnjnbbnkbaaNodeA
set_option linter.unusedVariables false
set_option linter.unusedSimpArgs false
namespace Go.Proofs.Ytehchnjnbbnkbaa
open Go.Abs

/-- What is known about pairs of nodes: 0 nothing, 1 yes, 2 no. -/
def Memo (p : Tm → Tm → Bool) (A B : List Nd) (m : List Int) : Prop := m.length = A.length * B.length ∧
  ∀ (i k : Nat) (x y : Nd), A[i]? = some x → B[k]? = some y → ∃ v, m[i * B.length + k]? = some v ∧ (v = 0 ∨ v = if p x.tm y.tm then 1 else 2)
theorem cell_lt {i k a b : Nat} (hi : i < a) (hk : k < b) : i * b + k < a * b := by
  have := Nat.mul_le_mul_right b (show i + 1 ≤ a by omega)
  rw [Nat.add_mul] at this
  omega
theorem cell_inj {i k i' k' b : Nat} (hk : k < b) (hk' : k' < b) (h : i * b + k = i' * b + k') : i = i' ∧ k = k' := by
  have h1 : (i * b + k) / b = i := by rw [Nat.mul_comm, Nat.mul_add_div (by omega), Nat.div_eq_of_lt hk]; rfl
  have h2 : (i' * b + k') / b = i' := by rw [Nat.mul_comm, Nat.mul_add_div (by omega), Nat.div_eq_of_lt hk']; rfl
  rw [h, h2] at h1
  subst h1
  exact ⟨rfl, by omega⟩
theorem Memo.set {p : Tm → Tm → Bool} {A B : List Nd} {m : List Int} (h : Memo p A B m) {i k : Nat} {x y : Nd} (hx : A[i]? = some x) (hy : B[k]? = some y) {v : Int} (hv : v = if p x.tm y.tm then 1 else 2) :
    Memo p A B (m.set (i * B.length + k) v) := by
  have hi := (List.getElem?_eq_some_iff.1 hx).1
  have hk := (List.getElem?_eq_some_iff.1 hy).1
  refine ⟨by rw [List.length_set]; exact h.1, fun i' k' x' y' hx' hy' => ?_⟩
  have hk' := (List.getElem?_eq_some_iff.1 hy').1
  by_cases he : i * B.length + k = i' * B.length + k'
  · obtain ⟨rfl, rfl⟩ := cell_inj hk hk' he
    rw [hx] at hx'
    rw [hy] at hy'
    obtain rfl := Option.some.inj hx'
    obtain rfl := Option.some.inj hy'
    have := cell_lt hi hk
    rw [List.getElem?_set_self (by rw [h.1]; exact this)]
    exact ⟨v, rfl, .inr hv⟩
  · rw [List.getElem?_set_ne he]
    exact h.2 i' k' x' y' hx' hy'
theorem at_eq {i k n : Nat} (h : i * n + k ≤ 1000000000) : IntKind.i64.wrap ((IntKind.i64.wrap ((i : Int) * ((n : Nat) : Int))) + (k : Int)) = ((i * n + k : Nat) : Int) := by
  rw [← Int.natCast_mul, wrap_in ((i * n : Nat) : Int) (by omega) (by omega), wrap_in _ (by omega) (by omega)]
  omega
theorem encP_get {m : List Int} {j : Nat} {v : Int} (h : m[j]? = some v) : (encP m).getD j [] = [.i v] := by
  rw [encP, List.getD_eq_getElem?_getD, List.getElem?_map, h]; rfl
theorem encP_set (m : List Int) (j : Nat) (v : Int) (h : j < m.length) : (encP m).set j (setV ((encP m).getD j []) 0 [V.i v]) = encP (m.set j v) := by
  rw [encP_getD _ _ h, encP, encP, List.map_set]; rfl

/-- The memory of a comparer. -/
abbrev hp (l : Rks) (A B : List Nd) (kn sm : List Int) : Heap :=
  [.cells [.v (.sl t_Rank) (.l (encRks l)), .v (.sl t_path_node) (.l (encN A)), .osl (.own 1) B.length, .osl (.own 2) kn.length, .osl (.own 3) sm.length], .row t_path_node (encN B), .row t_uint8 (encP kn), .row t_uint8 (encP sm)]

theorem args_ne {s t : Tm} {n : Nat} (h1 : n < s.args.length) (h2 : n < t.args.length) (h : s.args[n] ≠ t.args[n]) : s ≠ t := fun e => by subst e; exact h rfl

theorem equal_ok (l : Rks) (A B : List Nd) (kn : List Int) (hA : Good A) (hB : Good B) (hAB : A.length * B.length ≤ 1000000000) :
    ∀ (N i k : Nat) (x y : Nd) (sm : List Int), i < N → A[i]? = some x → B[k]? = some y → Memo Tm.eqB A B sm →
    ∀ Q : D → Heap → Prop, (∀ sm', Memo Tm.eqB A B sm' → Q (bD (Tm.eqB x.tm y.tm)) (hp l A B kn sm')) →
    cl f_path_comparer_equal [.ptr (.own 0) 0, iD i, iD k] (hp l A B kn sm) Q := by
  intro N
  induction N with
  | zero => intro i k x y sm h; omega
  | succ N ih =>
  intro i k x y sm hN hx hy hm Q hQ
  have hi := (List.getElem?_eq_some_iff.1 hx).1
  have hk := (List.getElem?_eq_some_iff.1 hy).1
  have hlt := cell_lt hi hk
  refine C_path_comparer_equal _ _ _ _ _ _ _ _ _ _ _ ?_
  unfold vc_path_comparer_equal
  refine ⟨encN_length B, fun hb => ?_⟩
  rw [big_eq] at hb
  rw [at_eq (by omega)]
  have hsl := hm.1
  have fin : ∀ sm', Memo Tm.eqB A B sm' → (∃ v, sm'[i * B.length + k]? = some v ∧ v ≠ 0) → jp_path_comparer_equal_2 Q ((i * B.length + k : Nat) : Int) (.l (encRks l)) (.l (encN A)) B.length kn.length sm'.length (encN B) (encP kn) (encP sm') := fun sm' hm' hv => by
    rw [jp_path_comparer_equal_2_s]
    unfold je_path_comparer_equal_2
    have hl' := hm'.1
    refine ⟨encP_length _, by omega, by omega, encP_length _, by omega, trivial, ?_⟩
    obtain ⟨v, h1, h2⟩ := hm'.2 i k x y hx hy
    obtain ⟨v', h3, h4⟩ := hv
    rw [h1] at h3
    obtain rfl := Option.some.inj h3
    rw [Int.toNat_natCast, encP_get h1]
    have hq := hQ sm' hm'
    have e : (v == 1) = Tm.eqB x.tm y.tm := by
      rcases h2 with h2 | h2
      · exact absurd h2 h4
      · subst h2
        cases Tm.eqB x.tm y.tm <;> rfl
    show Q (bD (v == 1)) _
    rw [e]
    exact hq
  obtain ⟨v0, hv0, hv0'⟩ := hm.2 i k x y hx hy
  refine ⟨encP_length _, by omega, by omega, encP_length _, by omega, ?_⟩
  rw [Int.toNat_natCast, encP_get hv0, Int.toNat_natCast, Int.toNat_natCast]
  refine iff_beq (fun h0 => ?_) (fun h0 => fin sm hm ⟨v0, hv0, h0⟩)
  rw [encN_getD A i x hx, encN_getD B k y hy]
  simp only [List.drop_zero, List.headD_cons, List.tail_cons, V.bool, V.str, V.list]
  -- the loop
  have loop : ∀ ok : Bool, (ok = true → x.tm.var = y.tm.var ∧ x.tm.name = y.tm.name ∧ x.tm.args.length = y.tm.args.length) → (ok = false → x.tm ≠ y.tm) →
      jp_path_comparer_equal_0 Q ((i * B.length + k : Nat) : Int) ok (.s x.tm.name) (.b x.tm.var) (.l (Tm.encL x.tm.args)) (.l (encP x.ix)) (.s y.tm.name) (.b y.tm.var) (.l (Tm.encL y.tm.args)) (.l (encP y.ix)) (encRks l) (encN A) B.length kn.length sm.length (encN B) (encP kn) (encP sm) := by
    intro ok hok hno
    obtain ⟨hxl, hxf⟩ := hA i x hx
    obtain ⟨hyl, hyf⟩ := hB k y hy
    rw [jp_path_comparer_equal_0_s]
    unfold je_path_comparer_equal_0
    refine rule_path_comparer_equal_0 Q (fun x7 x10 x11 _ _ _ y8_3 _ _ _ y9_3 h0_0 h0_1 h0_2n h0_3n h0_4n h1 h2 h3 => ∃ (ok : Bool) (n : Nat) (sm' : List Int), x7 = ((i * B.length + k : Nat) : Int) ∧ x10 = .b ok ∧ x11 = (n : Int) ∧ y8_3 = .l (encP x.ix) ∧ y9_3 = .l (encP y.ix) ∧ h0_0 = .l (encRks l) ∧ h0_1 = .l (encN A) ∧ h0_2n = B.length ∧ h0_3n = kn.length ∧ h0_4n = sm'.length ∧ h1 = encN B ∧ h2 = encP kn ∧ h3 = encP sm' ∧ Memo Tm.eqB A B sm' ∧
        (ok = true → x.tm.var = y.tm.var ∧ x.tm.name = y.tm.name ∧ x.tm.args.length = y.tm.args.length ∧ n ≤ x.tm.args.length ∧ x.tm.args.take n = y.tm.args.take n) ∧ (ok = false → x.tm ≠ y.tm))
      (fun _ _ x11 _ _ _ y8_3 _ _ _ _ _ _ _ _ _ _ _ _ => y8_3.list.length - x11.toNat) ?_ _ _ _ _ _ _ _ _ _ _ _ _ _ _ _ _ _ _ _
      ⟨ok, 0, sm, rfl, rfl, rfl, rfl, rfl, rfl, rfl, rfl, rfl, rfl, rfl, rfl, rfl, hm, fun h => ⟨(hok h).1, (hok h).2.1, (hok h).2.2, Nat.zero_le _, rfl⟩, hno⟩
    intro x7 x10 x11 y8_0 y8_1 y8_2 y8_3 y9_0 y9_1 y9_2 y9_3 h0_0 h0_1 h0_2n h0_3n h0_4n h1 h2 h3 hI m0 hK
    obtain ⟨ok, n, sm', rfl, rfl, rfl, rfl, rfl, rfl, rfl, rfl, rfl, rfl, rfl, rfl, rfl, hm', hok, hno⟩ := hI
    have hsl' := hm'.1
    unfold st_path_comparer_equal_0
    have hxe := encP_length x.ix
    have hye := encP_length y.ix
    -- the end of the loop
    have exit : ∀ ok' : Bool, ok' = Tm.eqB x.tm y.tm → ((encP sm').length = sm'.length ∧ 0 ≤ ((i * B.length + k : Nat) : Int) ∧ ((i * B.length + k : Nat) : Int) < sm'.length ∧ (encP sm').length = sm'.length ∧ (((i * B.length + k : Nat) : Int)).toNat < sm'.length ∧ iff ok' (((encP sm').set (((i * B.length + k : Nat) : Int)).toNat (setV ((encP sm').getD (((i * B.length + k : Nat) : Int)).toNat []) 0 [V.i 2])).length = sm'.length ∧ 0 ≤ ((i * B.length + k : Nat) : Int) ∧ ((i * B.length + k : Nat) : Int) < sm'.length ∧ ((encP sm').set (((i * B.length + k : Nat) : Int)).toNat (setV ((encP sm').getD (((i * B.length + k : Nat) : Int)).toNat []) 0 [V.i 2])).length = sm'.length ∧ (((i * B.length + k : Nat) : Int)).toNat < sm'.length ∧ jp_path_comparer_equal_2 Q ((i * B.length + k : Nat) : Int) (.l (encRks l)) (.l (encN A)) B.length kn.length sm'.length (encN B) (encP kn) (((encP sm').set (((i * B.length + k : Nat) : Int)).toNat (setV ((encP sm').getD (((i * B.length + k : Nat) : Int)).toNat []) 0 [V.i 2])).set (((i * B.length + k : Nat) : Int)).toNat (setV (((encP sm').set (((i * B.length + k : Nat) : Int)).toNat (setV ((encP sm').getD (((i * B.length + k : Nat) : Int)).toNat []) 0 [V.i 2])).getD (((i * B.length + k : Nat) : Int)).toNat []) 0 [V.i 1]))) (jp_path_comparer_equal_2 Q ((i * B.length + k : Nat) : Int) (.l (encRks l)) (.l (encN A)) B.length kn.length sm'.length (encN B) (encP kn) ((encP sm').set (((i * B.length + k : Nat) : Int)).toNat (setV ((encP sm').getD (((i * B.length + k : Nat) : Int)).toNat []) 0 [V.i 2])))) := by
      intro ok' he
      have hj : i * B.length + k < sm'.length := by omega
      rw [Int.toNat_natCast, encP_set _ _ _ hj]
      have hj2 : i * B.length + k < (sm'.set (i * B.length + k) 2).length := by rw [List.length_set]; exact hj
      rw [encP_set _ _ _ hj2, List.set_set]
      have e2 : (encP (sm'.set (i * B.length + k) 2)).length = sm'.length := by rw [encP_length, List.length_set]
      refine ⟨encP_length _, by omega, by omega, encP_length _, hj, iff_intro (fun h => ⟨e2, by omega, by omega, e2, hj, ?_⟩) (fun h => ?_)⟩
      · have := fin (sm'.set (i * B.length + k) 1) (hm'.set hx hy (by rw [← he, h]; rfl)) ⟨1, by rw [List.getElem?_set_self hj], by omega⟩
        rw [List.length_set] at this
        exact this
      · have := fin (sm'.set (i * B.length + k) 2) (hm'.set hx hy (by rw [← he, h]; rfl)) ⟨2, by rw [List.getElem?_set_self hj], by omega⟩
        rw [List.length_set] at this
        exact this
    refine iff_intro (fun h => ?_) (fun h => ?_)
    · have h : ok = true := h
      obtain ⟨g1, g2, g3, g4, g5⟩ := hok h
      intro hb2
      have hb2 : (encP x.ix).length ≤ 9223372036854775807 := by rw [← big_eq]; exact hb2
      refine iff_dec (fun hlt2 => ?_) (fun hlt2 => ?_)
      · have hlt2 : (n : Int) < ((encP x.ix).length : Int) := hlt2
        have hn : n < x.tm.args.length := by omega
        have hn2 : n < y.tm.args.length := by omega
        obtain ⟨m1, a1, a2, x', a3, a4⟩ := hxf n _ (List.getElem?_eq_getElem hn)
        obtain ⟨m2, b1, b2, y', b3, b4⟩ := hyf n _ (List.getElem?_eq_getElem hn2)
        rw [jp_path_comparer_equal_1_s]
        unfold je_path_comparer_equal_1
        simp only [V.list]
        rw [Int.toNat_natCast, encP_get a1, encP_get b1]
        refine ⟨by omega, by omega, by omega, by omega, ih m1 m2 x' y' sm' (by omega) a3 b3 hm' _ fun sm2 hm2 => ⟨rfl, rfl, ?_⟩⟩
        rw [wrap_in _ (by omega) (by omega)]
        refine hK _ _ _ _ _ _ _ _ _ _ _ _ _ _ _ _ _ _ _ ⟨Tm.eqB x'.tm y'.tm, n + 1, sm2, rfl, rfl, by omega, rfl, rfl, rfl, rfl, rfl, rfl, rfl, rfl, rfl, rfl, hm2, fun h2 => ⟨g1, g2, g3, hn, ?_⟩, fun h2 => ?_⟩ ?_
        · rw [Tm.eqB_iff, a4, b4] at h2
          rw [List.take_succ_eq_append_getElem hn, List.take_succ_eq_append_getElem hn2, g5, h2]
        · rw [Tm.eqB_false, a4, b4] at h2
          exact args_ne hn hn2 h2
        · show (encP x.ix).length - ((n : Int) + 1).toNat < (encP x.ix).length - ((n : Int)).toNat
          omega
      · have hlt2 : ¬ (n : Int) < ((encP x.ix).length : Int) := hlt2
        have hn : n = x.tm.args.length := by omega
        refine exit ok ?_
        rw [h]
        symm
        rw [Tm.eqB_iff]
        refine Tm.ext g2 g1 ?_
        rw [hn, List.take_length, g3, List.take_length] at g5
        exact g5
    · have h : ok = false := h
      refine exit ok ?_
      rw [h]
      symm
      rw [Tm.eqB_false]
      exact hno h
  obtain ⟨hxl, hxf⟩ := hA i x hx
  obtain ⟨hyl, hyf⟩ := hB k y hy
  refine ⟨by omega, by rw [encN_length]; omega, encN_length B, by omega, by omega, encN_length B, by omega, ?_⟩
  refine iff_beq (fun h1 => ?_) (fun h1 => loop false (fun h => by cases h) fun _ e => h1 (by rw [e]))
  rw [ba_beq]
  refine iff_dec (fun h2 _ _ => loop _ (fun h => ⟨h1, h2, ?_⟩) fun h e => ?_) (fun h2 => loop false (fun h => by cases h) fun _ e => h2 (by rw [e]))
  · rw [beq_iff_eq, encP_length, encP_length] at h; omega
  · rw [beq_eq_false_iff_ne, encP_length, encP_length] at h
    rw [e] at hxl
    exact h (by omega)
end Go.Proofs.Ytehchnjnbbnkbaa
