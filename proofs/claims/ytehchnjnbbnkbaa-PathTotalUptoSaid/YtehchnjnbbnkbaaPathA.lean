/-
  CONTRACTS of the program's precedences.
-/
import Derived.Test.YtehchnjnbbnkbaaTermA
import Derived.Test.YtehchnjnbbnkbaaR06A
set_option linter.unusedVariables false
set_option linter.unusedSimpArgs false
namespace Go.Proofs.Ytehchnjnbbnkbaa
open Go.Abs

theorem path_Check_1_ok (x : Rk) : Fn f_path_Check_1 [rkD x] (sD x.name) := fun Q hQ => by
  refine C_path_Check_1 _ _ _ _ ?_
  unfold vc_path_Check_1
  exact ⟨trivial, hQ⟩
theorem path_Check_2_ok (x : Rk) : Fn f_path_Check_2 [rkD x] (bD (rkBad x)) := fun Q hQ => by
  refine C_path_Check_2 _ _ _ _ ?_
  unfold vc_path_Check_2
  have key : ∀ b, b = rkBad x → True ∧ Q (bD b) [] := by rintro _ rfl; exact ⟨trivial, hQ⟩
  refine iff_dec (fun h => key _ ?_) (fun h => iff_dec (fun h2 => key _ ?_) (fun h2 => key _ ?_))
  · exact (decide_eq_true (.inl h)).symm
  · exact (decide_eq_true (.inr (.inl h2))).symm
  · unfold rkBad
    rw [Bool.eq_iff_iff, decide_eq_true_iff, bne_iff_ne]
    omega

theorem path_Names_ok (l : Rks) : Fn f_path_Names_Rank [rksD l, .fn f_path_Check_1 []] (iD (listedErr l)) := fun Q hQ => by
  refine C_path_Names_Rank_pathCheck1 _ _ ?_
  unfold vc_path_Names_Rank_pathCheck1
  intro hb
  have hl := encRks_length l
  have hl2 : (rkNames l).length = l.length := by simp [rkNames]
  rw [hl] at hb ⊢
  rw [big_eq] at hb
  unfold listedErr at hQ
  refine iff_dec (fun h => ⟨trivial, ?_⟩) (fun h _ => ?_)
  · rw [if_pos (by omega)] at hQ; exact hQ
  rw [if_neg (by omega)] at hQ
  have bad : namesOk true (rkNames l) = false → Q (iD 4) [] := fun h => by rw [h] at hQ; exact hQ
  refine range_path_Names_Rank_pathCheck1_0 Q _ _ _ (by rw [big_eq]; exact hb) (fun k => ∀ i, i < k → nameAt true (rkNames l) i = true) (fun k hk hJ K hK => ?_) (fun hJ => ⟨trivial, ?_⟩) 0 (Nat.zero_le _) (fun i hi => by omega)
  · simp only [encRks_getD _ k hk, List.drop_zero, List.headD_cons, List.tail_cons]
    have hn := rkNames_getD l k hk
    refine ⟨by omega, by omega, sD (l[k]).name, (path_Check_1_ok _).here rfl, bD (nameOk (l[k]).name true), (term_IsName_ok _ _).here rfl, ?_⟩
    have next : nameAt true (rkNames l) k = true → ∀ i, i < k + 1 → nameAt true (rkNames l) i = true := fun h i hi => by
      rcases Nat.lt_succ_iff_lt_or_eq.1 hi with h8 | rfl
      · exact hJ i h8
      · exact h
    refine iff_not (iff_intro (fun h => iff_dec (fun h0 => ?_) (fun h0 => hK (next ?_))) (fun h => ⟨trivial, bad (namesOk_not (k := k) (by omega) ?_)⟩))
    · have h : nameOk (l[k]).name true = true := h
      have hk1 : k - 1 < l.length := by omega
      have hp := rkNames_getD l (k - 1) hk1
      rw [wrap_in _ (by omega) (by omega)]
      have e1 : ((k : Int) - 1).toNat = k - 1 := by omega
      rw [e1]
      simp only [encRks_getD _ (k - 1) hk1, List.drop_zero, List.headD_cons, List.tail_cons]
      have hk0 : ¬ k = 0 := by omega
      refine ⟨sD (l[k]).name, (path_Check_1_ok _).here rfl, by omega, by omega, path_Check_1_ok _ _ ⟨rfl, rfl, ?_⟩⟩
      show iff (Op.bytesLess (l[k]).name.toList (l[k-1]).name.toList || (l[k]).name.toList == (l[k-1]).name.toList) _ _
      rw [less_cmp, ba_beq]
      have e : (decide (cmpN (l[k]).name (l[k-1]).name = -1) || decide ((l[k]).name = (l[k-1]).name)) = !decide (cmpN (l[k-1]).name (l[k]).name = -1) := by
        rw [Bool.eq_iff_iff]
        simp only [Bool.or_eq_true, decide_eq_true_iff, Bool.not_eq_true', decide_eq_false_iff_not, ← cmpN_zero]
        have := cmpN_flip (l[k-1]).name (l[k]).name
        rcases cmpN_cases (l[k-1]).name (l[k]).name with h | h | h <;> omega
      rw [e]
      refine iff_not (iff_dec (fun h2 => hK (next ?_)) (fun h2 => ⟨trivial, bad (namesOk_not (k := k) (by omega) ?_)⟩))
      · unfold nameAt
        rw [hn, hp, h, Bool.true_and, decide_eq_false hk0, decide_eq_true h2]; rfl
      · unfold nameAt
        rw [hn, hp, h, Bool.true_and, decide_eq_false hk0, decide_eq_false h2]; rfl
    · have h : nameOk (l[k]).name true = true := h
      unfold nameAt
      rw [hn, h, decide_eq_true (show k = 0 by omega)]; rfl
    · have h : nameOk (l[k]).name true = false := h
      unfold nameAt
      rw [hn, h]; rfl
  · rw [namesOk_all (fun k hk => hJ k (by omega)), if_pos rfl] at hQ
    exact hQ

theorem slices_IndexFunc_Rank_ok (l : Rks) : Fn f_slices_IndexFunc_Rank [rksD l, .fn f_path_Check_2 []] (iD (idx rkBad l)) := fun Q hQ => by
  refine C_slices_IndexFunc_Rank_pathCheck2 _ _ fun hb => ?_
  have hl := encRks_length l
  rw [hl] at hb ⊢
  refine range_slices_IndexFunc_Rank_pathCheck2_0 Q _ _ hb (fun k => (l.take k).any rkBad = false) (fun k hk hJ K hK => ?_) (fun hJ => ⟨trivial, ?_⟩) 0 (Nat.zero_le _) rfl
  · simp only [encRks_getD _ k hk, List.drop_zero, List.headD_cons, List.tail_cons]
    refine ⟨by omega, by omega, path_Check_2_ok _ _ ⟨rfl, rfl, iff_intro (fun h => ⟨trivial, ?_⟩) (fun h => hK (any_take hk hJ h))⟩⟩
    rw [idx_at hk hJ h] at hQ
    exact hQ
  · rw [List.take_length] at hJ
    rw [idx_none hJ] at hQ
    exact hQ
theorem slices_ContainsFunc_Rank_ok (l : Rks) : Fn f_slices_ContainsFunc_Rank [rksD l, .fn f_path_Check_2 []] (bD (l.any rkBad)) := fun Q hQ => by
  refine C_slices_ContainsFunc_Rank_pathCheck2 _ _ ?_
  unfold vc_slices_ContainsFunc_Rank_pathCheck2
  refine slices_IndexFunc_Rank_ok l _ ⟨rfl, rfl, trivial, ?_⟩
  rw [← idx_any] at hQ
  exact hQ
theorem path_Check_ok (l : Rks) : Fn f_path_Check [rksD l] (iD (rkErr l)) := fun Q hQ => by
  refine C_path_Check _ _ ?_
  unfold vc_path_Check
  unfold rkErr at hQ
  refine path_Names_ok l _ ⟨rfl, rfl, iff_bne (fun h => ⟨trivial, ?_⟩) (fun h => ?_)⟩
  · have h : listedErr l ≠ 0 := h
    rw [if_pos h] at hQ; exact hQ
  · have h : listedErr l = 0 := h
    rw [if_neg (by simp [h])] at hQ
    refine slices_ContainsFunc_Rank_ok l _ ⟨rfl, rfl, iff_intro (fun h2 => ⟨trivial, ?_⟩) (fun h2 => ⟨trivial, ?_⟩)⟩
    · have h2 : l.any rkBad = true := h2
      rw [if_pos h2] at hQ; exact hQ
    · have h2 : l.any rkBad = false := h2
      rw [h2, if_neg (by simp)] at hQ; exact hQ

/-! Binary search -/
theorem bytealg_CompareString_ok (a b : ByteArray) : Fn f_bytealg_CompareString [sD a, sD b] (iD (cmpN a b)) := fun Q hQ => by
  refine C_bytealg_CompareString _ _ _ ?_
  exact ⟨trivial, hQ⟩
theorem strings_Compare_ok (a b : ByteArray) : Fn f_strings_Compare [sD a, sD b] (iD (cmpN a b)) := fun Q hQ => by
  refine C_strings_Compare _ _ _ ?_
  unfold vc_strings_Compare
  exact bytealg_CompareString_ok a b _ ⟨rfl, rfl, trivial, hQ⟩
theorem path_Of_1_ok (x : Rk) (b : ByteArray) : Fn f_path_Of_1 [rkD x, sD b] (iD (cmpN x.name b)) := fun Q hQ => by
  refine C_path_Of_1 _ _ _ _ _ ?_
  unfold vc_path_Of_1
  exact strings_Compare_ok _ b _ ⟨rfl, rfl, trivial, hQ⟩

def Sorted (l : Rks) : Prop := ∀ i j (hi : i < l.length) (hj : j < l.length), i < j → cmpN (l[i]).name (l[j]).name = -1
theorem sorted_of {l : Rks} (h : namesOk true (rkNames l) = true) : Sorted l := by
  have hl2 : (rkNames l).length = l.length := by simp [rkNames]
  have step : ∀ j (hj : j + 1 < l.length), cmpN (l[j]'(by omega)).name (l[j+1]).name = -1 := fun j hj => by
    have := namesOk_at h (k := j + 1) (by omega)
    unfold nameAt at this
    simp only [Bool.and_eq_true, Bool.or_eq_true, decide_eq_true_iff] at this
    rcases this.2 with h | h
    · omega
    · rw [show j + 1 - 1 = j by omega, rkNames_getD l j (by omega), rkNames_getD l (j + 1) hj] at h
      exact h
  intro i j hi hj hij
  induction j with
  | zero => omega
  | succ j ih =>
    rcases Nat.lt_succ_iff_lt_or_eq.1 hij with h8 | rfl
    · exact cmpN_trans (ih (by omega) h8) (step j hj)
    · exact step i hj
theorem listed_zero {l : Rks} (h : listedErr l = 0) : l.length ≤ 256 ∧ namesOk true (rkNames l) = true := by
  unfold listedErr at h
  split at h
  · cases h
  · split at h
    · exact ⟨by omega, by assumption⟩
    · cases h
theorem rkErr_zero {l : Rks} (h : rkErr l = 0) : listedErr l = 0 ∧ l.any rkBad = false := by
  unfold rkErr at h
  split at h
  · exact absurd h (by assumption)
  · rename_i h1
    split at h
    · cases h
    · rename_i h2
      exact ⟨by omega, by simpa using h2⟩

theorem mid_eq (lo hi : Nat) (h : lo + hi ≤ 1000) : IntKind.i64.wrap ((IntKind.u64.wrap (IntKind.i64.wrap ((lo : Int) + (hi : Int)))).fdiv (2 ^ (min ((1 : Int)).toNat IntKind.u64.bits))) = (((lo + hi) / 2 : Nat) : Int) := by
  rw [wrap_in ((lo : Int) + (hi : Int)) (by omega) (by omega), wrap_u64 _ (by omega) (by omega)]
  have e : (2 : Int) ^ (min ((1 : Int)).toNat IntKind.u64.bits) = 2 := rfl
  rw [e, Int.fdiv_eq_ediv_of_nonneg _ (by omega), wrap_in _ (by omega) (by omega)]
  omega

/-- What a search finds. -/
def ofR (l : Rks) (x : ByteArray) : Rk := (l.find? fun y => decide (y.name = x)).getD ⟨bz, 0, 0⟩
theorem ofR_rank (l : Rks) (x : ByteArray) : (ofR l x).rank = rankOf l x := by
  unfold ofR rankOf entry
  cases l.find? fun y => decide (y.name = x) <;> rfl
theorem find_at {l : Rks} {x : ByteArray} {k : Nat} (hs : Sorted l) (hk : k < l.length) (h : (l[k]).name = x) : l.find? (fun y => decide (y.name = x)) = some l[k] := by
  rw [List.find?_eq_some_iff_append]
  refine ⟨decide_eq_true h, l.take k, l.drop (k + 1), ?_, fun y hy => ?_⟩
  · rw [← List.drop_eq_getElem_cons hk, List.take_append_drop]
  · obtain ⟨i, hi, rfl⟩ := List.mem_take_iff_getElem.1 hy
    have := hs i k (by omega) hk (by omega)
    simp only [Bool.not_eq_true', decide_eq_false_iff_not]
    intro he
    rw [he, ← h, cmpN_self] at this
    cases this
theorem slices_BinarySearchFunc_ok (l : Rks) (x : ByteArray) (hs : Sorted l) (hn : l.length ≤ 256) (Q : D → Heap → Prop)
    (hQ : ∀ (i : Nat) (b : Bool), (b = true → ∃ h : i < l.length, (l[i]).name = x) → (b = false → ∀ y ∈ l, y.name ≠ x) → Q (.tup [iD i, bD b]) []) :
    cl f_slices_BinarySearchFunc_Rank_string [rksD l, sD x, .fn f_path_Of_1 []] [] Q := by
  refine C_slices_BinarySearchFunc_Rank_string_pathOf1 _ _ _ fun hb => ?_
  have hl := encRks_length l
  rw [hl] at hb ⊢
  refine rule_slices_BinarySearchFunc_Rank_string_pathOf1_0 Q (fun x0 x1 x8 x9 x10 => x0 = encRks l ∧ x1 = x ∧ x8 = (l.length : Int) ∧ ∃ lo hi : Nat, x9 = lo ∧ x10 = hi ∧ lo ≤ hi ∧ hi ≤ l.length ∧ (∀ k (h : k < l.length), k < lo → cmpN (l[k]).name x = -1) ∧ (∀ k (h : k < l.length), hi ≤ k → cmpN (l[k]).name x ≠ -1)) (fun x0 x1 x8 x9 x10 => (x10 - x9).toNat) (fun x0 x1 x8 x9 x10 hI m0 hK => ?_) _ _ _ _ _ ⟨rfl, rfl, rfl, 0, l.length, rfl, rfl, Nat.zero_le _, Nat.le_refl _, fun k _ h => by omega, fun k h h' => by omega⟩
  obtain ⟨rfl, rfl, rfl, lo, hi, rfl, rfl, h1, h2, h3, h4⟩ := hI
  unfold st_slices_BinarySearchFunc_Rank_string_pathOf1_0
  rw [mid_eq lo hi (by omega)]
  refine iff_dec (fun h => ?_) (fun h => ?_)
  · have hm : (lo + hi) / 2 < l.length := by omega
    rw [Int.toNat_natCast]
    simp only [encRks_getD _ _ hm, List.drop_zero, List.headD_cons, List.tail_cons]
    refine ⟨by omega, by omega, by omega, path_Of_1_ok (l[(lo + hi) / 2]) x1 _ ⟨rfl, rfl, iff_dec (fun h5 => ?_) (fun h5 => ?_)⟩⟩
    · have h5 : cmpN (l[(lo + hi) / 2]).name x1 < 0 := h5
      rw [wrap_in _ (by omega) (by omega)]
      refine hK _ _ _ _ _ ⟨rfl, rfl, rfl, (lo + hi) / 2 + 1, hi, by omega, rfl, by omega, h2, fun k hk hlt => ?_, h4⟩ (by omega)
      have h6 : cmpN (l[(lo + hi) / 2]).name x1 = -1 := by rcases cmpN_cases (l[(lo + hi) / 2]).name x1 with h | h | h <;> omega
      rcases Nat.lt_succ_iff_lt_or_eq.1 hlt with h8 | rfl
      · exact cmpN_trans (hs k _ hk hm h8) h6
      · exact h6
    · have h5 : ¬ cmpN (l[(lo + hi) / 2]).name x1 < 0 := h5
      refine hK _ _ _ _ _ ⟨rfl, rfl, rfl, lo, (lo + hi) / 2, rfl, rfl, by omega, by omega, h3, fun k hk hle he => ?_⟩ (by omega)
      rcases Nat.lt_or_eq_of_le hle with h8 | rfl
      · have := cmpN_trans (hs _ k hm hk h8) he
        omega
      · omega
  · have e : lo = hi := by omega
    subst e
    refine iff_dec (fun h5 => ?_) (fun h5 => ⟨⟨trivial, trivial, trivial⟩, hQ _ _ (fun h => by cases h) fun _ y hy he => ?_⟩)
    · have hlo : lo < l.length := by omega
      rw [Int.toNat_natCast]
      simp only [encRks_getD _ _ hlo, List.drop_zero, List.headD_cons, List.tail_cons]
      refine ⟨by omega, by omega, path_Of_1_ok (l[lo]) x1 _ ⟨rfl, rfl, ⟨trivial, trivial, trivial⟩, hQ lo (cmpN (l[lo]).name x1 == 0) (fun h6 => ⟨hlo, ?_⟩) (fun h6 y hy he => ?_)⟩⟩
      · rw [beq_iff_eq] at h6; exact cmpN_zero.1 h6
      · obtain ⟨k, hk, rfl⟩ := List.mem_iff_getElem.1 hy
        have hz := cmpN_zero.2 he
        rcases Nat.lt_trichotomy k lo with h7 | rfl | h7
        · have := h3 k hk h7; omega
        · rw [hz] at h6; cases h6
        · have h8 := h4 lo hlo (Nat.le_refl _)
          have h9 := hs lo k hlo hk h7
          rw [he] at h9
          exact h8 h9
    · obtain ⟨k, hk, rfl⟩ := List.mem_iff_getElem.1 hy
      have hz := cmpN_zero.2 he
      have := h3 k hk (by omega)
      omega

theorem path_Of_ok (l : Rks) (x : ByteArray) (hs : Sorted l) (hn : l.length ≤ 256) : Fn f_path_Of [rksD l, sD x] (rkD (ofR l x)) := fun Q hQ => by
  refine C_path_Of _ _ _ ?_
  unfold vc_path_Of
  have hl := encRks_length l
  refine slices_BinarySearchFunc_ok l x hs hn _ fun i b ht hf => ⟨rfl, rfl, ?_⟩
  refine iff_not (iff_intro (fun h => ?_) (fun h => ⟨⟨trivial, trivial, trivial, trivial⟩, ?_⟩))
  · have h : b = true := h
    obtain ⟨hi, hx⟩ := ht h
    show 0 ≤ (i : Int) ∧ (i : Int) < _ ∧ _
    refine ⟨by omega, by omega, ⟨trivial, trivial, trivial, trivial⟩, ?_⟩
    unfold ofR at hQ
    rw [find_at hs hi hx] at hQ
    have : (encRks l).getD ((i : Int)).toNat [] = [.s (l[i]).name, .i (l[i]).rank, .i (l[i]).weight] := by
      rw [Int.toNat_natCast]; exact encRks_getD l i hi
    show Q (.agg [.v .str (((((encRks l).getD ((i : Int)).toNat []).drop 0).headD V.none)), .v (.int .i64) (((((encRks l).getD ((i : Int)).toNat []).drop 0).tail).headD V.none), .v (.int .i64) ((((((encRks l).getD ((i : Int)).toNat []).drop 0).tail).tail).headD V.none)]) []
    rw [this]
    exact hQ
  · have h : b = false := h
    have hno := hf h
    unfold ofR at hQ
    have e : l.find? (fun y => decide (y.name = x)) = none := by
      rw [List.find?_eq_none]
      intro y hy
      simpa using hno y hy
    rw [e] at hQ
    exact hQ
theorem path_Rank_ok (l : Rks) (x : ByteArray) : Fn f_path_Rank [rksD l, sD x] (.tup [iD (if rkErr l = 0 then rankOf l x else 0), iD (rkErr l)]) := fun Q hQ => by
  refine C_path_Rank _ _ _ ?_
  unfold vc_path_Rank
  refine path_Check_ok l _ ⟨rfl, rfl, iff_bne (fun h => ⟨⟨trivial, trivial, trivial⟩, ?_⟩) (fun h => ?_)⟩
  · have h : rkErr l ≠ 0 := h
    rw [if_neg h] at hQ
    exact hQ
  · have h : rkErr l = 0 := h
    rw [if_pos h, h] at hQ
    obtain ⟨h1, h2⟩ := listed_zero (rkErr_zero h).1
    refine path_Of_ok l x (sorted_of h2) h1 _ ⟨rfl, rfl, ⟨trivial, trivial, trivial⟩, ?_⟩
    rw [← ofR_rank] at hQ
    exact hQ
end Go.Proofs.Ytehchnjnbbnkbaa
