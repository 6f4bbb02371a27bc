import Derived.Test.YtgohjdaepcmonaaR01A
import Derived.Test.YtgohjdaepcmonaaKitB
set_option linter.unusedVariables false
set_option linter.unusedSimpArgs false
namespace Go.Proofs.Ytgohjdaepcmonaa
open Go.Abs
def small : Nat := 1152921504606846976
theorem small_eq : small = 1152921504606846976 := rfl
theorem r01_Formed_ok : ∀ t : Tm, Fn f_r01_Formed [tD t] (bD t.formed) := Tm.ind fun t ih Q hQ => by
  refine C_r01_Formed _ _ _ _ ?_
  unfold vc_r01_Formed
  have hl := Tm.encL_length t.args
  have hf := Tm.formed_eq t
  have key : ∀ b, b = t.formed → True ∧ Q (bD b) [] := by rintro _ rfl; exact ⟨trivial, hQ⟩
  refine iff_intro (fun hv => ?_) (fun hv => ?_)
  · rw [hv, if_pos rfl] at hf
    refine r01_IsName_ok _ _ _ ⟨rfl, rfl, iff_intro (fun h _ => key _ ?_) (fun h => key _ ?_)⟩
    · have h' : nameOk t.name false = true := h
      rw [hf, h', hl, Bool.true_and, Bool.eq_iff_iff, beq_iff_eq, List.isEmpty_iff]
      constructor
      · intro h0; exact List.eq_nil_of_length_eq_zero (by omega)
      · intro h0; rw [h0]; rfl
    · have h' : nameOk t.name false = false := h
      rw [hf, h']; rfl
  · rw [hv, if_neg (by simp)] at hf
    refine r01_IsName_ok _ _ _ ⟨rfl, rfl, iff_not (iff_intro (fun h hb => ?_) (fun h => key _ ?_))⟩
    · have h' : nameOk t.name true = true := h
      rw [h', Bool.true_and] at hf
      rw [hl] at hb ⊢
      refine iff_dec (fun h8 => key _ ?_) (fun h8 => ?_)
      · rw [hf, decide_eq_false (by omega)]; rfl
      · rw [decide_eq_true (by omega), Bool.true_and] at hf
        rw [jp_r01_Formed_0_s]
        intro hb2
        rw [hl]
        refine range_r01_Formed_0 Q _ _ hb (fun k => (t.args.take k).all Tm.formed = true) (fun k hk hJ K hK => ?_) (fun hJ => ?_) 0 (Nat.zero_le _) rfl
        · simp only [Tm.encL_getD _ k hk, Tm.enc_eq, List.drop_zero, List.headD_cons, List.tail_cons]
          refine ⟨by omega, by omega, ih _ (List.getElem_mem hk) _ ⟨rfl, rfl, iff_not (iff_intro (fun h => hK ?_) (fun h => key _ ?_))⟩⟩
          · have h2 : (t.args[k]).formed = true := h
            rw [List.take_succ_eq_append_getElem hk, List.all_append, hJ, List.all_cons, List.all_nil, h2]; rfl
          · have h2 : (t.args[k]).formed = false := h
            rw [hf]
            symm
            rw [← Bool.not_eq_true]
            intro ha
            have := List.all_eq_true.1 ha _ (List.getElem_mem hk)
            rw [h2] at this; cases this
        · rw [List.take_length] at hJ
          exact key _ (by rw [hf, hJ])
    · have h' : nameOk t.name true = false := h
      rw [hf, h']; rfl
theorem r01_Size_ok : ∀ t : Tm, t.size ≤ small → Fn f_r01_Size [tD t] (iD t.size) := Tm.ind fun t ih hB Q hQ => by
  refine C_r01_Size _ _ _ _ fun hb => ?_
  have hl := Tm.encL_length t.args
  have hs := Tm.size_eq t
  rw [small_eq] at hB
  rw [hl] at hb ⊢
  refine range_r01_Size_0 Q _ _ hb (fun k n => n = ((1 + Tm.sizeL (t.args.take k) : Nat) : Int)) (fun k n hk hJ K hK => ?_) (fun n hJ => ?_) 0 1 (Nat.zero_le _) rfl
  · simp only [Tm.encL_getD _ k hk, Tm.enc_eq, List.drop_zero, List.headD_cons, List.tail_cons]
    have hm := Tm.size_mem (List.getElem_mem hk)
    refine ⟨by omega, by omega, ih _ (List.getElem_mem hk) (by rw [small_eq]; omega) _ ⟨rfl, rfl, hK _ ?_⟩⟩
    have h1 := Tm.sizeL_take t.args k hk
    have h2 := Tm.sizeL_take_le t.args (k + 1)
    subst hJ
    show IntKind.i64.wrap (_ + ((t.args[k]).size : Int)) = _
    rw [wrap_in _ (by omega) (by omega)]
    omega
  · rw [List.take_length] at hJ
    subst hJ
    rw [hs] at hQ
    exact ⟨trivial, hQ⟩
theorem r01_Depth_ok : ∀ t : Tm, t.size ≤ small → Fn f_r01_Depth [tD t] (iD t.depth) := Tm.ind fun t ih hB Q hQ => by
  refine C_r01_Depth _ _ _ _ fun hb => ?_
  have hl := Tm.encL_length t.args
  have hd := Tm.depth_eq t
  have hds := Tm.depth_le_size t
  rw [small_eq] at hB
  rw [hl] at hb ⊢
  refine range_r01_Depth_0 Q _ _ hb (fun k n => n = (Tm.depthL (t.args.take k) : Int)) (fun k n hk hJ K hK => ?_) (fun n hJ => ?_) 0 0 (Nat.zero_le _) rfl
  · simp only [Tm.encL_getD _ k hk, Tm.enc_eq, List.drop_zero, List.headD_cons, List.tail_cons]
    have hm := Tm.size_mem (List.getElem_mem hk)
    refine ⟨by omega, by omega, ih _ (List.getElem_mem hk) (by rw [small_eq]; omega) _ ⟨rfl, rfl, hK _ ?_⟩⟩
    subst hJ
    show (if ((t.args[k]).depth : Int) > _ then ((t.args[k]).depth : Int) else _) = _
    rw [Tm.depthL_take t.args k hk]
    split <;> omega
  · rw [List.take_length] at hJ
    subst hJ
    rw [wrap_in _ (by omega) (by omega)]
    rw [hd] at hQ
    exact ⟨trivial, hQ⟩
theorem r01_Check_ok (t : Tm) (hB : t.size ≤ small) : Fn f_r01_Check [tD t] (iD t.check) := fun Q hQ => by
  refine C_r01_Check _ _ _ _ ?_
  unfold vc_r01_Check
  unfold Tm.check at hQ
  refine r01_Formed_ok t _ ⟨rfl, rfl, iff_not (iff_intro (fun h => ?_) (fun h => ?_))⟩
  · have h' : t.formed = true := h
    rw [h', if_pos rfl] at hQ
    refine r01_Size_ok t hB _ ⟨rfl, rfl, iff_dec (fun h2 => ⟨trivial, ?_⟩) (fun h2 => r01_Depth_ok t hB _ ⟨rfl, rfl, iff_dec (fun h3 => ⟨trivial, ?_⟩) (fun h3 => ⟨trivial, ?_⟩)⟩)⟩
    · have h2 : (t.size : Int) > 4000 := h2
      rw [if_neg (by omega)] at hQ; exact hQ
    · have h3 : (t.depth : Int) > 200 := h3
      rw [if_neg (by omega)] at hQ; exact hQ
    · have h2 : ¬ (t.size : Int) > 4000 := h2
      have h3 : ¬ (t.depth : Int) > 200 := h3
      rw [if_pos (by omega)] at hQ; exact hQ
  · have h' : t.formed = false := h
    rw [h', if_neg (by simp)] at hQ
    exact ⟨trivial, hQ⟩
theorem checkAll_take {l : List Tm} {k : Nat} (h : Tm.checkAll (l.take k) = 0) (hk : k < l.length) (hn : (l[k]).check ≠ 0) : Tm.checkAll l = (l[k]).check := by
  induction l generalizing k with
  | nil => simp at hk
  | cons t r ih =>
    cases k with
    | zero => simp only [List.getElem_cons_zero] at hn ⊢; simp only [Tm.checkAll]; rw [if_neg hn]
    | succ k =>
      simp only [List.take_succ_cons, Tm.checkAll] at h
      have h0 : t.check = 0 := by
        by_cases h0 : t.check = 0
        · exact h0
        · rw [if_neg h0] at h; exact h
      rw [if_pos h0] at h
      simp only [List.getElem_cons_succ] at hn ⊢
      simp only [Tm.checkAll]
      rw [if_pos h0]
      exact ih h (by simpa using hk) hn
theorem r01_CheckAll_ok (l : List Tm) (hB : ∀ t ∈ l, t.size ≤ small) : Fn f_r01_CheckAll [tsD l] (iD (Tm.checkAll l)) := fun Q hQ => by
  refine C_r01_CheckAll _ _ fun hb => ?_
  have hl := Tm.encL_length l
  rw [hl] at hb ⊢
  refine range_r01_CheckAll_0 Q _ _ hb (fun k => Tm.checkAll (l.take k) = 0) (fun k hk hJ K hK => ?_) (fun hJ => ?_) 0 (Nat.zero_le _) rfl
  · simp only [Tm.encL_getD _ k hk, Tm.enc_eq, List.drop_zero, List.headD_cons, List.tail_cons]
    refine ⟨by omega, by omega, r01_Check_ok _ (hB _ (List.getElem_mem hk)) _ ⟨rfl, rfl, iff_bne (fun h => ⟨trivial, ?_⟩) (fun h => hK ?_)⟩⟩
    · have h' : (l[k]).check ≠ 0 := h
      rw [checkAll_take hJ hk h'] at hQ
      exact hQ
    · have h' : (l[k]).check = 0 := h
      rw [Tm.checkAll_zero] at hJ ⊢
      rw [List.take_succ_eq_append_getElem hk]
      intro t ht
      rcases List.mem_append.1 ht with ht | ht
      · exact hJ t ht
      · rw [List.mem_singleton.1 ht]; exact h'
  · rw [List.take_length] at hJ
    rw [hJ] at hQ
    exact ⟨trivial, hQ⟩
theorem cmp_take : ∀ (l m : List UInt8) (k : Nat), k ≤ l.length → k ≤ m.length → l.take k = m.take k → Lib.compareBytes l m = Lib.compareBytes (l.drop k) (m.drop k)
  | l, m, 0, _, _, _ => by simp
  | a :: l, b :: m, k + 1, h1, h2, h => by
    simp only [List.take_succ_cons, List.cons.injEq] at h
    obtain ⟨rfl, h⟩ := h
    have h0 : ¬ a < a := by rw [u8_lt]; omega
    simp only [Lib.compareBytes, if_neg h0, List.drop_succ_cons]
    exact cmp_take l m k (by simpa using h1) (by simpa using h2) h
  | [], _, k + 1, h, _, _ => by simp at h
  | _ :: _, [], k + 1, _, h, _ => by simp at h
theorem r01_CompareNames_ok (a b : ByteArray) : Fn f_r01_CompareNames [sD a, sD b] (iD (cmpN a b)) := fun Q hQ => by
  refine C_r01_CompareNames _ _ _ fun ha hb => ?_
  rw [big_eq] at ha hb
  have hla := ba_size a
  have hlb := ba_size b
  have e0 : (if ((b.size : Int)) < ((a.size : Int)) then ((b.size : Int)) else ((a.size : Int))) = ((min a.size b.size : Nat) : Int) := by split <;> omega
  rw [e0]
  unfold cmpN at hQ
  generalize hx : a.data.toList = x at *
  generalize hy : b.data.toList = y at *
  refine range_r01_CompareNames_0 Q a b _ (by rw [big_eq]; omega) (fun k => x.take k = y.take k) (fun k hk hJ K hK => ?_) (fun hJ => ?_) 0 (Nat.zero_le _) rfl
  · have hkx : k < x.length := by omega
    have hky : k < y.length := by omega
    have ex : x.getD k 0 = x[k] := by rw [List.getD_eq_getElem?_getD, List.getElem?_eq_getElem hkx]; rfl
    have ey : y.getD k 0 = y[k] := by rw [List.getD_eq_getElem?_getD, List.getElem?_eq_getElem hky]; rfl
    rw [hx, hy, ex, ey]
    have bx := (x[k]).toNat_lt
    have by_ := (y[k]).toNat_lt
    refine ⟨by omega, by omega, by omega, by omega, iff_bne (fun h => ⟨by omega, by omega, by omega, by omega, r01_CompareInts_ok _ _ _ ⟨rfl, rfl, trivial, ?_⟩⟩) (fun h => hK ?_)⟩
    · rw [wrap_in _ (by omega) (by omega), wrap_in _ (by omega) (by omega)]
      have := cmp_take x y k (by omega) (by omega) hJ
      rw [List.drop_eq_getElem_cons hkx, List.drop_eq_getElem_cons hky] at this
      simp only [Lib.compareBytes, u8_lt] at this
      rw [this] at hQ
      by_cases h1 : (x[k]).toNat < (y[k]).toNat
      · rw [if_pos h1] at hQ; rw [if_pos (by omega)]; exact hQ
      · rw [if_neg h1, if_pos (by omega)] at hQ; rw [if_neg (by omega), if_pos (by omega)]; exact hQ
    · rw [List.take_succ_eq_append_getElem hkx, List.take_succ_eq_append_getElem hky, hJ]
      congr 1
      simp only [List.cons.injEq, and_true]
      apply UInt8.toNat_inj.1
      omega
  · intro _ _
    refine r01_CompareInts_ok _ _ _ ⟨rfl, rfl, trivial, ?_⟩
    have := cmp_take x y (min a.size b.size) (by omega) (by omega) hJ
    rw [this] at hQ
    by_cases h1 : a.size < b.size
    · rw [if_pos (by omega)]
      rw [List.drop_eq_nil_of_le (by omega), show min a.size b.size = a.size by omega, List.drop_eq_getElem_cons (show a.size < y.length by omega)] at hQ
      exact hQ
    · by_cases h2 : b.size < a.size
      · rw [if_neg (by omega), if_pos (by omega)]
        rw [show min a.size b.size = b.size by omega, List.drop_eq_nil_of_le (show y.length ≤ b.size by omega), List.drop_eq_getElem_cons (show b.size < x.length by omega)] at hQ
        exact hQ
      · rw [if_neg (by omega), if_neg (by omega)]
        rw [List.drop_eq_nil_of_le (by omega), List.drop_eq_nil_of_le (by omega)] at hQ
        exact hQ
theorem cmpL_take : ∀ (l m : List Tm) (k : Nat) (h1 : k < l.length) (h2 : k < m.length), (∀ i, (h : i < k) → Tm.cmp (l[i]'(by omega)) (m[i]'(by omega)) = 0) → Tm.cmpL l m = if Tm.cmp l[k] m[k] ≠ 0 then Tm.cmp l[k] m[k] else Tm.cmpL (l.drop (k + 1)) (m.drop (k + 1))
  | a :: l, b :: m, 0, _, _, _ => by simp [Tm.cmpL]
  | a :: l, b :: m, k + 1, h1, h2, h => by
    have h0 := h 0 (by omega)
    simp only [List.getElem_cons_zero] at h0
    simp only [Tm.cmpL]
    rw [if_neg (by simp [h0])]
    simp only [List.getElem_cons_succ, List.drop_succ_cons]
    exact cmpL_take l m k (by simpa using h1) (by simpa using h2) fun i hi => by
      have := h (i + 1) (by omega)
      simpa using this
  | [], _, _, h, _, _ => by simp at h
  | _ :: _, [], _, _, h, _ => by simp at h
theorem cmpL_all : ∀ (l m : List Tm), l.length = m.length → (∀ i (h : i < l.length) (h' : i < m.length), Tm.cmp l[i] m[i] = 0) → Tm.cmpL l m = 0
  | [], [], _, _ => by simp [Tm.cmpL]
  | a :: l, b :: m, hl, h => by
    have h0 := h 0 (by simp) (by simp)
    simp only [List.getElem_cons_zero] at h0
    simp only [Tm.cmpL]
    rw [if_neg (by simp [h0])]
    exact cmpL_all l m (by simpa using hl) fun i h1 h2 => by
      have := h (i + 1) (by simpa using h1) (by simpa using h2)
      simpa using this
  | [], _ :: _, h, _ => by simp at h
  | _ :: _, [], h, _ => by simp at h
theorem r01_Compare_ok : ∀ (a b : Tm), Fn f_r01_Compare [tD a, tD b] (iD (Tm.cmp a b)) := Tm.ind fun a ih b Q hQ => by
  refine C_r01_Compare _ _ _ _ _ _ _ ?_
  unfold vc_r01_Compare
  rw [Tm.cmp_eq] at hQ
  have hla := Tm.encL_length a.args
  have hlb := Tm.encL_length b.args
  refine iff_not (iff_beq (fun h => ?_) (fun h => ?_))
  · rw [if_neg (by simp [h])] at hQ
    refine r01_CompareNames_ok _ _ _ ⟨rfl, rfl, iff_bne (fun h2 => ⟨trivial, ?_⟩) (fun h2 ha hb => ?_)⟩
    · have h2 : cmpN a.name b.name ≠ 0 := h2
      rw [if_pos h2] at hQ; exact hQ
    · have h2 : cmpN a.name b.name = 0 := h2
      rw [if_neg (by simp [h2])] at hQ
      rw [hla, hlb]
      refine r01_CompareInts_ok _ _ _ ⟨rfl, rfl, iff_bne (fun h3 => ⟨trivial, ?_⟩) (fun h3 _ => ?_)⟩
      · have h3 : Tm.cmpI a.args.length b.args.length ≠ 0 := h3
        rw [if_pos h3] at hQ; exact hQ
      · have h3 : Tm.cmpI a.args.length b.args.length = 0 := h3
        rw [if_neg (by simp [h3])] at hQ
        have h4 := Tm.cmpI_zero.1 h3
        rw [hla] at ha
        refine range_r01_Compare_0 Q _ _ _ _ _ _ _ ha (fun k => ∀ i (hi : i < k) (h1 : i < a.args.length) (h2 : i < b.args.length), Tm.cmp (a.args[i]) (b.args[i]) = 0) (fun k hk hJ K hK => ?_) (fun hJ => ?_) 0 (Nat.zero_le _) (fun i hi => by omega)
        · have hk2 : k < b.args.length := by omega
          simp only [Tm.encL_getD _ k hk, Tm.encL_getD _ k hk2, Tm.enc_eq, List.drop_zero, List.headD_cons, List.tail_cons]
          refine ⟨by omega, by omega, by omega, by omega, ih _ (List.getElem_mem hk) _ _ ⟨rfl, rfl, iff_bne (fun h5 => ⟨trivial, ?_⟩) (fun h5 => hK ?_)⟩⟩
          · have h5 : Tm.cmp (a.args[k]) (b.args[k]) ≠ 0 := h5
            rw [cmpL_take _ _ k hk hk2 (fun i hi => hJ i hi _ _), if_pos h5] at hQ
            exact hQ
          · intro i hi h6 h7
            rcases Nat.lt_succ_iff_lt_or_eq.1 hi with h8 | rfl
            · exact hJ i h8 h6 h7
            · exact h5
        · rw [cmpL_all _ _ (by omega) (fun i h1 h2 => hJ i (by omega) h1 h2)] at hQ
          exact ⟨trivial, hQ⟩
  · rw [if_pos h] at hQ
    refine iff_intro (fun hv => ⟨trivial, ?_⟩) (fun hv => ⟨trivial, ?_⟩)
    · rw [hv, if_pos rfl] at hQ; exact hQ
    · rw [hv, if_neg (by simp)] at hQ; exact hQ
theorem r01_Equal_ok (a b : Tm) : Fn f_r01_Equal [tD a, tD b] (bD (Tm.eqB a b)) := fun Q hQ => by
  refine C_r01_Equal _ _ _ _ _ _ _ ?_
  unfold vc_r01_Equal
  refine r01_Compare_ok a b _ ⟨rfl, rfl, trivial, ?_⟩
  unfold Tm.eqB at hQ
  exact hQ
end Go.Proofs.Ytgohjdaepcmonaa
