import Derived.Test.YtgohjdaepcmonaaKitA
import Derived.Test.YtgohjdaepcmonaaV
set_option linter.unusedVariables false
set_option linter.unusedSimpArgs false
namespace Go.Proofs.Ytgohjdaepcmonaa
open Go.Abs
theorem r01_letter_ok (c : Int) : Fn f_r01_letter [uD c] (bD (letterB c)) := by
  intro Q hQ
  refine C_r01_letter _ _ ?_
  have key : ∀ b, b = letterB c → True ∧ Q (bD b) [] := by rintro _ rfl; exact ⟨trivial, hQ⟩
  unfold vc_r01_letter
  repeat' (first | (refine iff_dec (fun _ => ?_) (fun _ => ?_)) | (refine iff_beq (fun _ => ?_) (fun _ => ?_)))
  all_goals
    refine key _ ?_
    unfold letterB
    rw [Bool.eq_iff_iff]
    simp only [decide_eq_true_iff, beq_iff_eq, true_iff]
    omega
theorem r01_CompareInts_ok (a b : Int) : Fn f_r01_CompareInts [iD a, iD b] (iD (if a < b then -1 else if b < a then 1 else 0)) := by
  intro Q hQ
  refine C_r01_CompareInts _ _ _ ?_
  unfold vc_r01_CompareInts
  refine iff_dec (fun h => ?_) (fun h => iff_dec (fun h2 => ?_) (fun h2 => ?_))
  · rw [if_pos h] at hQ; exact ⟨trivial, hQ⟩
  · rw [if_neg h, if_pos h2] at hQ; exact ⟨trivial, hQ⟩
  · rw [if_neg h, if_neg h2] at hQ; exact ⟨trivial, hQ⟩
theorem r01_Letters_ok (s : ByteArray) : Fn f_r01_Letters [sD s] (bD (lettersL s.data.toList)) := by
  intro Q hQ
  refine C_r01_Letters _ _ fun hb => ?_
  have hl := ba_size s
  refine range_r01_Letters_0 Q s s.size hb (fun k => lettersL (s.data.toList.take k) = true) (fun k hk hJ K hK => ?_) (fun hJ => ?_) 0 (Nat.zero_le _) rfl
  · refine ⟨by omega, by omega, r01_letter_ok _ _ ⟨rfl, rfl, ?_⟩⟩
    have hk' : k < s.data.toList.length := by omega
    have e : s.data.toList.getD k 0 = s.data.toList[k] := by rw [List.getD_eq_getElem?_getD, List.getElem?_eq_getElem hk']; rfl
    rw [e]
    refine iff_not (iff_intro (fun h => hK ?_) (fun h => ⟨trivial, ?_⟩))
    · rw [List.take_succ_eq_append_getElem hk']
      have h' : letterB (s.data.toList[k].toNat : Int) = true := h
      simp only [lettersL, List.all_append, Bool.and_eq_true] at hJ ⊢
      exact ⟨hJ, by rw [List.all_cons, List.all_nil, h']; rfl⟩
    · have : lettersL s.data.toList = false := by
        rw [← Bool.not_eq_true]
        intro ha
        have := List.all_eq_true.1 ha _ (List.getElem_mem hk')
        have h' : letterB (s.data.toList[k].toNat : Int) = false := h
        rw [h'] at this; cases this
      rw [this] at hQ; exact hQ
  · rw [List.take_of_length_le (by omega)] at hJ
    rw [hJ] at hQ
    exact ⟨trivial, hQ⟩
theorem r01_Marked_ok (s : ByteArray) : Fn f_r01_Marked [sD s] (bD (markedL s.data.toList)) := by
  intro Q hQ
  refine C_r01_Marked _ _ ?_
  unfold vc_r01_Marked
  have hl := ba_size s
  rw [ba_beq]
  refine iff_not (iff_dec (fun h => ?_) (fun h hb => ?_))
  · subst h
    exact ⟨trivial, hQ⟩
  · rw [ba_nil] at h
    rw [wrap_in _ (by omega) (by rw [big_eq] at hb; omega)]
    have e1 : ((s.size : Int) - 1).toNat = s.data.toList.length - 1 := by omega
    refine ⟨by omega, by omega, trivial, ?_⟩
    have : (((s.data.toList.getD ((s.size : Int) - 1).toNat 0).toNat : Int) == 35) = markedL s.data.toList := by
      rw [e1]
      unfold markedL
      rw [List.getLast?_eq_getElem?, Bool.eq_iff_iff, decide_eq_true_iff, beq_iff_eq, List.getD_eq_getElem?_getD]
      have hk : s.data.toList.length - 1 < s.data.toList.length := by omega
      rw [List.getElem?_eq_getElem hk]
      simp only [Option.getD_some, Option.some.injEq]
      constructor
      · intro h2
        apply UInt8.toNat_inj.1
        show _ = 35
        omega
      · rintro h2; rw [h2]; rfl
    rw [this]
    exact hQ
theorem r01_IsName_ok (s : ByteArray) (m : Bool) : Fn f_r01_IsName [sD s, bD m] (bD (nameOk s m)) := by
  intro Q hQ
  refine C_r01_IsName _ _ _ fun hb => ?_
  rw [big_eq] at hb
  have hl := ba_size s
  have last : ∀ x : ByteArray, nameOk s m = (decide (0 < x.size) && lettersL x.data.toList) → jp_r01_IsName_1 Q x := fun x hx => by
    rw [jp_r01_IsName_1_s]
    unfold je_r01_IsName_1
    rw [ba_beq]
    refine iff_not (iff_dec (fun h => ⟨trivial, ?_⟩) (fun h => r01_Letters_ok x _ ⟨rfl, rfl, trivial, ?_⟩))
    · rw [ba_nil] at h
      rw [hx] at hQ
      simpa [h] using hQ
    · rw [ba_nil] at h
      rw [hx] at hQ
      have h0 : 0 < x.size := by omega
      simp only [h0, decide_true, Bool.true_and] at hQ
      exact hQ
  have mid : ∀ b : Bool, b = (m && markedL s.data.toList) → s.size ≤ 24 → jp_r01_IsName_0 Q s (.b b) := fun b hbm hs => by
    rw [jp_r01_IsName_0_s]
    unfold je_r01_IsName_0
    refine iff_intro (fun h _ => ?_) (fun h => last s ?_)
    · have hbt : b = true := h
      rw [hbt] at hbm
      have hmk : markedL s.data.toList = true := by
        cases hmm : markedL s.data.toList with
        | true => rfl
        | false => rw [hmm] at hbm; simp at hbm
      have hne : s.data.toList ≠ [] := by
        intro h0
        rw [h0] at hmk
        simp [markedL] at hmk
      have hpos : 0 < s.data.toList.length := List.length_pos_iff.2 hne
      rw [wrap_in _ (by omega) (by omega)]
      refine ⟨by omega, by omega, by omega, last _ ?_⟩
      have hx := extract_list s (0 : Int).toNat ((s.size : Int) - 1).toNat
      have hxs : (s.extract (0 : Int).toNat ((s.size : Int) - 1).toNat).size = s.size - 1 := by
        rw [← ba_size, hx]; simp
      have e1 : ((s.size : Int) - 1).toNat = s.data.toList.length - 1 := by omega
      rw [hx, hxs, e1]
      unfold nameOk
      rw [← hbm]
      have h1 : decide (1 < s.size) = decide (0 < s.size - 1) := by
        rw [Bool.eq_iff_iff]; simp only [decide_eq_true_iff]; omega
      simp [hs, h1, List.dropLast_eq_take]
    · have hbf : b = false := h
      unfold nameOk
      rw [← hbm, hbf]
      simp [hs]
  refine iff_dec (fun h => ⟨trivial, ?_⟩) (fun h => iff_intro (fun hm => r01_Marked_ok s _ ⟨rfl, rfl, mid _ ?_ (by omega)⟩) (fun hm => mid _ ?_ (by omega)))
  · have : nameOk s m = false := by unfold nameOk; simp; intro h2; omega
    rw [this] at hQ; exact hQ
  · rw [hm]; rfl
  · rw [hm]; rfl
end Go.Proofs.Ytgohjdaepcmonaa
