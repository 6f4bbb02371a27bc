import Derived.Test.YtgohjdaepcmonaaR01D
set_option linter.unusedVariables false
set_option linter.unusedSimpArgs false
namespace Go.Proofs.Ytgohjdaepcmonaa
open Go.Abs
def idx {α : Type} (p : α → Bool) (l : List α) : Int := match l.findIdx? p with | some i => i | none => -1
theorem idx_at {α : Type} {p : α → Bool} {l : List α} {k : Nat} (hk : k < l.length) (h : (l.take k).any p = false) (hp : p l[k] = true) : idx p l = k := by
  have e : l.findIdx? p = some k := by
    rw [List.findIdx?_eq_some_iff_getElem]
    refine ⟨hk, hp, fun j hj => ?_⟩
    have := List.any_eq_false.1 h (l[j]'(by omega)) (List.mem_take_iff_getElem.2 ⟨j, by omega, rfl⟩)
    exact this
  unfold idx; rw [e]
theorem idx_none {α : Type} {p : α → Bool} {l : List α} (h : l.any p = false) : idx p l = -1 := by
  have e : l.findIdx? p = none := by
    rw [List.findIdx?_eq_none_iff]
    intro x hx
    have := List.any_eq_false.1 h x hx
    simpa using this
  unfold idx; rw [e]
theorem idx_any {α : Type} (p : α → Bool) (l : List α) : decide (idx p l ≥ 0) = l.any p := by
  cases h : l.any p with
  | false => rw [idx_none h]; rfl
  | true =>
    unfold idx
    cases e : l.findIdx? p with
    | some i => exact decide_eq_true (by show (i : Int) ≥ 0; omega)
    | none =>
      rw [List.findIdx?_eq_none_iff] at e
      obtain ⟨x, hx, hp⟩ := List.any_eq_true.1 h
      rw [e x hx] at hp; cases hp
theorem any_take {α : Type} {p : α → Bool} {l : List α} {k : Nat} (hk : k < l.length) (h : (l.take k).any p = false) (hp : p l[k] = false) : (l.take (k + 1)).any p = false := by
  rw [List.take_succ_eq_append_getElem hk, List.any_append, h, List.any_cons, List.any_nil, hp]; rfl
theorem term_inName_ok (c : Int) : Fn f_term_inName [uD c] (bD (letterB c)) := by
  intro Q hQ
  refine C_term_inName _ _ ?_
  have key : ∀ b, b = letterB c → True ∧ Q (bD b) [] := by rintro _ rfl; exact ⟨trivial, hQ⟩
  unfold vc_term_inName
  repeat' (first | (refine iff_dec (fun _ => ?_) (fun _ => ?_)) | (refine iff_beq (fun _ => ?_) (fun _ => ?_)) | fail)
  all_goals
    refine key _ ?_
    unfold letterB
    rw [Bool.eq_iff_iff]
    simp only [decide_eq_true_iff, beq_iff_eq, true_iff]
    omega
theorem term_IsName_1_ok (c : Int) : Fn f_term_IsName_1 [uD c] (bD (!letterB c)) := fun Q hQ => by
  refine C_term_IsName_1 _ _ ?_
  unfold vc_term_IsName_1
  exact term_inName_ok c _ ⟨rfl, rfl, trivial, hQ⟩
theorem stringslite_HasSuffix_ok (a b : ByteArray) : Fn f_stringslite_HasSuffix [sD a, sD b] (bD (decide (b.data.toList <:+ a.data.toList))) := fun Q hQ => by
  refine C_stringslite_HasSuffix _ _ _ fun ha hb => ?_
  rw [big_eq] at ha hb
  have hla := ba_size a
  have hlb := ba_size b
  refine iff_dec (fun h _ _ => ?_) (fun h => ⟨trivial, ?_⟩)
  · rw [wrap_in _ (by omega) (by omega)]
    refine ⟨by omega, by omega, by omega, trivial, ?_⟩
    rw [ba_beq]
    have e : (a.extract ((a.size : Int) - (b.size : Int)).toNat ((a.size : Int)).toNat = b) ↔ b.data.toList <:+ a.data.toList := by
      rw [List.suffix_iff_eq_drop, ← ba_eq_iff, extract_list, List.take_of_length_le (by omega)]
      have : ((a.size : Int) - (b.size : Int)).toNat = a.data.toList.length - b.data.toList.length := by omega
      rw [this]
      exact eq_comm
    rw [decide_eq_decide.2 e]
    exact hQ
  · have : ¬ b.data.toList <:+ a.data.toList := fun h2 => by have := h2.length_le; omega
    rw [decide_eq_false this] at hQ
    exact hQ
def trim (a b : ByteArray) : ByteArray := if b.data.toList <:+ a.data.toList then a.extract 0 (a.size - b.size) else a
theorem stringslite_TrimSuffix_ok (a b : ByteArray) : Fn f_stringslite_TrimSuffix [sD a, sD b] (sD (trim a b)) := fun Q hQ => by
  refine C_stringslite_TrimSuffix _ _ _ ?_
  unfold vc_stringslite_TrimSuffix
  unfold trim at hQ
  refine stringslite_HasSuffix_ok a b _ ⟨rfl, rfl, iff_dec (fun h ha hb => ?_) (fun h => ⟨trivial, ?_⟩)⟩
  · rw [if_pos h] at hQ
    rw [big_eq] at ha hb
    have hla := ba_size a
    have hlb := ba_size b
    have := h.length_le
    rw [wrap_in _ (by omega) (by omega)]
    refine ⟨by omega, by omega, by omega, trivial, ?_⟩
    have e : ((a.size : Int) - (b.size : Int)).toNat = a.size - b.size := by omega
    rw [e]; exact hQ
  · rw [if_neg h] at hQ; exact hQ
theorem strings_TrimSuffix_ok (a b : ByteArray) : Fn f_strings_TrimSuffix [sD a, sD b] (sD (trim a b)) := fun Q hQ => by
  refine C_strings_TrimSuffix _ _ _ ?_
  unfold vc_strings_TrimSuffix
  exact stringslite_TrimSuffix_ok a b _ ⟨rfl, rfl, trivial, hQ⟩
theorem bytesV_getD (s : ByteArray) (k : Nat) (h : k < s.data.toList.length) : (bytesV s).getD k [] = [.i ((s.data.toList[k]).toNat : Int)] := by
  rw [bytesV, List.getD_eq_getElem?_getD, List.getElem?_map, List.getElem?_eq_getElem h]; rfl
theorem slices_IndexFunc_byte_ok (s : ByteArray) : Fn f_slices_IndexFunc_byte [.v (.sl t_uint8) (.l (bytesV s)), .fn f_term_IsName_1 []] (iD (idx (fun c : UInt8 => !letterB (c.toNat : Int)) s.data.toList)) := fun Q hQ => by
  refine C_slices_IndexFunc_byte_termIsName1 _ _ fun hb => ?_
  have hl : (bytesV s).length = s.data.toList.length := by simp [bytesV]
  rw [hl] at hb ⊢
  refine range_slices_IndexFunc_byte_termIsName1_0 Q _ _ hb (fun k => (s.data.toList.take k).any (fun c : UInt8 => !letterB (c.toNat : Int)) = false) (fun k hk hJ K hK => ?_) (fun hJ => ⟨trivial, ?_⟩) 0 (Nat.zero_le _) rfl
  · simp only [bytesV_getD _ k hk, List.drop_zero, List.headD_cons]
    refine ⟨by omega, by omega, term_IsName_1_ok _ _ ⟨rfl, rfl, iff_intro (fun h => ⟨trivial, ?_⟩) (fun h => hK (any_take hk hJ h))⟩⟩
    rw [idx_at hk hJ h] at hQ
    exact hQ
  · rw [List.take_length] at hJ
    rw [idx_none hJ] at hQ
    exact hQ
theorem slices_ContainsFunc_byte_ok (s : ByteArray) : Fn f_slices_ContainsFunc_byte [.v (.sl t_uint8) (.l (bytesV s)), .fn f_term_IsName_1 []] (bD (s.data.toList.any fun c : UInt8 => !letterB (c.toNat : Int))) := fun Q hQ => by
  refine C_slices_ContainsFunc_byte_termIsName1 _ _ ?_
  unfold vc_slices_ContainsFunc_byte_termIsName1
  refine slices_IndexFunc_byte_ok s _ ⟨rfl, rfl, trivial, ?_⟩
  rw [← idx_any] at hQ
  exact hQ
theorem hash_suffix (l : List UInt8) : ([35] <:+ l) ↔ markedL l = true := by
  unfold markedL
  rw [decide_eq_true_iff]
  constructor
  · rintro ⟨m, rfl⟩; simp
  · intro h
    have hne : l ≠ [] := by rintro rfl; simp at h
    refine ⟨l.dropLast, ?_⟩
    rw [List.getLast?_eq_some_getLast hne] at h
    have := List.dropLast_concat_getLast hne
    rw [Option.some.inj h] at this
    exact this
theorem term_IsName_ok (s : ByteArray) (m : Bool) : Fn f_term_IsName [sD s, bD m] (bD (nameOk s m)) := fun Q hQ => by
  refine C_term_IsName _ _ _ fun hb => ?_
  have hl := ba_size s
  have fin : ∀ x : ByteArray, s.size ≤ 24 → nameOk s m = (decide (0 < x.size) && lettersL x.data.toList) → jp_term_IsName_0 Q (.s x) := fun x _ hx => by
    rw [jp_term_IsName_0_s]
    unfold je_term_IsName_0
    rw [hx] at hQ
    show iff (!(x.toList == (ByteArray.mk #[]).toList)) _ _
    rw [ba_beq]
    refine iff_not (iff_dec (fun h => ⟨trivial, ?_⟩) (fun h => ?_))
    · rw [ba_nil] at h
      rw [decide_eq_false (by omega)] at hQ
      exact hQ
    · rw [ba_nil] at h
      rw [decide_eq_true (by omega)] at hQ
      refine slices_ContainsFunc_byte_ok x _ ⟨rfl, rfl, trivial, ?_⟩
      have e : (!(x.data.toList.any fun c : UInt8 => !letterB (c.toNat : Int))) = (true && lettersL x.data.toList) := by
        unfold lettersL
        rw [List.all_eq_not_any_not]; rfl
      rw [← e] at hQ
      exact hQ
  refine iff_dec (fun h => ⟨trivial, ?_⟩) (fun h => iff_intro (fun hm => ?_) (fun hm => fin s (by omega) ?_))
  · have : nameOk s m = false := by unfold nameOk; rw [decide_eq_false (by omega)]; rfl
    rw [this] at hQ; exact hQ
  · refine strings_TrimSuffix_ok s _ _ ⟨rfl, rfl, fin _ (by omega) ?_⟩
    unfold nameOk trim
    have e35 : (ByteArray.mk #[35]).data.toList = [35] := rfl
    have es : (ByteArray.mk #[35]).size = 1 := rfl
    rw [decide_eq_true (show s.size ≤ 24 by omega), hm, Bool.true_and, Bool.true_and, e35, es]
    by_cases hk : markedL s.data.toList = true
    · rw [if_pos hk, if_pos ((hash_suffix _).2 hk)]
      have hx := extract_list s 0 (s.size - 1)
      have hxs : (s.extract 0 (s.size - 1)).size = s.size - 1 := by rw [← ba_size, hx]; simp
      rw [hx, hxs, List.drop_zero, List.dropLast_eq_take]
      have h1 : decide (1 < s.size) = decide (0 < s.size - 1) := by
        rw [Bool.eq_iff_iff]; simp only [decide_eq_true_iff]; omega
      rw [h1, hl]
    · rw [if_neg hk, if_neg (fun h => hk ((hash_suffix _).1 h))]
  · unfold nameOk
    rw [decide_eq_true (show s.size ≤ 24 by omega), hm]; rfl
theorem formed_any (l : List Tm) : (!(l.any fun a => !a.formed)) = l.all Tm.formed := by rw [List.all_eq_not_any_not]
theorem term_formed_1_ok (t : Tm) (ih : Fn f_term_formed [tD t] (bD t.formed)) : Fn f_term_formed_1 [tD t] (bD (!t.formed)) := fun Q hQ => by
  refine C_term_formed_1 _ _ _ _ ?_
  unfold vc_term_formed_1
  exact ih _ ⟨rfl, rfl, trivial, hQ⟩
theorem slices_IndexFunc_Term_ok (l : List Tm) (ih : ∀ a ∈ l, Fn f_term_formed [tD a] (bD a.formed)) : Fn f_slices_IndexFunc_Term [tsD l, .fn f_term_formed_1 []] (iD (idx (fun a : Tm => !a.formed) l)) := fun Q hQ => by
  refine C_slices_IndexFunc_Term_termformed1 _ _ fun hb => ?_
  have hl := Tm.encL_length l
  rw [hl] at hb ⊢
  refine range_slices_IndexFunc_Term_termformed1_0 Q _ _ hb (fun k => (l.take k).any (fun a : Tm => !a.formed) = false) (fun k hk hJ K hK => ?_) (fun hJ => ⟨trivial, ?_⟩) 0 (Nat.zero_le _) rfl
  · simp only [Tm.encL_getD _ k hk, Tm.enc_eq, List.drop_zero, List.headD_cons, List.tail_cons]
    refine ⟨by omega, by omega, term_formed_1_ok _ (ih _ (List.getElem_mem hk)) _ ⟨rfl, rfl, iff_intro (fun h => ⟨trivial, ?_⟩) (fun h => hK (any_take hk hJ h))⟩⟩
    rw [idx_at hk hJ h] at hQ
    exact hQ
  · rw [List.take_length] at hJ
    rw [idx_none hJ] at hQ
    exact hQ
theorem slices_ContainsFunc_Term_ok (l : List Tm) (ih : ∀ a ∈ l, Fn f_term_formed [tD a] (bD a.formed)) : Fn f_slices_ContainsFunc_Term [tsD l, .fn f_term_formed_1 []] (bD (l.any fun a : Tm => !a.formed)) := fun Q hQ => by
  refine C_slices_ContainsFunc_Term_termformed1 _ _ ?_
  unfold vc_slices_ContainsFunc_Term_termformed1
  refine slices_IndexFunc_Term_ok l ih _ ⟨rfl, rfl, trivial, ?_⟩
  rw [← idx_any] at hQ
  exact hQ
theorem term_formed_ok : ∀ t : Tm, Fn f_term_formed [tD t] (bD t.formed) := Tm.ind fun t ih Q hQ => by
  refine C_term_formed _ _ _ _ ?_
  unfold vc_term_formed
  have hl := Tm.encL_length t.args
  have hf := Tm.formed_eq t
  refine iff_intro (fun hv hb => ?_) (fun hv hb => ?_)
  · rw [hv, if_pos rfl] at hf
    rw [hl]
    refine iff_beq (fun h => term_IsName_ok _ _ _ ⟨rfl, rfl, trivial, ?_⟩) (fun h => ⟨trivial, ?_⟩)
    · have : t.args.isEmpty = true := by rw [List.isEmpty_iff]; exact List.eq_nil_of_length_eq_zero (by omega)
      rw [this, Bool.and_true] at hf
      rw [hf] at hQ; exact hQ
    · have : t.args.isEmpty = false := by
        cases he : t.args.isEmpty with
        | false => rfl
        | true => rw [List.isEmpty_iff] at he; rw [he] at h; simp at h
      rw [this, Bool.and_false] at hf
      rw [hf] at hQ; exact hQ
  · rw [hv, if_neg (by simp)] at hf
    rw [hl]
    refine iff_dec (fun h => term_IsName_ok _ _ _ ⟨rfl, rfl, iff_intro (fun h2 => ?_) (fun h2 => ⟨trivial, ?_⟩)⟩) (fun h => ⟨trivial, ?_⟩)
    · have h2 : nameOk t.name true = true := h2
      rw [h2, decide_eq_true (by omega), Bool.true_and, Bool.true_and, ← formed_any] at hf
      refine slices_ContainsFunc_Term_ok t.args ih _ ⟨rfl, rfl, trivial, ?_⟩
      rw [hf] at hQ
      exact hQ
    · have h2 : nameOk t.name true = false := h2
      rw [h2] at hf
      rw [hf] at hQ; exact hQ
    · rw [decide_eq_false (by omega), Bool.and_false] at hf
      rw [hf] at hQ; exact hQ
theorem term_Size_ok : ∀ t : Tm, t.size ≤ small → Fn f_term_Size [tD t] (iD t.size) := Tm.ind fun t ih hB Q hQ => by
  refine C_term_Size _ _ _ _ fun hb => ?_
  have hl := Tm.encL_length t.args
  have hs := Tm.size_eq t
  rw [small_eq] at hB
  rw [hl] at hb ⊢
  refine range_term_Size_0 Q _ _ hb (fun k n => n = ((1 + Tm.sizeL (t.args.take k) : Nat) : Int)) (fun k n hk hJ K hK => ?_) (fun n hJ => ?_) 0 1 (Nat.zero_le _) rfl
  · simp only [Tm.encL_getD _ k hk, Tm.enc_eq, List.drop_zero, List.headD_cons, List.tail_cons]
    have hm := Tm.size_mem (List.getElem_mem hk)
    refine ⟨by omega, by omega, ih _ (List.getElem_mem hk) (by rw [small_eq]; omega) _ ⟨rfl, rfl, hK _ ?_⟩⟩
    have h1 := Tm.sizeL_take t.args k hk
    have h2 := Tm.sizeL_take_le t.args (k + 1)
    subst hJ
    show IntKind.i64.wrap (_ + ((t.args[k]).size : Int)) = _
    rw [wrap_in _ (by omega) (by omega)]
    omega
  · rw [List.take_length] at hJ
    subst hJ
    rw [hs] at hQ
    exact ⟨trivial, hQ⟩
theorem term_Depth_ok : ∀ t : Tm, t.size ≤ small → Fn f_term_Depth [tD t] (iD t.depth) := Tm.ind fun t ih hB Q hQ => by
  refine C_term_Depth _ _ _ _ fun hb => ?_
  have hl := Tm.encL_length t.args
  have hd := Tm.depth_eq t
  have hds := Tm.depth_le_size t
  rw [small_eq] at hB
  rw [hl] at hb ⊢
  refine range_term_Depth_0 Q _ _ hb (fun k n => n = (Tm.depthL (t.args.take k) : Int)) (fun k n hk hJ K hK => ?_) (fun n hJ => ?_) 0 0 (Nat.zero_le _) rfl
  · simp only [Tm.encL_getD _ k hk, Tm.enc_eq, List.drop_zero, List.headD_cons, List.tail_cons]
    have hm := Tm.size_mem (List.getElem_mem hk)
    refine ⟨by omega, by omega, ih _ (List.getElem_mem hk) (by rw [small_eq]; omega) _ ⟨rfl, rfl, hK _ ?_⟩⟩
    subst hJ
    show (if ((t.args[k]).depth : Int) > _ then ((t.args[k]).depth : Int) else _) = _
    rw [Tm.depthL_take t.args k hk]
    split <;> omega
  · rw [List.take_length] at hJ
    subst hJ
    rw [wrap_in _ (by omega) (by omega)]
    rw [hd] at hQ
    exact ⟨trivial, hQ⟩
theorem term_fits_ok (t : Tm) (hB : t.size ≤ small) : Fn f_term_fits [tD t] (bD (decide (t.size ≤ 4000 ∧ t.depth ≤ 200))) := fun Q hQ => by
  refine C_term_fits _ _ _ _ ?_
  unfold vc_term_fits
  refine term_Size_ok t hB _ ⟨rfl, rfl, iff_dec (fun h => term_Depth_ok t hB _ ⟨rfl, rfl, trivial, ?_⟩) (fun h => ⟨trivial, ?_⟩)⟩
  · have h : (t.size : Int) ≤ 4000 := h
    show Q (bD (decide ((t.depth : Int) ≤ 200))) []
    have e : decide ((t.depth : Int) ≤ 200) = decide (t.size ≤ 4000 ∧ t.depth ≤ 200) := by
      rw [Bool.eq_iff_iff]; simp only [decide_eq_true_iff]; omega
    rw [e]; exact hQ
  · have h : ¬ (t.size : Int) ≤ 4000 := h
    rw [decide_eq_false (by omega)] at hQ
    exact hQ
theorem term_Check_ok (t : Tm) (hB : t.size ≤ small) : Fn f_term_Check [tD t] (iD t.check) := fun Q hQ => by
  refine C_term_Check _ _ _ _ ?_
  unfold vc_term_Check
  unfold Tm.check at hQ
  refine term_formed_ok t _ ⟨rfl, rfl, iff_not (iff_intro (fun h => ?_) (fun h => ⟨trivial, ?_⟩))⟩
  · have h' : t.formed = true := h
    rw [h', if_pos rfl] at hQ
    refine term_fits_ok t hB _ ⟨rfl, rfl, iff_not (iff_dec (fun h2 => ⟨trivial, ?_⟩) (fun h2 => ⟨trivial, ?_⟩))⟩
    · rw [if_pos h2] at hQ; exact hQ
    · rw [if_neg h2] at hQ; exact hQ
  · have h' : t.formed = false := h
    rw [h', if_neg (by simp)] at hQ
    exact hQ
theorem term_All_ok (l : List Tm) (hB : ∀ t ∈ l, t.size ≤ small) : Fn f_term_All [tsD l] (iD (Tm.checkAll l)) := fun Q hQ => by
  refine C_term_All _ _ fun hb => ?_
  have hl := Tm.encL_length l
  rw [hl] at hb ⊢
  refine range_term_All_0 Q _ _ hb (fun k => Tm.checkAll (l.take k) = 0) (fun k hk hJ K hK => ?_) (fun hJ => ?_) 0 (Nat.zero_le _) rfl
  · simp only [Tm.encL_getD _ k hk, Tm.enc_eq, List.drop_zero, List.headD_cons, List.tail_cons]
    refine ⟨by omega, by omega, term_Check_ok _ (hB _ (List.getElem_mem hk)) _ ⟨rfl, rfl, iff_bne (fun h => ⟨trivial, ?_⟩) (fun h => hK ?_)⟩⟩
    · have h' : (l[k]).check ≠ 0 := h
      rw [checkAll_take hJ hk h'] at hQ
      exact hQ
    · have h' : (l[k]).check = 0 := h
      rw [Tm.checkAll_zero] at hJ ⊢
      rw [List.take_succ_eq_append_getElem hk]
      intro t ht
      rcases List.mem_append.1 ht with ht | ht
      · exact hJ t ht
      · rw [List.mem_singleton.1 ht]; exact h'
  · rw [List.take_length] at hJ
    rw [hJ] at hQ
    exact ⟨trivial, hQ⟩
end Go.Proofs.Ytgohjdaepcmonaa
