/-
  Texts TermA, R01F, VarZ, SysA, SysB, SymA, SymB, SymC, R01E, Lpo, R06A, PathA, NodeA, NodeB, NodeC, NodeD, LawA, LawB, LawO, R03A, RewA, RewB, R01S, RewC, RewD, LpoB, UniT, MatA, RewE, LawP of this proof, joined.
-/
import Derived.Test.YtehchnjnbbnkbaaGreatP11
set_option linter.unusedVariables false
set_option linter.unusedSimpArgs false
namespace Go.Proofs.YtehchnjnbbnkbaaGreat
open Go.Abs
def idx {α : Type} (p : α → Bool) (l : List α) : Int := match l.findIdx? p with | some i => i | none => -1
theorem idx_at {α : Type} {p : α → Bool} {l : List α} {k : Nat} (hk : k < l.length) (h : (l.take k).any p = false) (hp : p l[k] = true) : idx p l = k := by
  have e : l.findIdx? p = some k := by
    rw [List.findIdx?_eq_some_iff_getElem]
    refine ⟨hk, hp, fun j hj => ?_⟩
    have := List.any_eq_false.1 h (l[j]'(by omega)) (List.mem_take_iff_getElem.2 ⟨j, by omega, rfl⟩)
    exact this
  unfold idx; rw [e]
theorem idx_none {α : Type} {p : α → Bool} {l : List α} (h : l.any p = false) : idx p l = -1 := by
  have e : l.findIdx? p = none := by
    rw [List.findIdx?_eq_none_iff]
    intro x hx
    have := List.any_eq_false.1 h x hx
    simpa using this
  unfold idx; rw [e]
theorem idx_any {α : Type} (p : α → Bool) (l : List α) : decide (idx p l ≥ 0) = l.any p := by
  cases h : l.any p with
  | false => rw [idx_none h]; rfl
  | true =>
    unfold idx
    cases e : l.findIdx? p with
    | some i => exact decide_eq_true (by show (i : Int) ≥ 0; omega)
    | none =>
      rw [List.findIdx?_eq_none_iff] at e
      obtain ⟨x, hx, hp⟩ := List.any_eq_true.1 h
      rw [e x hx] at hp; cases hp
theorem any_take {α : Type} {p : α → Bool} {l : List α} {k : Nat} (hk : k < l.length) (h : (l.take k).any p = false) (hp : p l[k] = false) : (l.take (k + 1)).any p = false := by
  rw [List.take_succ_eq_append_getElem hk, List.any_append, h, List.any_cons, List.any_nil, hp]; rfl
theorem term_inName_ok (c : Int) : Fn f_term_inName [uD c] (bD (letterB c)) := by
  intro Q hQ
  refine C_term_inName _ _ ?_
  have key : ∀ b, b = letterB c → True ∧ Q (bD b) [] := by rintro _ rfl; exact ⟨trivial, hQ⟩
  unfold vc_term_inName
  repeat' (first | (refine iff_dec (fun _ => ?_) (fun _ => ?_)) | (refine iff_beq (fun _ => ?_) (fun _ => ?_)) | fail)
  all_goals
    refine key _ ?_
    unfold letterB
    rw [Bool.eq_iff_iff]
    simp only [decide_eq_true_iff, beq_iff_eq, true_iff]
    omega
theorem term_IsName_1_ok (c : Int) : Fn f_term_IsName_1 [uD c] (bD (!letterB c)) := fun Q hQ => by
  refine C_term_IsName_1 _ _ ?_
  unfold vc_term_IsName_1
  exact term_inName_ok c _ ⟨rfl, rfl, trivial, hQ⟩
theorem stringslite_HasSuffix_ok (a b : ByteArray) : Fn f_stringslite_HasSuffix [sD a, sD b] (bD (decide (b.data.toList <:+ a.data.toList))) := fun Q hQ => by
  refine C_stringslite_HasSuffix _ _ _ fun ha hb => ?_
  rw [big_eq] at ha hb
  have hla := ba_size a
  have hlb := ba_size b
  refine iff_dec (fun h _ _ => ?_) (fun h => ⟨trivial, ?_⟩)
  · rw [wrap_in _ (by omega) (by omega)]
    refine ⟨by omega, by omega, by omega, trivial, ?_⟩
    rw [ba_beq]
    have e : (a.extract ((a.size : Int) - (b.size : Int)).toNat ((a.size : Int)).toNat = b) ↔ b.data.toList <:+ a.data.toList := by
      rw [List.suffix_iff_eq_drop, ← ba_eq_iff, extract_list, List.take_of_length_le (by omega)]
      have : ((a.size : Int) - (b.size : Int)).toNat = a.data.toList.length - b.data.toList.length := by omega
      rw [this]
      exact eq_comm
    rw [decide_eq_decide.2 e]
    exact hQ
  · have : ¬ b.data.toList <:+ a.data.toList := fun h2 => by have := h2.length_le; omega
    rw [decide_eq_false this] at hQ
    exact hQ
def trim (a b : ByteArray) : ByteArray := if b.data.toList <:+ a.data.toList then a.extract 0 (a.size - b.size) else a
theorem stringslite_TrimSuffix_ok (a b : ByteArray) : Fn f_stringslite_TrimSuffix [sD a, sD b] (sD (trim a b)) := fun Q hQ => by
  refine C_stringslite_TrimSuffix _ _ _ ?_
  unfold vc_stringslite_TrimSuffix
  unfold trim at hQ
  refine stringslite_HasSuffix_ok a b _ ⟨rfl, rfl, iff_dec (fun h ha hb => ?_) (fun h => ⟨trivial, ?_⟩)⟩
  · rw [if_pos h] at hQ
    rw [big_eq] at ha hb
    have hla := ba_size a
    have hlb := ba_size b
    have := h.length_le
    rw [wrap_in _ (by omega) (by omega)]
    refine ⟨by omega, by omega, by omega, trivial, ?_⟩
    have e : ((a.size : Int) - (b.size : Int)).toNat = a.size - b.size := by omega
    rw [e]; exact hQ
  · rw [if_neg h] at hQ; exact hQ
theorem strings_TrimSuffix_ok (a b : ByteArray) : Fn f_strings_TrimSuffix [sD a, sD b] (sD (trim a b)) := fun Q hQ => by
  refine C_strings_TrimSuffix _ _ _ ?_
  unfold vc_strings_TrimSuffix
  exact stringslite_TrimSuffix_ok a b _ ⟨rfl, rfl, trivial, hQ⟩
theorem bytesV_getD (s : ByteArray) (k : Nat) (h : k < s.data.toList.length) : (bytesV s).getD k [] = [.i ((s.data.toList[k]).toNat : Int)] := by
  rw [bytesV, List.getD_eq_getElem?_getD, List.getElem?_map, List.getElem?_eq_getElem h]; rfl
theorem slices_IndexFunc_byte_ok (s : ByteArray) : Fn f_slices_IndexFunc_byte [.v (.sl t_uint8) (.l (bytesV s)), .fn f_term_IsName_1 []] (iD (idx (fun c : UInt8 => !letterB (c.toNat : Int)) s.data.toList)) := fun Q hQ => by
  refine C_slices_IndexFunc_byte_termIsName1 _ _ fun hb => ?_
  have hl : (bytesV s).length = s.data.toList.length := by simp [bytesV]
  rw [hl] at hb ⊢
  refine range_slices_IndexFunc_byte_termIsName1_0 Q _ _ hb (fun k => (s.data.toList.take k).any (fun c : UInt8 => !letterB (c.toNat : Int)) = false) (fun k hk hJ K hK => ?_) (fun hJ => ⟨trivial, ?_⟩) 0 (Nat.zero_le _) rfl
  · simp only [bytesV_getD _ k hk, List.drop_zero, List.headD_cons]
    refine ⟨by omega, by omega, term_IsName_1_ok _ _ ⟨rfl, rfl, iff_intro (fun h => ⟨trivial, ?_⟩) (fun h => hK (any_take hk hJ h))⟩⟩
    rw [idx_at hk hJ h] at hQ
    exact hQ
  · rw [List.take_length] at hJ
    rw [idx_none hJ] at hQ
    exact hQ
theorem slices_ContainsFunc_byte_ok (s : ByteArray) : Fn f_slices_ContainsFunc_byte [.v (.sl t_uint8) (.l (bytesV s)), .fn f_term_IsName_1 []] (bD (s.data.toList.any fun c : UInt8 => !letterB (c.toNat : Int))) := fun Q hQ => by
  refine C_slices_ContainsFunc_byte_termIsName1 _ _ ?_
  unfold vc_slices_ContainsFunc_byte_termIsName1
  refine slices_IndexFunc_byte_ok s _ ⟨rfl, rfl, trivial, ?_⟩
  rw [← idx_any] at hQ
  exact hQ
theorem hash_suffix (l : List UInt8) : ([35] <:+ l) ↔ markedL l = true := by
  unfold markedL
  rw [decide_eq_true_iff]
  constructor
  · rintro ⟨m, rfl⟩; simp
  · intro h
    have hne : l ≠ [] := by rintro rfl; simp at h
    refine ⟨l.dropLast, ?_⟩
    rw [List.getLast?_eq_some_getLast hne] at h
    have := List.dropLast_concat_getLast hne
    rw [Option.some.inj h] at this
    exact this
theorem term_IsName_ok (s : ByteArray) (m : Bool) : Fn f_term_IsName [sD s, bD m] (bD (nameOk s m)) := fun Q hQ => by
  refine C_term_IsName _ _ _ fun hb => ?_
  have hl := ba_size s
  have fin : ∀ x : ByteArray, s.size ≤ 24 → nameOk s m = (decide (0 < x.size) && lettersL x.data.toList) → jp_term_IsName_0 Q (.s x) := fun x _ hx => by
    rw [jp_term_IsName_0_s]
    unfold je_term_IsName_0
    rw [hx] at hQ
    show iff (!(x.toList == (ByteArray.mk #[]).toList)) _ _
    rw [ba_beq]
    refine iff_not (iff_dec (fun h => ⟨trivial, ?_⟩) (fun h => ?_))
    · rw [ba_nil] at h
      rw [decide_eq_false (by omega)] at hQ
      exact hQ
    · rw [ba_nil] at h
      rw [decide_eq_true (by omega)] at hQ
      refine slices_ContainsFunc_byte_ok x _ ⟨rfl, rfl, trivial, ?_⟩
      have e : (!(x.data.toList.any fun c : UInt8 => !letterB (c.toNat : Int))) = (true && lettersL x.data.toList) := by
        unfold lettersL
        rw [List.all_eq_not_any_not]; rfl
      rw [← e] at hQ
      exact hQ
  refine iff_dec (fun h => ⟨trivial, ?_⟩) (fun h => iff_intro (fun hm => ?_) (fun hm => fin s (by omega) ?_))
  · have : nameOk s m = false := by unfold nameOk; rw [decide_eq_false (by omega)]; rfl
    rw [this] at hQ; exact hQ
  · refine strings_TrimSuffix_ok s _ _ ⟨rfl, rfl, fin _ (by omega) ?_⟩
    unfold nameOk trim
    have e35 : (ByteArray.mk #[35]).data.toList = [35] := rfl
    have es : (ByteArray.mk #[35]).size = 1 := rfl
    rw [decide_eq_true (show s.size ≤ 24 by omega), hm, Bool.true_and, Bool.true_and, e35, es]
    by_cases hk : markedL s.data.toList = true
    · rw [if_pos hk, if_pos ((hash_suffix _).2 hk)]
      have hx := extract_list s 0 (s.size - 1)
      have hxs : (s.extract 0 (s.size - 1)).size = s.size - 1 := by rw [← ba_size, hx]; simp
      rw [hx, hxs, List.drop_zero, List.dropLast_eq_take]
      have h1 : decide (1 < s.size) = decide (0 < s.size - 1) := by
        rw [Bool.eq_iff_iff]; simp only [decide_eq_true_iff]; omega
      rw [h1, hl]
    · rw [if_neg hk, if_neg (fun h => hk ((hash_suffix _).1 h))]
  · unfold nameOk
    rw [decide_eq_true (show s.size ≤ 24 by omega), hm]; rfl
theorem formed_any (l : List Tm) : (!(l.any fun a => !a.formed)) = l.all Tm.formed := by rw [List.all_eq_not_any_not]
theorem term_formed_1_ok (t : Tm) (ih : Fn f_term_formed [tD t] (bD t.formed)) : Fn f_term_formed_1 [tD t] (bD (!t.formed)) := fun Q hQ => by
  refine C_term_formed_1 _ _ _ _ ?_
  unfold vc_term_formed_1
  exact ih _ ⟨rfl, rfl, trivial, hQ⟩
theorem slices_IndexFunc_Term_ok (l : List Tm) (ih : ∀ a ∈ l, Fn f_term_formed [tD a] (bD a.formed)) : Fn f_slices_IndexFunc_Term [tsD l, .fn f_term_formed_1 []] (iD (idx (fun a : Tm => !a.formed) l)) := fun Q hQ => by
  refine C_slices_IndexFunc_Term_termformed1 _ _ fun hb => ?_
  have hl := Tm.encL_length l
  rw [hl] at hb ⊢
  refine range_slices_IndexFunc_Term_termformed1_0 Q _ _ hb (fun k => (l.take k).any (fun a : Tm => !a.formed) = false) (fun k hk hJ K hK => ?_) (fun hJ => ⟨trivial, ?_⟩) 0 (Nat.zero_le _) rfl
  · simp only [Tm.encL_getD _ k hk, Tm.enc_eq, List.drop_zero, List.headD_cons, List.tail_cons]
    refine ⟨by omega, by omega, term_formed_1_ok _ (ih _ (List.getElem_mem hk)) _ ⟨rfl, rfl, iff_intro (fun h => ⟨trivial, ?_⟩) (fun h => hK (any_take hk hJ h))⟩⟩
    rw [idx_at hk hJ h] at hQ
    exact hQ
  · rw [List.take_length] at hJ
    rw [idx_none hJ] at hQ
    exact hQ
theorem slices_ContainsFunc_Term_ok (l : List Tm) (ih : ∀ a ∈ l, Fn f_term_formed [tD a] (bD a.formed)) : Fn f_slices_ContainsFunc_Term [tsD l, .fn f_term_formed_1 []] (bD (l.any fun a : Tm => !a.formed)) := fun Q hQ => by
  refine C_slices_ContainsFunc_Term_termformed1 _ _ ?_
  unfold vc_slices_ContainsFunc_Term_termformed1
  refine slices_IndexFunc_Term_ok l ih _ ⟨rfl, rfl, trivial, ?_⟩
  rw [← idx_any] at hQ
  exact hQ
theorem term_formed_ok : ∀ t : Tm, Fn f_term_formed [tD t] (bD t.formed) := Tm.ind fun t ih Q hQ => by
  refine C_term_formed _ _ _ _ ?_
  unfold vc_term_formed
  have hl := Tm.encL_length t.args
  have hf := Tm.formed_eq t
  refine iff_intro (fun hv hb => ?_) (fun hv hb => ?_)
  · rw [hv, if_pos rfl] at hf
    rw [hl]
    refine iff_beq (fun h => term_IsName_ok _ _ _ ⟨rfl, rfl, trivial, ?_⟩) (fun h => ⟨trivial, ?_⟩)
    · have : t.args.isEmpty = true := by rw [List.isEmpty_iff]; exact List.eq_nil_of_length_eq_zero (by omega)
      rw [this, Bool.and_true] at hf
      rw [hf] at hQ; exact hQ
    · have : t.args.isEmpty = false := by
        cases he : t.args.isEmpty with
        | false => rfl
        | true => rw [List.isEmpty_iff] at he; rw [he] at h; simp at h
      rw [this, Bool.and_false] at hf
      rw [hf] at hQ; exact hQ
  · rw [hv, if_neg (by simp)] at hf
    rw [hl]
    refine iff_dec (fun h => term_IsName_ok _ _ _ ⟨rfl, rfl, iff_intro (fun h2 => ?_) (fun h2 => ⟨trivial, ?_⟩)⟩) (fun h => ⟨trivial, ?_⟩)
    · have h2 : nameOk t.name true = true := h2
      rw [h2, decide_eq_true (by omega), Bool.true_and, Bool.true_and, ← formed_any] at hf
      refine slices_ContainsFunc_Term_ok t.args ih _ ⟨rfl, rfl, trivial, ?_⟩
      rw [hf] at hQ
      exact hQ
    · have h2 : nameOk t.name true = false := h2
      rw [h2] at hf
      rw [hf] at hQ; exact hQ
    · rw [decide_eq_false (by omega), Bool.and_false] at hf
      rw [hf] at hQ; exact hQ
theorem term_Size_ok : ∀ t : Tm, t.size ≤ small → Fn f_term_Size [tD t] (iD t.size) := Tm.ind fun t ih hB Q hQ => by
  refine C_term_Size _ _ _ _ fun hb => ?_
  have hl := Tm.encL_length t.args
  have hs := Tm.size_eq t
  rw [small_eq] at hB
  rw [hl] at hb ⊢
  refine range_term_Size_0 Q _ _ hb (fun k n => n = ((1 + Tm.sizeL (t.args.take k) : Nat) : Int)) (fun k n hk hJ K hK => ?_) (fun n hJ => ?_) 0 1 (Nat.zero_le _) rfl
  · simp only [Tm.encL_getD _ k hk, Tm.enc_eq, List.drop_zero, List.headD_cons, List.tail_cons]
    have hm := Tm.size_mem (List.getElem_mem hk)
    refine ⟨by omega, by omega, ih _ (List.getElem_mem hk) (by rw [small_eq]; omega) _ ⟨rfl, rfl, hK _ ?_⟩⟩
    have h1 := Tm.sizeL_take t.args k hk
    have h2 := Tm.sizeL_take_le t.args (k + 1)
    subst hJ
    show IntKind.i64.wrap (_ + ((t.args[k]).size : Int)) = _
    rw [wrap_in _ (by omega) (by omega)]
    omega
  · rw [List.take_length] at hJ
    subst hJ
    rw [hs] at hQ
    exact ⟨trivial, hQ⟩
theorem term_Depth_ok : ∀ t : Tm, t.size ≤ small → Fn f_term_Depth [tD t] (iD t.depth) := Tm.ind fun t ih hB Q hQ => by
  refine C_term_Depth _ _ _ _ fun hb => ?_
  have hl := Tm.encL_length t.args
  have hd := Tm.depth_eq t
  have hds := Tm.depth_le_size t
  rw [small_eq] at hB
  rw [hl] at hb ⊢
  refine range_term_Depth_0 Q _ _ hb (fun k n => n = (Tm.depthL (t.args.take k) : Int)) (fun k n hk hJ K hK => ?_) (fun n hJ => ?_) 0 0 (Nat.zero_le _) rfl
  · simp only [Tm.encL_getD _ k hk, Tm.enc_eq, List.drop_zero, List.headD_cons, List.tail_cons]
    have hm := Tm.size_mem (List.getElem_mem hk)
    refine ⟨by omega, by omega, ih _ (List.getElem_mem hk) (by rw [small_eq]; omega) _ ⟨rfl, rfl, hK _ ?_⟩⟩
    subst hJ
    show (if ((t.args[k]).depth : Int) > _ then ((t.args[k]).depth : Int) else _) = _
    rw [Tm.depthL_take t.args k hk]
    split <;> omega
  · rw [List.take_length] at hJ
    subst hJ
    rw [wrap_in _ (by omega) (by omega)]
    rw [hd] at hQ
    exact ⟨trivial, hQ⟩
theorem term_fits_ok (t : Tm) (hB : t.size ≤ small) : Fn f_term_fits [tD t] (bD (decide (t.size ≤ 4000 ∧ t.depth ≤ 200))) := fun Q hQ => by
  refine C_term_fits _ _ _ _ ?_
  unfold vc_term_fits
  refine term_Size_ok t hB _ ⟨rfl, rfl, iff_dec (fun h => term_Depth_ok t hB _ ⟨rfl, rfl, trivial, ?_⟩) (fun h => ⟨trivial, ?_⟩)⟩
  · have h : (t.size : Int) ≤ 4000 := h
    show Q (bD (decide ((t.depth : Int) ≤ 200))) []
    have e : decide ((t.depth : Int) ≤ 200) = decide (t.size ≤ 4000 ∧ t.depth ≤ 200) := by
      rw [Bool.eq_iff_iff]; simp only [decide_eq_true_iff]; omega
    rw [e]; exact hQ
  · have h : ¬ (t.size : Int) ≤ 4000 := h
    rw [decide_eq_false (by omega)] at hQ
    exact hQ
theorem term_Check_ok (t : Tm) (hB : t.size ≤ small) : Fn f_term_Check [tD t] (iD t.check) := fun Q hQ => by
  refine C_term_Check _ _ _ _ ?_
  unfold vc_term_Check
  unfold Tm.check at hQ
  refine term_formed_ok t _ ⟨rfl, rfl, iff_not (iff_intro (fun h => ?_) (fun h => ⟨trivial, ?_⟩))⟩
  · have h' : t.formed = true := h
    rw [h', if_pos rfl] at hQ
    refine term_fits_ok t hB _ ⟨rfl, rfl, iff_not (iff_dec (fun h2 => ⟨trivial, ?_⟩) (fun h2 => ⟨trivial, ?_⟩))⟩
    · rw [if_pos h2] at hQ; exact hQ
    · rw [if_neg h2] at hQ; exact hQ
  · have h' : t.formed = false := h
    rw [h', if_neg (by simp)] at hQ
    exact hQ
theorem term_All_ok (l : List Tm) (hB : ∀ t ∈ l, t.size ≤ small) : Fn f_term_All [tsD l] (iD (Tm.checkAll l)) := fun Q hQ => by
  refine C_term_All _ _ fun hb => ?_
  have hl := Tm.encL_length l
  rw [hl] at hb ⊢
  refine range_term_All_0 Q _ _ hb (fun k => Tm.checkAll (l.take k) = 0) (fun k hk hJ K hK => ?_) (fun hJ => ?_) 0 (Nat.zero_le _) rfl
  · simp only [Tm.encL_getD _ k hk, Tm.enc_eq, List.drop_zero, List.headD_cons, List.tail_cons]
    refine ⟨by omega, by omega, term_Check_ok _ (hB _ (List.getElem_mem hk)) _ ⟨rfl, rfl, iff_bne (fun h => ⟨trivial, ?_⟩) (fun h => hK ?_)⟩⟩
    · have h' : (l[k]).check ≠ 0 := h
      rw [checkAll_take hJ hk h'] at hQ
      exact hQ
    · have h' : (l[k]).check = 0 := h
      rw [Tm.checkAll_zero] at hJ ⊢
      rw [List.take_succ_eq_append_getElem hk]
      intro t ht
      rcases List.mem_append.1 ht with ht | ht
      · exact hJ t ht
      · rw [List.mem_singleton.1 ht]; exact h'
  · rw [List.take_length] at hJ
    rw [hJ] at hQ
    exact ⟨trivial, hQ⟩
end Go.Proofs.YtehchnjnbbnkbaaGreat
set_option linter.unusedVariables false
set_option linter.unusedSimpArgs false
namespace Go.Proofs.YtehchnjnbbnkbaaGreat
open Go.Abs
def encN (l : List ByteArray) : List (List V) := l.map fun s => [.s s]
abbrev nsD (l : List ByteArray) : D := .v (.sl t_string) (.l (encN l))
theorem encN_length (l : List ByteArray) : (encN l).length = l.length := by simp [encN]
theorem encN_getD (l : List ByteArray) (k : Nat) (h : k < l.length) : (encN l).getD k [] = [.s l[k]] := by
  rw [encN, List.getD_eq_getElem?_getD, List.getElem?_map, List.getElem?_eq_getElem h]; rfl
def hasN (l : List ByteArray) (x : ByteArray) : Bool := l.any fun y => decide (y = x)
theorem hasN_iff {l : List ByteArray} {x : ByteArray} : hasN l x = true ↔ x ∈ l := by
  unfold hasN; rw [List.any_eq_true]
  constructor
  · rintro ⟨y, hy, h⟩
    rw [decide_eq_true_iff] at h; exact h ▸ hy
  · exact fun h => ⟨x, h, by simp⟩
theorem hasN_false {l : List ByteArray} {x : ByteArray} : hasN l x = false ↔ x ∉ l := by rw [← hasN_iff, Bool.not_eq_true]
def insN (l : List ByteArray) (s : ByteArray) : List ByteArray := match l with
  | [] => [s]
  | x :: r => if cmpN x s = -1 then x :: insN r s else if x = s then x :: r else s :: x :: r
namespace Tm
mutual
def collect : Tm → List ByteArray → List ByteArray | mk n v xs, l => collectL xs (if v then insN l n else l)
def collectL : List Tm → List ByteArray → List ByteArray | [], l => l | t :: r, l => collectL r (collect t l)
end
def vars (l : List Tm) : List ByteArray := collectL l []
end Tm
open Classical in
noncomputable def sameS (l m : Su) : Bool := decide (l = m)
abbrev Ru := List (Tm × Tm)
def encR (x : Tm × Tm) : List V := x.1.enc ++ x.2.enc
def encRs (l : Ru) : List (List V) := l.map encR
abbrev ruD (l : Ru) : D := .v (.sl t_Rule) (.l (encRs l))
theorem encRs_length (l : Ru) : (encRs l).length = l.length := by simp [encRs]
theorem encRs_getD (l : Ru) (k : Nat) (h : k < l.length) : (encRs l).getD k [] = [.s (l[k]).1.name, .b (l[k]).1.var, .l (Tm.encL (l[k]).1.args), .s (l[k]).2.name, .b (l[k]).2.var, .l (Tm.encL (l[k]).2.args)] := by
  rw [encRs, List.getD_eq_getElem?_getD, List.getElem?_map, List.getElem?_eq_getElem h]
  simp [encR, Tm.enc_eq]
def rulesL : Ru → Int
  | [] => 0
  | x :: r => if Tm.checkAll [x.1, x.2] ≠ 0 then Tm.checkAll [x.1, x.2] else rulesL r
def rules (l : Ru) : Int := if l.length > 64 then 3 else rulesL l
theorem rulesL_take {l : Ru} : ∀ {k : Nat} (hk : k < l.length), (∀ i (h : i < k), Tm.checkAll [(l[i]'(by omega)).1, (l[i]'(by omega)).2] = 0) → Tm.checkAll [(l[k]).1, (l[k]).2] ≠ 0 → rulesL l = Tm.checkAll [(l[k]).1, (l[k]).2] := by
  induction l with
  | nil => intro k hk; simp at hk
  | cons x r ih =>
    intro k hk h hn
    cases k with
    | zero => simp only [List.getElem_cons_zero] at hn ⊢; rw [rulesL, if_pos hn]
    | succ k =>
      have h0 := h 0 (by omega)
      simp only [List.getElem_cons_zero] at h0
      simp only [List.getElem_cons_succ] at hn ⊢
      rw [rulesL, if_neg (by simp [h0])]
      exact ih (by simpa using hk) (fun i hi => by have := h (i + 1) (by omega); simpa using this) hn
theorem rulesL_all {l : Ru} (h : ∀ i (h : i < l.length), Tm.checkAll [(l[i]).1, (l[i]).2] = 0) : rulesL l = 0 := by
  induction l with
  | nil => rfl
  | cons x r ih =>
    have h0 := h 0 (by simp)
    simp only [List.getElem_cons_zero] at h0
    rw [rulesL, if_neg (by simp [h0])]
    exact ih fun i hi => by have := h (i + 1) (by simpa using hi); simpa using this
end Go.Proofs.YtehchnjnbbnkbaaGreat
set_option linter.unusedVariables false
set_option linter.unusedSimpArgs false
namespace Go.Proofs.YtehchnjnbbnkbaaGreat
open Go Go.Abs
theorem keyEqS (a c : ByteArray) (r : List V) : keyEq [.str] [V.s a] (V.s c :: r) = decide (a = c) := by
  have e : keyEq [.str] [V.s a] (V.s c :: r) = (match a.toList == c.toList with | true => true | false => false) := rfl
  rw [e, ba_beq]; cases decide (a = c) <;> rfl
def keysB (l : List ByteArray) : LL := l.map fun x => [V.s x, V.b true]
def addN (l : List ByteArray) (x : ByteArray) : List ByteArray := if hasN l x then l else l ++ [x]
theorem addN_in {l : List ByteArray} {x : ByteArray} (h : x ∈ l) : addN l x = l := by unfold addN; rw [if_pos (hasN_iff.2 h)]
theorem addN_out {l : List ByteArray} {x : ByteArray} (h : x ∉ l) : addN l x = l ++ [x] := by unfold addN; rw [hasN_false.2 h]; rfl
theorem mem_addN {l : List ByteArray} {x y : ByteArray} : y ∈ addN l x ↔ y ∈ l ∨ y = x := by
  by_cases h : x ∈ l
  · rw [addN_in h]
    exact ⟨.inl, fun h' => h'.elim id fun e => e ▸ h⟩
  · rw [addN_out h]; simp
theorem nodup_addN {l : List ByteArray} {x : ByteArray} (h : l.Nodup) : (addN l x).Nodup := by
  by_cases hx : x ∈ l
  · rw [addN_in hx]; exact h
  · rw [addN_out hx]
    exact List.nodup_append.2 ⟨h, by simp, fun a ha b hb => by simp at hb; rintro rfl; exact hx (hb ▸ ha)⟩
theorem mset_keysB (x : ByteArray) : ∀ l : List ByteArray, mset [.str] [V.s x] [V.b true] (keysB l) = keysB (addN l x)
  | [] => rfl
  | y :: l => by
    have e : keysB (y :: l) = [V.s y, V.b true] :: keysB l := rfl
    rw [e, mset, keyEqS]
    by_cases h : x = y
    · subst h
      rw [decide_eq_true rfl, addN_in (by simp)]; rfl
    · rw [decide_eq_false h]
      show _ :: mset _ _ _ (keysB l) = _
      rw [mset_keysB x l]
      by_cases hx : x ∈ l
      · rw [addN_in hx, addN_in (by simp [hx])]; rfl
      · rw [addN_out hx, addN_out (by simp [h, hx])]; rfl
def varsIn (l : List Tm) : List ByteArray := (l.filter Tm.var).map Tm.name
theorem varsIn_append (l r : List Tm) : varsIn (l ++ r) = varsIn l ++ varsIn r := by simp [varsIn]
def sortW (ks : List ByteArray) : List ByteArray := (sortL (ks.map fun x => x.data.toList)).map byL
theorem mem_sortW {ks : List ByteArray} {x : ByteArray} : x ∈ sortW ks ↔ x ∈ ks := by
  unfold sortW sortL
  simp only [List.mem_map, List.mem_mergeSort]
  constructor
  · rintro ⟨_, ⟨y, hy, rfl⟩, rfl⟩
    rw [byL_data]; exact hy
  · intro h
    exact ⟨_, ⟨x, h, rfl⟩, byL_data x⟩
theorem term_Walk_ok (t : Tm) {Q : D → Heap → Prop} (hQ : Q (.fn f_term_Walk_1 [.elt t_Term t.enc 0]) []) : cl f_term_Walk [tD t] [] Q := by
  refine C_term_Walk _ _ _ _ ⟨trivial, ?_⟩
  rw [Tm.enc_eq] at hQ
  exact hQ
theorem nodup_inj {ks : List ByteArray} (h : ks.Nodup) : ∀ {a b : Nat} (ha : a < ks.length) (hb : b < ks.length), ks[a] = ks[b] → a = b := by
  intro a b ha hb he
  rcases Nat.lt_trichotomy a b with hab | hab | hab
  · exact absurd he (List.pairwise_iff_getElem.1 h a b ha hb hab)
  · exact hab
  · exact absurd he.symm (List.pairwise_iff_getElem.1 h b a hb ha hab)
theorem preL_length : ∀ l : List Tm, (Tm.preL l).length = Tm.sizeL l := by
  have h : ∀ t : Tm, t.pre.length = t.size := Tm.ind fun t ih => by
    rw [Tm.pre_eq, Tm.size_eq, List.length_cons]
    have : ∀ l : List Tm, (∀ a ∈ l, a.pre.length = a.size) → (Tm.preL l).length = Tm.sizeL l := by
      intro l hl
      induction l with
      | nil => rfl
      | cons a r ihr => simp only [Tm.preL, Tm.sizeL, List.length_append]; rw [hl a (by simp), ihr fun b hb => hl b (by simp [hb])]
    rw [this _ ih]; omega
  intro l
  induction l with
  | nil => rfl
  | cons a r ihr => simp only [Tm.preL, Tm.sizeL, List.length_append]; rw [h a, ihr]
theorem pre_length (t : Tm) : t.pre.length = t.size := by rw [Tm.pre_eq, Tm.size_eq, List.length_cons, preL_length]; omega
theorem preL_append (l r : List Tm) : Tm.preL (l ++ r) = Tm.preL l ++ Tm.preL r := by simp [Tm.preL_eq]
theorem keysB_getD (ks : List ByteArray) (j : Nat) (hj : j < ks.length) : (keysB ks).getD j [] = [V.s (ks.getD j ByteArray.empty), V.b true] := by
  unfold keysB
  rw [List.getD_eq_getElem?_getD, List.getElem?_map, List.getD_eq_getElem?_getD, List.getElem?_eq_getElem hj]; rfl
theorem VarsOf_ok (l : List Tm) (hs : Tm.sizeL l ≤ 274877906944) {Q : D → Heap → Prop}
    (hQ : ∀ ks : List ByteArray, ks.Nodup → (∀ x, x ∈ ks ↔ x ∈ varsIn (Tm.preL l)) → Q (.v (.sl t_string) (.l ((sortW ks).map fun x => [.s x]))) []) : cl f_term_VarsOf [.v (.sl t_Term) (.l (Tm.encL l))] [] Q := by
  refine C_term_VarsOf _ _ fun _ => ?_
  have hll : l.length ≤ 274877906944 := Nat.le_trans (Tm.length_sizeL l) hs
  have last : ∀ (ks : List ByteArray), ks.Nodup → ks.length ≤ Tm.sizeL l → (∀ x, x ∈ ks ↔ x ∈ varsIn (Tm.preL l)) → ∃ m2, lp_term_VarsOf_2 Q m2 0 (keysB ks) (keysB ks).length [] [] := by
    intro ks hnd hkl hmem
    refine rule_term_VarsOf_2 Q (fun n y m s row => y = keysB ks ∧ m = ks.length ∧ n = s.length ∧ s.Nodup ∧ (∀ j ∈ s, j < ks.length) ∧ s.length ≤ ks.length ∧ row = (s.reverse.map fun j => [V.s (ks.getD j ByteArray.empty)]))
      (fun n y m s row => ks.length - s.length) ?_ 0 (keysB ks) (keysB ks).length [] [] ⟨rfl, by simp [keysB], rfl, List.nodup_nil, by simp, by simp, rfl⟩
    rintro n y m s row ⟨rfl, rfl, rfl, hsn, hsl, hle, rfl⟩ M ih
    refine ⟨by simp [keysB], fun hall => ?_, fun j hj hjs hlt => ⟨by simp [keysB], by simp, ?_, ?_⟩⟩
    · have e : (s.reverse.map fun j => [V.s (ks.getD j ByteArray.empty)]) = (s.reverse.map fun j => ks.getD j ByteArray.empty).map fun x => [V.s x] := by rw [List.map_map]; rfl
      rw [e]
      refine slices_Sort_ok (s.reverse.map fun j => ks.getD j ByteArray.empty) s.length (by simp) (by unfold lim; omega) ⟨rfl, rfl, ?_, ?_⟩
      · show s.length = (List.map _ _).length
        rw [List.length_map, sort_len]; simp
      · have := hQ (s.reverse.map fun j => ks.getD j ByteArray.empty) ?_ ?_
        · have e2 : ((sortW (s.reverse.map fun j => ks.getD j ByteArray.empty)).map fun x => [V.s x]) = (sortL ((s.reverse.map fun j => ks.getD j ByteArray.empty).map fun x => x.data.toList)).map fun x => [V.s (byL x)] := by
            unfold sortW; rw [List.map_map]; rfl
          rw [e2] at this
          exact this
        · refine List.pairwise_map.2 ((List.pairwise_reverse.2 (hsn.imp fun h => Ne.symm h) : s.reverse.Nodup).imp_of_mem fun {a b} ha hb hab he => hab ?_)
          have ha' := hsl a (List.mem_reverse.1 ha)
          have hb' := hsl b (List.mem_reverse.1 hb)
          rw [List.getD_eq_getElem?_getD, List.getD_eq_getElem?_getD, List.getElem?_eq_getElem ha', List.getElem?_eq_getElem hb'] at he
          exact nodup_inj hnd ha' hb' he
        · intro x
          rw [← hmem x, List.mem_map]
          constructor
          · rintro ⟨j, hj, rfl⟩
            have hj' := hsl j (List.mem_reverse.1 hj)
            rw [List.getD_eq_getElem?_getD, List.getElem?_eq_getElem hj']
            exact List.getElem_mem hj'
          · intro hx
            obtain ⟨j, hj, rfl⟩ := List.mem_iff_getElem.1 hx
            exact ⟨j, List.mem_reverse.2 (hall j hj), by rw [List.getD_eq_getElem?_getD, List.getElem?_eq_getElem hj]; rfl⟩
    · show s.length + 1 ≤ lim
      unfold lim; omega
    · refine ih _ _ _ _ _ ⟨rfl, rfl, rfl, List.nodup_cons.2 ⟨hjs, hsn⟩, ?_, ?_, ?_⟩ ?_
      · intro a ha
        rcases List.mem_cons.1 ha with rfl | ha
        · exact hj
        · exact hsl a ha
      · show s.length + 1 ≤ _; omega
      · rw [keysB_getD ks j hj, List.reverse_cons, List.map_append]; rfl
      · show ks.length - (s.length + 1) < ks.length - s.length
        omega
  refine rule_term_VarsOf_0 Q (fun x n i y => x = Tm.encL l ∧ n = (l.length : Int) ∧ ∃ (k : Nat) (ks : List ByteArray), i = k ∧ k ≤ l.length ∧ y = keysB ks ∧ ks.Nodup ∧ ks.length ≤ Tm.sizeL (l.take k) ∧ ∀ z, z ∈ ks ↔ z ∈ varsIn (Tm.preL (l.take k)))
    (fun x n i y => (n - i).toNat) ?_ _ _ _ _ ⟨rfl, by rw [Tm.encL_length], 0, [], rfl, Nat.zero_le _, rfl, List.nodup_nil, Nat.zero_le _, fun z => by simp [Tm.preL, varsIn]⟩
  rintro x n i y ⟨rfl, rfl, k, ks, rfl, hk, rfl, hnd, hkl, hmem⟩ M ih
  unfold st_term_VarsOf_0
  refine iff_dec (fun hlt => ?_) (fun hge => ?_)
  · have hlt' : k < l.length := by omega
    have hmem' : l[k] ∈ l := List.getElem_mem hlt'
    refine ⟨by omega, by rw [Tm.encL_length]; exact hlt, ?_⟩
    rw [Int.toNat_natCast, Tm.encL_getD l k hlt', Tm.enc_eq]
    refine term_Walk_ok l[k] ⟨rfl, rfl, (l[k]).pre.map Tm.enc, Walk_iter l[k] (by have := Tm.sizeL_mem hmem'; omega), ?_⟩
    refine each_term_VarsOf_1 Q M _ _ _ _ _ (fun rows q => ∃ ss ks', rows = ss.map Tm.enc ∧ q = keysB ks' ∧ ks'.Nodup ∧ ks'.length + ss.length ≤ Tm.sizeL (l.take k) + (l[k]).size ∧ ∀ z, (z ∈ ks' ∨ z ∈ varsIn ss) ↔ (z ∈ ks ∨ z ∈ varsIn (l[k]).pre)) ?_ ?_ _ _ ⟨(l[k]).pre, ks, rfl, rfl, hnd, by rw [pre_length]; omega, fun z => Iff.rfl⟩
    · rintro r rs q ⟨ss, ks', hr, rfl, hnd', hl', hm'⟩ K hK
      cases ss with
      | nil => simp at hr
      | cons a ss =>
        simp only [List.map_cons, List.cons.injEq] at hr
        obtain ⟨rfl, rfl⟩ := hr
        rw [Tm.enc_eq]
        refine iff_intro (fun hv => ?_) (fun hv => ?_)
        · refine hK _ ⟨ss, addN ks' a.name, rfl, mset_keysB a.name ks', nodup_addN hnd', ?_, fun z => ?_⟩
          · have : (addN ks' a.name).length ≤ ks'.length + 1 := by
              by_cases h : a.name ∈ ks'
              · rw [addN_in h]; omega
              · rw [addN_out h]; simp
            simp only [List.length_cons] at hl'
            omega
          · rw [← hm' z, mem_addN]
            have hv' : a.var = true := hv
            have : varsIn (a :: ss) = a.name :: varsIn ss := by simp [varsIn, hv']
            rw [this, List.mem_cons]
            constructor
            · rintro ((h | h) | h)
              · exact .inl h
              · exact .inr (.inl h)
              · exact .inr (.inr h)
            · rintro (h | h | h)
              · exact .inl (.inl h)
              · exact .inl (.inr h)
              · exact .inr h
        · refine hK _ ⟨ss, ks', rfl, rfl, hnd', by simp only [List.length_cons] at hl'; omega, fun z => ?_⟩
          rw [← hm' z]
          have hv' : a.var = false := hv
          have : varsIn (a :: ss) = varsIn ss := by simp [varsIn, hv']
          rw [this]
    · rintro q ⟨ss, ks', hr, rfl, hnd', hl', hm'⟩
      have hss : ss = [] := by simpa using hr.symm
      subst hss
      rw [wrap_next k (by unfold big; omega)]
      refine ih _ _ _ _ ⟨rfl, rfl, k + 1, ks', rfl, hlt', rfl, hnd', ?_, fun z => ?_⟩ ?_
      · rw [Tm.sizeL_take l k hlt']; simpa using hl'
      · have := hm' z
        rw [List.take_succ_eq_append_getElem hlt', preL_append, varsIn_append, List.mem_append, ← hmem z]
        have e : Tm.preL [l[k]] = (l[k]).pre := by simp [Tm.preL]
        rw [e, ← this]
        simp [varsIn]
      · show ((l.length : Int) - ((k + 1 : Nat) : Int)).toNat < ((l.length : Int) - (k : Int)).toNat
        omega
  · have hkl' : k = l.length := by omega
    subst hkl'
    rw [List.take_length] at hkl hmem
    exact last ks hnd hkl hmem
end Go.Proofs.YtehchnjnbbnkbaaGreat
set_option linter.unusedVariables false
set_option linter.unusedSimpArgs false
namespace Go.Proofs.YtehchnjnbbnkbaaGreat
open Go Go.Abs
theorem term_CheckRules_ok (l : Ru) (hB : ∀ x ∈ l, x.1.size ≤ small ∧ x.2.size ≤ small) : Fn f_term_CheckRules [ruD l] (iD (rules l)) := fun Q hQ => by
  refine C_term_CheckRules _ _ fun hb => ?_
  have hl := encRs_length l
  rw [hl] at hb ⊢
  unfold rules at hQ
  refine iff_dec (fun h => ⟨trivial, ?_⟩) (fun h hb => ?_)
  · rw [if_pos (by omega)] at hQ; exact hQ
  · rw [if_neg (by omega)] at hQ
    refine range_term_CheckRules_0 Q _ _ hb (fun k => ∀ i (h : i < l.length), i < k → Tm.checkAll [(l[i]).1, (l[i]).2] = 0) (fun k hk hJ K hK => ?_) (fun hJ => ?_) 0 (Nat.zero_le _) (fun i _ h => by omega)
    · simp only [encRs_getD _ k hk, List.drop_zero, List.headD_cons, List.tail_cons]
      have hm := hB _ (List.getElem_mem hk)
      rw [show [[V.s (l[k]).1.name, V.b (l[k]).1.var, V.l (Tm.encL (l[k]).1.args)], [V.s (l[k]).2.name, V.b (l[k]).2.var, V.l (Tm.encL (l[k]).2.args)]] = Tm.encL [(l[k]).1, (l[k]).2] by simp [Tm.encL, Tm.enc_eq]]
      refine ⟨by omega, by omega, term_All_ok [(l[k]).1, (l[k]).2] (fun t ht => ?_) _ ⟨rfl, rfl, iff_bne (fun h2 => ⟨trivial, ?_⟩) (fun h2 => hK fun i hi hik => ?_)⟩⟩
      · simp only [List.mem_cons, List.not_mem_nil, or_false] at ht
        rcases ht with rfl | rfl
        · exact hm.1
        · exact hm.2
      · have h2 : Tm.checkAll [(l[k]).1, (l[k]).2] ≠ 0 := h2
        rw [rulesL_take hk (fun i hi => hJ i (by omega) hi) h2] at hQ
        exact hQ
      · rcases Nat.lt_succ_iff_lt_or_eq.1 hik with h8 | h8
        · exact hJ i hi h8
        · subst h8; exact h2
    · rw [rulesL_all fun i hi => hJ i hi hi] at hQ
      exact ⟨trivial, hQ⟩
theorem slices_Index_string_ok (l : List ByteArray) (x : ByteArray) : Fn f_slices_Index_string [nsD l, sD x] (iD (idx (fun y => decide (x = y)) l)) := fun Q hQ => by
  refine C_slices_Index_string _ _ _ fun hb => ?_
  have hl := encN_length l
  rw [hl] at hb ⊢
  refine range_slices_Index_string_0 Q _ _ _ hb (fun k => (l.take k).any (fun y => decide (x = y)) = false) (fun k hk hJ K hK => ?_) (fun hJ => ⟨trivial, ?_⟩) 0 (Nat.zero_le _) rfl
  · simp only [encN_getD _ k hk, List.drop_zero, List.headD_cons, V.str]
    refine ⟨by omega, by omega, ?_⟩
    rw [ba_beq]
    refine iff_intro (fun h => ⟨trivial, ?_⟩) (fun h => hK (any_take hk hJ h))
    rw [idx_at hk hJ h] at hQ
    exact hQ
  · rw [List.take_length] at hJ
    rw [idx_none hJ] at hQ
    exact hQ
theorem slices_Contains_string_ok (l : List ByteArray) (x : ByteArray) : Fn f_slices_Contains_string [nsD l, sD x] (bD (l.any fun y => decide (x = y))) := fun Q hQ => by
  refine C_slices_Contains_string _ _ _ ?_
  unfold vc_slices_Contains_string
  refine slices_Index_string_ok l x _ ⟨rfl, rfl, trivial, ?_⟩
  rw [← idx_any] at hQ
  exact hQ
theorem extra_1_ok (l : List ByteArray) (x : ByteArray) {Q : D → Heap → Prop} (hQ : Q (bD (!(l.any fun y => decide (x = y)))) [.cells [nsD l]]) : cl f_term_extra_1 [sD x, .ptr (.own 0) 0] [.cells [nsD l]] Q := by
  refine C_term_extra_1 _ _ _ ?_
  unfold vc_term_extra_1
  exact slices_Contains_string_ok l x _ ⟨rfl, rfl, trivial, hQ⟩
theorem IndexFunc_extra_ok (l m : List ByteArray) {Q : D → Heap → Prop} (hQ : Q (iD (idx (fun x => !(l.any fun y => decide (x = y))) m)) [.cells [nsD l]]) :
    cl f_slices_IndexFunc_string [nsD m, .fn f_term_extra_1 [.ptr (.own 0) 0]] [.cells [nsD l]] Q := by
  refine C_slices_IndexFunc_string_termextra1 _ _ _ fun hb => ?_
  have hl := encN_length m
  rw [hl] at hb ⊢
  refine range_slices_IndexFunc_string_termextra1_0 Q _ _ hb (fun k h => h = V.l (encN l) ∧ (m.take k).any (fun x => !(l.any fun y => decide (x = y))) = false) (fun k h hk hJ K hK => ?_) (fun h hJ => ⟨trivial, ?_⟩) 0 _ (Nat.zero_le _) ⟨rfl, rfl⟩
  · obtain ⟨rfl, hJ⟩ := hJ
    simp only [encN_getD _ k hk, List.drop_zero, List.headD_cons]
    refine ⟨by omega, by omega, extra_1_ok l m[k] ⟨rfl, rfl, iff_intro (fun h => ⟨trivial, ?_⟩) (fun h => hK _ ⟨rfl, any_take hk hJ h⟩)⟩⟩
    rw [idx_at hk hJ h] at hQ
    exact hQ
  · obtain ⟨rfl, hJ⟩ := hJ
    rw [List.take_length] at hJ
    rw [idx_none hJ] at hQ
    exact hQ
theorem ContainsFunc_extra_ok (l m : List ByteArray) {Q : D → Heap → Prop} (hQ : Q (bD (m.any fun x => !(l.any fun y => decide (x = y)))) [.cells [nsD l]]) :
    cl f_slices_ContainsFunc_string [nsD m, .fn f_term_extra_1 [.ptr (.own 0) 0]] [.cells [nsD l]] Q := by
  refine C_slices_ContainsFunc_string_termextra1 _ _ _ ?_
  unfold vc_slices_ContainsFunc_string_termextra1
  refine IndexFunc_extra_ok l m ⟨rfl, rfl, trivial, ?_⟩
  rw [← idx_any] at hQ
  exact hQ
def extraB (x : Tm × Tm) : Bool := x.1.var || (varsIn x.2.pre).any fun v => !hasN (varsIn x.1.pre) v
theorem term_extra_ok (x : Tm × Tm) (hB : x.1.size ≤ 4000 ∧ x.2.size ≤ 4000) : Fn f_term_extra [.agg [.v .str (.s x.1.name), .v .bool (.b x.1.var), .v (.sl t_Term) (.l (Tm.encL x.1.args)), .v .str (.s x.2.name), .v .bool (.b x.2.var), .v (.sl t_Term) (.l (Tm.encL x.2.args))]] (bD (extraB x)) := fun Q hQ => by
  refine C_term_extra _ _ _ _ _ _ _ ?_
  unfold vc_term_extra
  have e1 : ∀ t : Tm, [[V.s t.name, V.b t.var, V.l (Tm.encL t.args)]] = Tm.encL [t] := fun t => by simp [Tm.encL, Tm.enc_eq]
  have ep : ∀ t : Tm, Tm.preL [t] = t.pre := fun t => by simp [Tm.preL]
  rw [e1, e1]
  refine VarsOf_ok [x.1] (by simp [Tm.sizeL]; omega) fun ks _ hks => ⟨rfl, rfl, iff_intro (fun hv => ⟨trivial, ?_⟩) (fun hv => ?_)⟩
  · unfold extraB at hQ
    rw [hv] at hQ
    exact hQ
  · refine VarsOf_ok [x.2] (by simp [Tm.sizeL]; omega) fun ks2 _ hks2 => ⟨rfl, rfl, ?_⟩
    refine ContainsFunc_extra_ok (sortW ks) (sortW ks2) ⟨rfl, rfl, trivial, ?_⟩
    have e : ((sortW ks2).any fun z => !((sortW ks).any fun y => decide (z = y))) = extraB x := by
      unfold extraB
      rw [hv, Bool.false_or, Bool.eq_iff_iff]
      simp only [List.any_eq_true, Bool.not_eq_true', mem_sortW, hks2, ep, hasN_false]
      constructor
      · rintro ⟨z, hz, h⟩
        refine ⟨z, hz, fun hm => ?_⟩
        rw [← ep, ← hks] at hm
        have : ((sortW ks).any fun y => decide (z = y)) = true := List.any_eq_true.2 ⟨z, mem_sortW.2 hm, by simp⟩
        rw [this] at h; cases h
      · rintro ⟨z, hz, h⟩
        refine ⟨z, hz, ?_⟩
        rw [Bool.eq_false_iff]
        intro h2
        obtain ⟨y, hy, he⟩ := List.any_eq_true.1 h2
        have : z = y := by simpa using he
        subst this
        exact h (by rw [← ep, ← hks]; exact mem_sortW.1 hy)
    show Q (bD ((sortW ks2).any fun z => !((sortW ks).any fun y => decide (z = y)))) []
    rw [e]; exact hQ
theorem IndexFunc_Rule_ok (l : Ru) (hB : ∀ x ∈ l, x.1.size ≤ 4000 ∧ x.2.size ≤ 4000) : Fn f_slices_IndexFunc_Rule [ruD l, .fn f_term_extra []] (iD (idx extraB l)) := fun Q hQ => by
  refine C_slices_IndexFunc_Rule_termextra _ _ fun hb => ?_
  have hl := encRs_length l
  rw [hl] at hb ⊢
  refine range_slices_IndexFunc_Rule_termextra_0 Q _ _ hb (fun k => (l.take k).any extraB = false) (fun k hk hJ K hK => ?_) (fun hJ => ⟨trivial, ?_⟩) 0 (Nat.zero_le _) rfl
  · simp only [encRs_getD _ k hk, List.drop_zero, List.headD_cons, List.tail_cons]
    refine ⟨by omega, by omega, term_extra_ok l[k] (hB _ (List.getElem_mem hk)) _ ⟨rfl, rfl, iff_intro (fun h => ⟨trivial, ?_⟩) (fun h => hK (any_take hk hJ h))⟩⟩
    rw [idx_at hk hJ h] at hQ
    exact hQ
  · rw [List.take_length] at hJ
    rw [idx_none hJ] at hQ
    exact hQ
theorem ContainsFunc_Rule_ok (l : Ru) (hB : ∀ x ∈ l, x.1.size ≤ 4000 ∧ x.2.size ≤ 4000) : Fn f_slices_ContainsFunc_Rule [ruD l, .fn f_term_extra []] (bD (l.any extraB)) := fun Q hQ => by
  refine C_slices_ContainsFunc_Rule_termextra _ _ ?_
  unfold vc_slices_ContainsFunc_Rule_termextra
  refine IndexFunc_Rule_ok l hB _ ⟨rfl, rfl, trivial, ?_⟩
  rw [← idx_any] at hQ
  exact hQ
theorem term_Marked_ok (s : ByteArray) : Fn f_term_Marked [sD s] (bD (markedL s.data.toList)) := fun Q hQ => by
  refine C_term_Marked _ _ ?_
  unfold vc_term_Marked
  refine C_strings_HasSuffix _ _ _ ?_
  unfold vc_strings_HasSuffix
  refine stringslite_HasSuffix_ok s (ByteArray.mk #[35]) _ ⟨rfl, rfl, trivial, rfl, rfl, trivial, ?_⟩
  have e : decide ((ByteArray.mk #[35]).data.toList <:+ s.data.toList) = markedL s.data.toList := by
    rw [Bool.eq_iff_iff, decide_eq_true_iff]; exact hash_suffix _
  show Q (bD (decide ((ByteArray.mk #[35]).data.toList <:+ s.data.toList))) []
  rw [e]; exact hQ
abbrev Ar := List (ByteArray × Nat)
def encM (m : Ar) : LL := m.map fun p => [V.s p.1, V.i p.2]
def lookM (m : Ar) (x : ByteArray) : Option Nat := (m.find? fun p => decide (x = p.1)).map (·.2)
def addM (m : Ar) (x : ByteArray) (n : Nat) : Ar := if (lookM m x).isSome then m else m ++ [(x, n)]
theorem mlook_encM (x : ByteArray) : ∀ m : Ar, mlook [.str] [V.s x] (encM m) = (lookM m x).map fun n => [V.i n]
  | [] => rfl
  | p :: m => by
    have e : encM (p :: m) = [V.s p.1, V.i p.2] :: encM m := rfl
    rw [e, mlook, keyEqS]
    unfold lookM
    rw [List.find?_cons]
    by_cases h : x = p.1
    · rw [decide_eq_true h]; rfl
    · rw [decide_eq_false h]
      exact mlook_encM x m
theorem mhas_encM (x : ByteArray) (m : Ar) : mhas [.str] [V.s x] (encM m) = (lookM m x).isSome := by
  unfold mhas; rw [mlook_encM]; cases lookM m x <;> rfl
theorem mget_encM {x : ByteArray} {m : Ar} {n : Nat} (h : lookM m x = some n) : mget [.str] [V.i 0] [V.s x] (encM m) = [V.i n] := by
  unfold mget; rw [mlook_encM, h]; rfl
theorem mset_encM (x : ByteArray) (n : Nat) : ∀ m : Ar, (lookM m x = none ∨ lookM m x = some n) → mset [.str] [V.s x] [V.i n] (encM m) = encM (addM m x n)
  | [], _ => rfl
  | p :: m, h => by
    have e : encM (p :: m) = [V.s p.1, V.i p.2] :: encM m := rfl
    rw [e, mset, keyEqS]
    have e2 : lookM (p :: m) x = if x = p.1 then some p.2 else lookM m x := by
      unfold lookM
      rw [List.find?_cons]
      by_cases hx : x = p.1
      · rw [decide_eq_true hx, if_pos hx]; rfl
      · rw [decide_eq_false hx, if_neg hx]
    by_cases hx : x = p.1
    · rw [e2, if_pos hx] at h
      have hn : p.2 = n := by
        rcases h with h | h
        · cases h
        · exact Option.some.inj h
      have : addM (p :: m) x n = p :: m := by
        unfold addM; rw [e2, if_pos hx]; rfl
      rw [decide_eq_true hx, this]
      subst hx hn
      rfl
    · rw [e2, if_neg hx] at h
      rw [decide_eq_false hx]
      show _ :: mset _ _ _ (encM m) = _
      rw [mset_encM x n m h]
      have : addM (p :: m) x n = p :: addM m x n := by
        unfold addM; rw [e2, if_neg hx]
        split <;> rfl
      rw [this]; rfl
def nv (l : List Tm) : List Tm := l.filter fun s => !s.var
def arOk (l : List Tm) : Prop := ∀ s ∈ l, ∀ t ∈ l, s.name = t.name → s.args.length = t.args.length
def InvM (ps : List Tm) (m : Ar) : Prop := (∀ p ∈ m, ∃ s ∈ ps, s.name = p.1 ∧ s.args.length = p.2) ∧ ∀ s ∈ ps, ∃ p ∈ m, p.1 = s.name ∧ p.2 = s.args.length
def GoodM (N rem : List Tm) (m : Ar) : Prop := ∃ ps, N = ps ++ nv rem ∧ arOk ps ∧ InvM ps m ∧ m.length ≤ ps.length
theorem lookM_some {m : Ar} {x : ByteArray} {n : Nat} (h : lookM m x = some n) : (x, n) ∈ m := by
  unfold lookM at h
  cases hf : m.find? fun p => decide (x = p.1) with
  | none => rw [hf] at h; cases h
  | some p =>
    rw [hf] at h
    have h1 := List.mem_of_find?_eq_some hf
    have h2 : x = p.1 := by simpa using List.find?_some hf
    have h3 : p.2 = n := Option.some.inj h
    subst h2 h3
    exact h1
theorem lookM_none {m : Ar} {x : ByteArray} (h : lookM m x = none) : ∀ p ∈ m, p.1 ≠ x := by
  intro p hp he
  unfold lookM at h
  rw [Option.map_eq_none_iff, List.find?_eq_none] at h
  have := h p hp
  simp [he] at this
theorem good_var {N rem : List Tm} {m : Ar} {s : Tm} (h : GoodM N (s :: rem) m) (hv : s.var = true) : GoodM N rem m := by
  obtain ⟨ps, h1, h2⟩ := h
  exact ⟨ps, by rw [h1]; simp [nv, hv], h2⟩
theorem good_bad {N rem : List Tm} {m : Ar} {s : Tm} {n : Nat} (h : GoodM N (s :: rem) m) (hv : s.var = false) (hl : lookM m s.name = some n) (hn : n ≠ s.args.length) : ¬ arOk N := by
  obtain ⟨ps, h1, h2, h3, _⟩ := h
  intro ha
  obtain ⟨t, ht, e1, e2⟩ := h3.1 _ (lookM_some hl)
  have hs : s ∈ N := by rw [h1]; simp [nv, hv]
  have htN : t ∈ N := by rw [h1]; simp [ht]
  have := ha t htN s hs e1
  exact hn (e2.symm.trans this)
theorem good_next {N rem : List Tm} {m : Ar} {s : Tm} (h : GoodM N (s :: rem) m) (hv : s.var = false) (hl : lookM m s.name = none ∨ lookM m s.name = some s.args.length) : GoodM N rem (addM m s.name s.args.length) := by
  obtain ⟨ps, h1, h2, h3, h4⟩ := h
  have hcons : ∀ t ∈ ps, t.name = s.name → t.args.length = s.args.length := fun t ht he => by
    obtain ⟨p, hp, e1, e2⟩ := h3.2 t ht
    rcases hl with hl | hl
    · exact absurd (e1.trans he) (lookM_none hl p hp)
    · obtain ⟨t2, ht2, f1, f2⟩ := h3.1 _ (lookM_some hl)
      have := h2 t ht t2 ht2 (by rw [he, f1])
      rw [this, f2]
  refine ⟨ps ++ [s], by rw [h1]; simp [nv, hv], fun a ha b hb he => ?_, ⟨fun p hp => ?_, fun t ht => ?_⟩, ?_⟩
  · rcases List.mem_append.1 ha with ha1 | ha1 <;> rcases List.mem_append.1 hb with hb1 | hb1
    · exact h2 a ha1 b hb1 he
    · have e2 : b = s := by simpa using hb1
      rw [e2] at he ⊢
      exact hcons a ha1 he
    · have e1 : a = s := by simpa using ha1
      rw [e1] at he ⊢
      exact (hcons b hb1 he.symm).symm
    · have e1 : a = s := by simpa using ha1
      have e2 : b = s := by simpa using hb1
      rw [e1, e2]
  · unfold addM at hp
    split at hp
    · obtain ⟨t, ht, e⟩ := h3.1 p hp
      exact ⟨t, by simp [ht], e⟩
    · rcases List.mem_append.1 hp with hp | hp
      · obtain ⟨t, ht, e⟩ := h3.1 p hp
        exact ⟨t, by simp [ht], e⟩
      · have : p = (s.name, s.args.length) := by simpa using hp
        subst this
        exact ⟨s, by simp, rfl, rfl⟩
  · have key : ∀ q ∈ m, q ∈ addM m s.name s.args.length := fun q hq => by
      unfold addM; split
      · exact hq
      · simp [hq]
    rcases List.mem_append.1 ht with ht | ht
    · obtain ⟨p, hp, e⟩ := h3.2 t ht
      exact ⟨p, key p hp, e⟩
    · have : t = s := by simpa using ht
      subst this
      rcases hl with hl | hl
      · refine ⟨(t.name, t.args.length), ?_, rfl, rfl⟩
        unfold addM; rw [hl]; simp
      · exact ⟨_, key _ (lookM_some hl), rfl, rfl⟩
  · unfold addM
    split
    · simp; omega
    · simp; omega
end Go.Proofs.YtehchnjnbbnkbaaGreat
set_option linter.unusedVariables false
set_option linter.unusedSimpArgs false
namespace Go.Proofs.YtehchnjnbbnkbaaGreat
open Go Go.Abs
def sides (l : Ru) : List Tm := l.flatMap fun x => [x.1, x.2]
def nodesR (l : Ru) : List Tm := nv (Tm.preL (sides l))
theorem sides_cons (x : Tm × Tm) (l : Ru) : sides (x :: l) = x.1 :: x.2 :: sides l := rfl
theorem Arities_ok (l : Ru) (hB : ∀ x ∈ l, x.1.size ≤ 4000 ∧ x.2.size ≤ 4000) {Q : D → Heap → Prop} (hQ1 : arOk (nodesR l) → ∀ m : Ar, InvM (nodesR l) m → m.length ≤ (nodesR l).length → Q (.tup [.v (.mp mt_9_3) (.l (encM m)), .v .bool (.b true)]) [])
    (hQ2 : ¬ arOk (nodesR l) → Q (.tup [.v (.mp mt_9_3) (.l []), .v .bool (.b false)]) []) : cl f_term_Arities [ruD l] [] Q := by
  refine C_term_Arities _ _ fun hb => ?_
  have hl := encRs_length l
  rw [hl] at hb ⊢
  generalize hN : nodesR l = N at hQ1 hQ2
  refine rule_term_Arities_0 Q (fun x n i y q => x = encRs l ∧ n = (l.length : Int) ∧ y = false ∧ ∃ (k : Nat) (m : Ar), i = k ∧ k ≤ l.length ∧ q = encM m ∧ GoodM N (Tm.preL (sides (l.drop k))) m)
    (fun x n i y q => (n - i).toNat) ?_ _ _ _ _ _ ⟨rfl, rfl, rfl, 0, [], rfl, Nat.zero_le _, rfl, [], by simpa [nodesR] using hN.symm, fun s hs => by simp at hs, ⟨by simp, by simp⟩, by simp⟩
  rintro x n i y q ⟨rfl, rfl, rfl, k, m, rfl, hk, rfl, hg⟩ M ih
  unfold st_term_Arities_0
  refine iff_dec (fun hlt => ?_) (fun hge => ⟨⟨trivial, trivial, trivial⟩, ?_⟩)
  · have hlt' : k < l.length := by omega
    have hmem := hB _ (List.getElem_mem hlt')
    refine ⟨by omega, by rw [hl]; exact hlt, ?_⟩
    rw [Int.toNat_natCast]
    simp only [encRs_getD _ k hlt', List.drop_zero, List.headD_cons, List.tail_cons]
    rw [List.drop_eq_getElem_cons hlt', sides_cons] at hg
    generalize hx : l[k] = x at hg hmem
    -- what follows the two sides
    have next : ∀ m', GoodM N (Tm.preL (sides (l.drop (k + 1)))) m' → lp_term_Arities_0 Q M (encRs l) (l.length : Int) (IntKind.i64.wrap ((k : Int) + (1 : Int))) false (encM m') := fun m' hm' => by
      rw [wrap_next k (by omega)]
      refine ih _ _ _ _ _ ⟨rfl, rfl, rfl, k + 1, m', rfl, hlt', rfl, hm'⟩ ?_
      show ((l.length : Int) - ((k + 1 : Nat) : Int)).toNat < ((l.length : Int) - (k : Int)).toNat
      omega
    refine rule_term_Arities_1 Q M (fun a b c d0 d1 d2 d3 d4 d5 i y q => a = encRs l ∧ b = (l.length : Int) ∧ c = (k : Int) ∧ d0 = V.s x.1.name ∧ d1 = V.b x.1.var ∧ d2 = V.l (Tm.encL x.1.args) ∧ d3 = V.s x.2.name ∧ d4 = V.b x.2.var ∧ d5 = V.l (Tm.encL x.2.args) ∧ y = false ∧
        ∃ (j : Nat) (m : Ar), i = j ∧ j ≤ 2 ∧ q = encM m ∧ GoodM N (Tm.preL ([x.1, x.2].drop j) ++ Tm.preL (sides (l.drop (k + 1)))) m)
      (fun a b c d0 d1 d2 d3 d4 d5 i y q => (2 - i).toNat) ?_ _ _ _ _ _ _ _ _ _ _ _ _ ⟨rfl, rfl, rfl, rfl, rfl, rfl, rfl, rfl, rfl, rfl, 0, m, rfl, by omega, rfl, by simpa [Tm.preL, List.append_assoc] using hg⟩
    rintro a b c d0 d1 d2 d3 d4 d5 i y q ⟨rfl, rfl, rfl, rfl, rfl, rfl, rfl, rfl, rfl, rfl, j, m', rfl, hj, rfl, hg'⟩ M1 ih1
    unfold st_term_Arities_1
    -- one side
    have side : ∀ (t : Tm) (rem : List Tm) (hj2 : j < 2) (hts : t.size ≤ 4000) (hg2 : GoodM N (t.pre ++ rem) m') (hrem : rem = Tm.preL ([x.1, x.2].drop (j + 1)) ++ Tm.preL (sides (l.drop (k + 1)))),
        cl f_term_Walk [tD t] [] fun r1 H2 => r1 = (.fn f_term_Walk_1 [.elt t_Term ((r1.capsOf.headD .undef).eltOf) 0]) ∧ H2 = [] ∧ ∃ rows : LL, itA 77 [.elt t_Term ((r1.capsOf.headD .undef).eltOf) 0] rows ∧ rg_term_Arities_2 Q M M1 (encRs l) (l.length : Int) (k : Int) (V.s x.1.name) (V.b x.1.var) (V.l (Tm.encL x.1.args)) (V.s x.2.name) (V.b x.2.var) (V.l (Tm.encL x.2.args)) (j : Int) ((r1.capsOf.headD .undef).eltOf) false (encM m') false (encM m') rows := by
      intro t rem hj2 hts hg2 hrem
      refine term_Walk_ok t ⟨rfl, rfl, t.pre.map Tm.enc, Walk_iter t (by omega), ?_⟩
      refine each_term_Arities_2 Q M M1 _ _ _ _ _ _ _ _ _ _ _ _ _ (fun rows y q => ∃ ss m, rows = ss.map Tm.enc ∧ y = false ∧ q = encM m ∧ GoodM N (ss ++ rem) m) ?_ ?_ _ _ _ ⟨t.pre, m', rfl, rfl, rfl, hg2⟩
      · rintro r rs y q ⟨ss, m2, hr, rfl, rfl, hm2⟩ K hK
        cases ss with
        | nil => simp at hr
        | cons s ss =>
          simp only [List.map_cons, List.cons.injEq] at hr
          obtain ⟨rfl, rfl⟩ := hr
          rw [Tm.enc_eq]
          refine iff_intro (fun hv => hK _ _ ⟨ss, m2, rfl, rfl, rfl, good_var hm2 hv⟩) (fun hv => ?_)
          have hv' : s.var = false := hv
          have hlen : (Tm.encL s.args).length = s.args.length := Tm.encL_length _
          show iff (mhas [.str] [V.s s.name] (encM m2)) ((Tm.encL s.args).length ≤ big → iff ((((mget [.str] [V.i 0] [V.s s.name] (encM m2)).headD V.none).int) != ((Tm.encL s.args).length : Int)) _ ((Tm.encL s.args).length ≤ big → K false (mset [.str] [V.s s.name] [V.i ((Tm.encL s.args).length : Int)] (encM m2)))) ((Tm.encL s.args).length ≤ big → K false (mset [.str] [V.s s.name] [V.i ((Tm.encL s.args).length : Int)] (encM m2)))
          rw [mhas_encM, hlen]
          cases hlk : lookM m2 s.name with
          | none =>
            refine fun _ => ?_
            rw [mset_encM _ _ _ (.inl hlk)]
            exact hK _ _ ⟨ss, _, rfl, rfl, rfl, good_next hm2 hv' (.inl hlk)⟩
          | some w =>
            refine fun _ => ?_
            rw [mget_encM hlk]
            refine iff_bne (fun hne => ⟨⟨trivial, trivial, trivial⟩, hQ2 (good_bad hm2 hv' hlk ?_)⟩) (fun heq _ => ?_)
            · intro h
              apply hne
              show ((w : Nat) : Int) = _
              rw [h]
            · have hw : w = s.args.length := by
                have : ((w : Nat) : Int) = ((s.args.length : Nat) : Int) := heq
                omega
              rw [hw] at hlk
              rw [mset_encM _ _ _ (.inr hlk)]
              exact hK _ _ ⟨ss, _, rfl, rfl, rfl, good_next hm2 hv' (.inr hlk)⟩
      · rintro y q ⟨ss, m2, hr, rfl, rfl, hm2⟩
        have hss : ss = [] := by simpa using hr.symm
        subst hss
        rw [wrap_next j (by unfold big; omega)]
        refine ih1 _ _ _ _ _ _ _ _ _ _ _ _ ⟨rfl, rfl, rfl, rfl, rfl, rfl, rfl, rfl, rfl, rfl, j + 1, m2, rfl, hj2, rfl, by rw [← hrem]; simpa using hm2⟩ ?_
        show ((2 : Int) - ((j + 1 : Nat) : Int)).toNat < ((2 : Int) - (j : Int)).toNat
        omega
    refine iff_dec (fun hlt2 => ?_) (fun hge2 => ?_)
    · refine ⟨by omega, hlt2, ?_⟩
      match j, hg', ih1, side, hlt2 with
      | 0, hg', ih1, side, _ => exact side x.1 (Tm.preL [x.2] ++ Tm.preL (sides (l.drop (k + 1)))) (by omega) hmem.1 (by simpa [Tm.preL, List.append_assoc] using hg') rfl
      | 1, hg', ih1, side, _ => exact side x.2 (Tm.preL [] ++ Tm.preL (sides (l.drop (k + 1)))) (by omega) hmem.2 (by simpa [Tm.preL, List.append_assoc] using hg') rfl
      | j + 2, hg', ih1, side, h => exact absurd h (by omega)
    · have hj2 : j = 2 := by omega
      subst hj2
      exact next m' (by simpa [Tm.preL] using hg')
  · have hkl : k = l.length := by omega
    subst hkl
    rw [List.drop_length] at hg
    obtain ⟨ps, h1, h2, h3, h4⟩ := hg
    have hps : N = ps := by rw [h1]; simp [sides, Tm.preL, nv]
    subst hps
    exact hQ1 h2 m h3 h4
theorem rulesL_zero {l : Ru} (h : rulesL l = 0) : ∀ x ∈ l, x.1.check = 0 ∧ x.2.check = 0 := by
  induction l with
  | nil => intro x hx; simp at hx
  | cons y r ih =>
    intro x hx
    unfold rulesL at h
    by_cases hc : Tm.checkAll [y.1, y.2] = 0
    · rw [if_neg (by simp [hc])] at h
      rcases List.mem_cons.1 hx with rfl | hx
      · have := Tm.checkAll_zero.1 hc
        exact ⟨this _ (by simp), this _ (by simp)⟩
      · exact ih h x hx
    · rw [if_pos hc] at h; exact absurd h hc
theorem rules_zero {l : Ru} (h : rules l = 0) : l.length ≤ 64 ∧ ∀ x ∈ l, x.1.check = 0 ∧ x.2.check = 0 := by
  unfold rules at h
  split at h
  · cases h
  · exact ⟨by omega, rulesL_zero h⟩
open Classical in
noncomputable def sysE (l : Ru) : Int := if rules l ≠ 0 then rules l else if arOk (nodesR l) ∧ (∀ s ∈ nodesR l, markedL s.name.data.toList = false) then (if l.any extraB then 7 else 0) else 6
theorem term_CheckSystem_ok (l : Ru) (hB : ∀ x ∈ l, x.1.size ≤ small ∧ x.2.size ≤ small) : Fn f_term_CheckSystem [ruD l] (iD (sysE l)) := fun Q hQ => by
  refine C_term_CheckSystem _ _ ?_
  unfold vc_term_CheckSystem
  unfold sysE at hQ
  refine term_CheckRules_ok l hB _ ⟨rfl, rfl, iff_bne (fun h => ⟨trivial, ?_⟩) (fun h => ?_)⟩
  · have h' : rules l ≠ 0 := h
    rw [if_pos h'] at hQ; exact hQ
  have hr : rules l = 0 := h
  rw [if_neg (by simp [hr])] at hQ
  obtain ⟨hlen, hck⟩ := rules_zero hr
  have hS : ∀ x ∈ l, x.1.size ≤ 4000 ∧ x.2.size ≤ 4000 := fun x hx => ⟨(Tm.check_zero.1 (hck x hx).1).2.1, (Tm.check_zero.1 (hck x hx).2).2.1⟩
  refine Arities_ok l hS (fun ha m hm hml => ⟨rfl, rfl, ?_⟩) (fun ha => ⟨rfl, rfl, ?_⟩)
  · show iff (!true) _ _
    refine rule_term_CheckSystem_0 Q (fun a y n s => a = encRs l ∧ y = V.l (encM m) ∧ n = m.length ∧ (∀ j ∈ s, j < m.length) ∧ ∀ j ∈ s, markedL ((m.getD j (ByteArray.empty, 0)).1).data.toList = false)
      (fun a y n s => n - s.length) ?_ _ _ _ _ ⟨rfl, rfl, by simp [encM, D.parts, D.V, V.list], by simp, by simp⟩
    rintro a y n s ⟨rfl, rfl, rfl, hsl, hsm⟩ M ih
    have hml' : (encM m).length = m.length := by simp [encM]
    refine ⟨hml', fun hall => ?_, fun j hj hjs hlt => ⟨hml', ?_⟩⟩
    · have hnm : ∀ t ∈ nodesR l, markedL t.name.data.toList = false := fun t ht => by
        obtain ⟨p, hp, e1, _⟩ := hm.2 t ht
        obtain ⟨j, hj, rfl⟩ := List.mem_iff_getElem.1 hp
        have := hsm j (hall j hj)
        rw [List.getD_eq_getElem?_getD, List.getElem?_eq_getElem hj] at this
        rw [← e1]; exact this
      rw [if_pos ⟨ha, hnm⟩] at hQ
      refine ContainsFunc_Rule_ok l hS _ ⟨rfl, rfl, iff_intro (fun hb => ⟨trivial, ?_⟩) (fun hb => ⟨trivial, ?_⟩)⟩
      · have hb' : l.any extraB = true := hb
        rw [if_pos hb'] at hQ; exact hQ
      · have hb' : l.any extraB = false := hb
        rw [if_neg (by simp [hb'])] at hQ; exact hQ
    · have e : (encM m).getD j [] = [V.s (m.getD j (ByteArray.empty, 0)).1, V.i (m.getD j (ByteArray.empty, 0)).2] := by
        unfold encM
        rw [List.getD_eq_getElem?_getD, List.getElem?_map, List.getD_eq_getElem?_getD, List.getElem?_eq_getElem hj]; rfl
      show cl f_term_Marked [.v .str (((encM m).getD j []).headD V.none)] [] _
      rw [e]
      refine term_Marked_ok _ _ ⟨rfl, rfl, iff_intro (fun hb => ⟨trivial, ?_⟩) (fun hb => ?_)⟩
      · have hb' : markedL ((m.getD j (ByteArray.empty, 0)).1).data.toList = true := hb
        have hp : m.getD j (ByteArray.empty, 0) ∈ m := by
          rw [List.getD_eq_getElem?_getD, List.getElem?_eq_getElem hj]; exact List.getElem_mem hj
        obtain ⟨t, ht, e1, _⟩ := hm.1 _ hp
        rw [if_neg (fun h => by have := h.2 t ht; rw [e1, hb'] at this; cases this)] at hQ
        exact hQ
      · refine ih _ _ _ _ ⟨rfl, rfl, rfl, fun i hi => ?_, fun i hi => ?_⟩ ?_
        · rcases List.mem_cons.1 hi with rfl | hi
          · exact hj
          · exact hsl i hi
        · rcases List.mem_cons.1 hi with rfl | hi
          · exact hb
          · exact hsm i hi
        · show m.length - (s.length + 1) < m.length - s.length
          omega
  · show iff (!false) _ _
    rw [if_neg (fun h => ha h.1)] at hQ
    exact ⟨trivial, hQ⟩
end Go.Proofs.YtehchnjnbbnkbaaGreat
set_option linter.unusedVariables false
set_option linter.unusedSimpArgs false
namespace Go.Proofs.YtehchnjnbbnkbaaGreat
open Go Go.Abs
def okS (ps : List Tm) : Prop := arOk ps ∧ ∀ s ∈ ps, markedL s.name.data.toList = false
def sortA (l : Ar) : Prop := l.Pairwise fun p q => cmpN p.1 q.1 = -1
def InvS (ps : List Tm) (l : Ar) : Prop := okS ps ∧ sortA l ∧ InvM ps l ∧ l.length ≤ ps.length
end Go.Proofs.YtehchnjnbbnkbaaGreat
set_option linter.unusedVariables false
set_option linter.unusedSimpArgs false
namespace Go.Proofs.YtehchnjnbbnkbaaGreat
open Go Go.Abs
def cnt (l : List Tm) (v : ByteArray) : Nat := (l.filter fun s => s.var && decide (s.name = v)).length
end Go.Proofs.YtehchnjnbbnkbaaGreat
set_option linter.unusedVariables false
set_option linter.unusedSimpArgs false
namespace Go.Proofs.YtehchnjnbbnkbaaGreat
open Go Go.Abs
end Go.Proofs.YtehchnjnbbnkbaaGreat
set_option linter.unusedVariables false
set_option linter.unusedSimpArgs false
namespace Go.Proofs.YtehchnjnbbnkbaaGreat
open Go.Abs
def encP (p : List Int) : List (List V) := p.map fun i => [.i i]
abbrev psD (p : List Int) : D := .v (.sl t_int) (.l (encP p))
theorem encP_length (p : List Int) : (encP p).length = p.length := by simp [encP]
theorem encP_getD (p : List Int) (k : Nat) (h : k < p.length) : (encP p).getD k [] = [.i p[k]] := by
  rw [encP, List.getD_eq_getElem?_getD, List.getElem?_map, List.getElem?_eq_getElem h]; rfl
namespace Tm
def dflt : Tm := mk bz false []
def at_ : Tm → List Int → Option Tm
  | t, [] => some t
  | t, i :: p => if i < 0 then none else if i ≥ (t.args.length : Int) then none else at_ (t.args.getD i.toNat dflt) p
def put : Tm → List Int → Tm → Tm
  | _, [], u => u
  | t, i :: p, u => mk t.name false (t.args.set i.toNat (put (t.args.getD i.toNat dflt) p u))
end Tm
def opD : Option Tm → D
  | none => .tup [tD Tm.dflt, bD false]
  | some t => .tup [tD t, bD true]
theorem r01_At_ok (t : Tm) (p : List Int) : Fn f_r01_At [tD t, psD p] (opD (Tm.at_ t p)) := Fn.as fun Q hQ => by
  refine C_r01_At _ _ _ _ _ ?_
  unfold vc_r01_At
  intro hb
  have hl := encP_length p
  rw [hl] at hb ⊢
  have none_ : Tm.at_ t p = none → Q (.tup [.agg [.v .str (V.s (ByteArray.mk #[])), .v .bool (V.b false), .nil], .v .bool (V.b false)]) [] := fun h => by
    rw [h] at hQ; exact hQ _ (.pair (.last3 _ _ _) (.refl _))
  refine range_r01_At_0 Q _ _ _ _ hb (fun k y0 y1 y2 => ∃ s : Tm, y0 = .s s.name ∧ y1 = .b s.var ∧ y2 = .l (Tm.encL s.args) ∧ Tm.at_ s (p.drop k) = Tm.at_ t p) (fun k y0 y1 y2 hk hJ m0 hK => ?_) (fun y0 y1 y2 hJ => ?_) 0 _ _ _ (Nat.zero_le _) ⟨t, rfl, rfl, rfl, rfl⟩
  · obtain ⟨s, rfl, rfl, rfl, hs⟩ := hJ
    simp only [encP_getD _ k hk, List.drop_zero, List.headD_cons, List.tail_cons, V.int, V.list]
    rw [List.drop_eq_getElem_cons hk] at hs
    simp only [Tm.at_] at hs
    have hsl := Tm.encL_length s.args
    refine ⟨by omega, by omega, iff_dec (fun h => ⟨⟨⟨trivial, trivial, trivial, trivial⟩, trivial, trivial⟩, ?_⟩) (fun h _ => ?_)⟩
    · rw [if_pos h] at hs
      exact none_ hs.symm
    · rw [if_neg h] at hs
      rw [hsl]
      refine iff_dec (fun h2 => ⟨⟨⟨trivial, trivial, trivial, trivial⟩, trivial, trivial⟩, ?_⟩) (fun h2 => ?_)
      · rw [if_pos h2] at hs
        exact none_ hs.symm
      · rw [if_neg h2] at hs
        rw [jp_r01_At_0_s]
        unfold je_r01_At_0
        simp only [V.int, V.list]
        have hj : (p[k]).toNat < s.args.length := by omega
        refine ⟨by omega, by omega, ?_⟩
        rw [Tm.encL_getD _ _ hj]
        simp only [Tm.enc_eq, List.drop_zero, List.headD_cons, List.tail_cons]
        refine hK _ _ _ ⟨s.args[(p[k]).toNat], rfl, rfl, rfl, ?_⟩
        rw [← hs, List.getD_eq_getElem?_getD, List.getElem?_eq_getElem hj]; rfl
  · obtain ⟨s, rfl, rfl, rfl, hs⟩ := hJ
    rw [List.drop_length] at hs
    refine ⟨⟨⟨trivial, trivial, trivial, trivial⟩, trivial, trivial⟩, ?_⟩
    rw [← hs] at hQ
    exact hQ _ (.refl _)
theorem r01_Put_ok : ∀ (p : List Int) (t u : Tm), Tm.at_ t p ≠ none → t.args.length ≤ lim → t.size ≤ lim → Fn f_r01_Put [tD t, psD p, tD u] (tD (Tm.put t p u))
  | [], t, u, _, _, _ => fun Q hQ => by
    refine C_r01_Put _ _ _ _ _ _ _ _ ?_
    unfold vc_r01_Put
    exact fun _ => iff_beq (fun _ => ⟨⟨trivial, trivial, trivial, trivial⟩, hQ⟩) (fun h => absurd rfl h)
  | i :: p, t, u, ha, hB, hS => fun Q hQ => by
    refine C_r01_Put _ _ _ _ _ _ _ _ ?_
    unfold vc_r01_Put
    intro hb
    have hl := encP_length (i :: p)
    have hl' : (encP (i :: p)).length = p.length + 1 := hl
    rw [big_eq] at hb
    simp only [Tm.at_] at ha
    have h1 : ¬ i < 0 := fun h => by rw [if_pos h] at ha; exact ha rfl
    rw [if_neg h1] at ha
    have h2 : ¬ i ≥ (t.args.length : Int) := fun h => by rw [if_pos h] at ha; exact ha rfl
    rw [if_neg h2] at ha
    have hi : i.toNat < t.args.length := by omega
    have htl := Tm.encL_length t.args
    have e0 : (encP (i :: p)).getD ((0 : Int)).toNat [] = [.i i] := rfl
    have e1 : ((encP (i :: p)).take (((encP (i :: p)).length : Int)).toNat).drop (1 : Int).toNat = encP p := by
      rw [Int.toNat_natCast, List.take_length]; rfl
    have eg : t.args.getD i.toNat Tm.dflt = t.args[i.toNat] := by rw [List.getD_eq_getElem?_getD, List.getElem?_eq_getElem hi]; rfl
    rw [eg] at ha
    simp only [e0, e1, List.nil_append, Nat.zero_add, List.drop_zero, List.headD_cons, V.int, Tm.encL_getD _ _ hi, Tm.enc_eq, List.tail_cons]
    have hm := Tm.size_mem (List.getElem_mem hi)
    have hal := Tm.length_sizeL (t.args[i.toNat]).args
    have has := Tm.size_eq (t.args[i.toNat])
    refine iff_beq (fun h => by omega) (fun _ => ?_)
    repeat' (first | (refine ⟨(by first | omega | rfl | simp), ?_⟩) | (refine ⟨tD (Tm.put (t.args[i.toNat]) p u), (r01_Put_ok p _ u ha (by omega) (by omega)).here rfl, ?_⟩) | (refine ⟨⟨trivial, trivial, by simp, trivial⟩, ?_⟩) | fail)
    simp only [Tm.put] at hQ
    rw [eg] at hQ
    have : (Tm.encL t.args).set i.toNat (setV [.s (t.args[i.toNat]).name, .b (t.args[i.toNat]).var, .l (Tm.encL (t.args[i.toNat]).args)] 0 [.s (Tm.put (t.args[i.toNat]) p u).name, .b (Tm.put (t.args[i.toNat]) p u).var, .l (Tm.encL (Tm.put (t.args[i.toNat]) p u).args)]) = Tm.encL (t.args.set i.toNat (Tm.put (t.args[i.toNat]) p u)) := by
      rw [Tm.encL_eq (List.set _ _ _), List.map_set, ← Tm.encL_eq, Tm.enc_eq (Tm.put _ _ _)]
      rfl
    exact this ▸ hQ
end Go.Proofs.YtehchnjnbbnkbaaGreat
set_option linter.unusedVariables false
set_option linter.unusedSimpArgs false
namespace Go.Proofs.YtehchnjnbbnkbaaGreat
open Go.Abs
inductive Gt (r : ByteArray → Int) : Tm → Tm → Prop
  | arg (s t : Tm) : s.var = false → t ∈ s.args → Gt r s t
  | sub (s t a : Tm) : s.var = false → a ∈ s.args → Gt r a t → Gt r s t
  | prec (s t : Tm) : s.var = false → t.var = false → r t.name < r s.name → (∀ b ∈ t.args, Gt r s b) → Gt r s t
  | lex (s t a b : Tm) (i : Nat) : s.var = false → t.var = false → s.name = t.name → s.args.length = t.args.length → (∀ b ∈ t.args, Gt r s b) →
      s.args.take i = t.args.take i → s.args[i]? = some a → t.args[i]? = some b → Gt r a b → Gt r s t
namespace Gt
variable {r : ByteArray → Int}
theorem nonvar {s t : Tm} (h : Gt r s t) : s.var = false := by cases h <;> assumption
theorem size_get {l : List Tm} {i : Nat} {a : Tm} {t : Tm} (e : l = t.args) (h : l[i]? = some a) : a.size < t.size := by
  subst e; exact Tm.size_mem (List.mem_of_getElem? h)
theorem trans_aux : ∀ (n : Nat) (s t u : Tm), s.size + t.size + u.size ≤ n → Gt r s t → Gt r t u → Gt r s u := by
  intro n
  induction n with
  | zero => intro s t u h; have := Tm.size_pos s; omega
  | succ n ih =>
    intro s t u hn hst htu
    -- what is greater than t by rank
    have main : s.var = false → t.var = false → (∀ b ∈ t.args, Gt r s b) → (r t.name < r s.name ∨ (s.name = t.name ∧ s.args.length = t.args.length ∧ ∃ (i : Nat) (a b : Tm), s.args.take i = t.args.take i ∧ s.args[i]? = some a ∧ t.args[i]? = some b ∧ Gt r a b)) → Gt r s u := by
      intro hs ht hb hcase
      have low : u.var = false → (∀ c ∈ u.args, Gt r t c) → ∀ c ∈ u.args, Gt r s c := fun hu hc c hcm =>
        ih s t c (by have := Tm.size_mem hcm; omega) hst (hc c hcm)
      cases htu with
      | arg _ _ _ hu => exact hb _ hu
      | sub _ _ b _ hbm hbu => exact ih s b u (by have := Tm.size_mem hbm; omega) (hb _ hbm) hbu
      | prec _ _ _ hu hr hc =>
        refine .prec s u hs hu ?_ (low hu hc)
        rcases hcase with h | ⟨h, _⟩
        · omega
        · rw [h]; exact hr
      | lex _ _ a' b' j _ hu hnm hlen hc htk ha' hb' hgt =>
        rcases hcase with h | ⟨h1, h2, i, a, b, h3, h4, h5, h6⟩
        · exact .prec s u hs hu (by rw [← hnm]; exact h) (low hu hc)
        · rcases Nat.lt_trichotomy i j with hij | rfl | hij
          · refine .lex s u a b i hs hu (h1.trans hnm) (h2.trans hlen) (low hu hc) ?_ h4 ?_ h6
            · rw [h3]
              have := congrArg (List.take i) htk
              rwa [List.take_take, List.take_take, Nat.min_eq_left (by omega)] at this
            · have := congrArg (·[i]?) htk
              simp only [List.getElem?_take, if_pos hij] at this
              rw [← this]; exact h5
          · rw [h5] at ha'
            obtain rfl := Option.some.inj ha'
            refine .lex s u a b' i hs hu (h1.trans hnm) (h2.trans hlen) (low hu hc) (h3.trans htk) h4 hb' ?_
            have k1 := size_get rfl h4
            have k2 := size_get rfl h5
            have k3 := size_get rfl hb'
            exact ih a b b' (by omega) h6 hgt
          · refine .lex s u a' b' j hs hu (h1.trans hnm) (h2.trans hlen) (low hu hc) ?_ ?_ hb' hgt
            · rw [← htk]
              have := congrArg (List.take j) h3
              rwa [List.take_take, List.take_take, Nat.min_eq_left (by omega)] at this
            · have := congrArg (·[j]?) h3
              simp only [List.getElem?_take, if_pos hij] at this
              rw [this]; exact ha'
    cases hst with
    | arg _ _ hs hm => exact .sub s u t hs hm htu
    | sub _ _ a hs hm hat => exact .sub s u a hs hm (ih a t u (by have := Tm.size_mem hm; omega) hat htu)
    | prec _ _ hs ht hr hb => exact main hs ht hb (.inl hr)
    | lex _ _ a b i hs ht hnm hlen hb htk h4 h5 h6 => exact main hs ht hb (.inr ⟨hnm, hlen, i, a, b, htk, h4, h5, h6⟩)
theorem trans {s t u : Tm} (h : Gt r s t) (h' : Gt r t u) : Gt r s u := trans_aux _ s t u (Nat.le_refl _) h h'
theorem irrefl (s : Tm) : ¬ Gt r s s := Tm.ind (p := fun s => ¬ Gt r s s) (fun s ih h => by
  cases h with
  | arg _ _ _ hm => have := Tm.size_mem hm; omega
  | sub _ _ a hs hm has => exact ih a hm (trans has (.arg s a hs hm))
  | prec _ _ _ _ hr _ => omega
  | lex _ _ a b i _ _ _ _ _ _ h1 h2 h3 =>
    rw [h1] at h2
    obtain rfl := Option.some.inj h2
    exact ih a (List.mem_of_getElem? h1) h3) s
theorem asymm {s t : Tm} (h : Gt r s t) : ¬ Gt r t s := fun h' => irrefl s (h.trans h')
theorem unfold_iff (s t : Tm) : Gt r s t ↔ s.var = false ∧ ((∃ a ∈ s.args, a = t ∨ Gt r a t) ∨ (t.var = false ∧ (∀ b ∈ t.args, Gt r s b) ∧
    (r t.name < r s.name ∨ (s.name = t.name ∧ s.args.length = t.args.length ∧ ∃ (i : Nat) (a b : Tm), s.args.take i = t.args.take i ∧ s.args[i]? = some a ∧ t.args[i]? = some b ∧ Gt r a b)))) := by
  constructor
  · intro h
    cases h with
    | arg _ _ hs hm => exact ⟨hs, .inl ⟨t, hm, .inl rfl⟩⟩
    | sub _ _ a hs hm hat => exact ⟨hs, .inl ⟨a, hm, .inr hat⟩⟩
    | prec _ _ hs ht hr hb => exact ⟨hs, .inr ⟨ht, hb, .inl hr⟩⟩
    | lex _ _ a b i hs ht hnm hlen hb htk h4 h5 h6 => exact ⟨hs, .inr ⟨ht, hb, .inr ⟨hnm, hlen, i, a, b, htk, h4, h5, h6⟩⟩⟩
  · rintro ⟨hs, ⟨a, hm, rfl | h⟩ | ⟨ht, hb, hr | ⟨hnm, hlen, i, a, b, htk, h4, h5, h6⟩⟩⟩
    · exact .arg _ _ hs hm
    · exact .sub _ _ a hs hm h
    · exact .prec _ _ hs ht hr hb
    · exact .lex _ _ a b i hs ht hnm hlen hb htk h4 h5 h6
end Gt
end Go.Proofs.YtehchnjnbbnkbaaGreat
set_option linter.unusedVariables false
set_option linter.unusedSimpArgs false
namespace Go.Proofs.YtehchnjnbbnkbaaGreat
open Go.Abs
structure Rk where
  name : ByteArray
  rank : Int
  weight : Int
abbrev Rks := List Rk
def encRk (x : Rk) : List V := [.s x.name, .i x.rank, .i x.weight]
def encRks (l : Rks) : List (List V) := l.map encRk
abbrev rkD (x : Rk) : D := .agg [sD x.name, iD x.rank, iD x.weight]
abbrev rksD (l : Rks) : D := .v (.sl t_Rank) (.l (encRks l))
theorem encRks_length (l : Rks) : (encRks l).length = l.length := by simp [encRks]
theorem encRks_getD (l : Rks) (k : Nat) (h : k < l.length) : (encRks l).getD k [] = [.s (l[k]).name, .i (l[k]).rank, .i (l[k]).weight] := by
  rw [encRks, List.getD_eq_getElem?_getD, List.getElem?_map, List.getElem?_eq_getElem h]; rfl
def rkNames (l : Rks) : List ByteArray := l.map (·.name)
theorem rkNames_getD (l : Rks) (k : Nat) (h : k < l.length) : (rkNames l).getD k bz = (l[k]).name := by
  rw [rkNames, List.getD_eq_getElem?_getD, List.getElem?_map, List.getElem?_eq_getElem h]; rfl
def listedErr (l : Rks) : Int := if l.length > 256 then 3 else if namesOk true (rkNames l) then 0 else 4
def rkBad (x : Rk) : Bool := decide (x.rank < 0 ∨ x.rank > 1000 ∨ x.weight ≠ 0)
def rkErr (l : Rks) : Int := if listedErr l ≠ 0 then listedErr l else if l.any rkBad then 2 else 0
def entry (l : Rks) (x : ByteArray) : Rk := (l.find? fun y => decide (y.name = x)).getD ⟨x, 0, 0⟩
def rankOf (l : Rks) (x : ByteArray) : Int := (entry l x).rank
open Classical in
noncomputable def gtB (r : ByteArray → Int) (s t : Tm) : Bool := decide (Gt r s t)
theorem gtB_true {r : ByteArray → Int} {s t : Tm} : gtB r s t = true ↔ Gt r s t := by unfold gtB; exact @decide_eq_true_iff _ (Classical.propDecidable _)
theorem gtB_false {r : ByteArray → Int} {s t : Tm} : gtB r s t = false ↔ ¬ Gt r s t := by rw [← gtB_true, Bool.not_eq_true]
end Go.Proofs.YtehchnjnbbnkbaaGreat
set_option linter.unusedVariables false
set_option linter.unusedSimpArgs false
namespace Go.Proofs.YtehchnjnbbnkbaaGreat
open Go.Abs
theorem path_Check_1_ok (x : Rk) : Fn f_path_Check_1 [rkD x] (sD x.name) := fun Q hQ => by
  refine C_path_Check_1 _ _ _ _ ?_
  unfold vc_path_Check_1
  exact ⟨trivial, hQ⟩
theorem path_Check_2_ok (x : Rk) : Fn f_path_Check_2 [rkD x] (bD (rkBad x)) := fun Q hQ => by
  refine C_path_Check_2 _ _ _ _ ?_
  unfold vc_path_Check_2
  have key : ∀ b, b = rkBad x → True ∧ Q (bD b) [] := by rintro _ rfl; exact ⟨trivial, hQ⟩
  refine iff_dec (fun h => key _ ?_) (fun h => iff_dec (fun h2 => key _ ?_) (fun h2 => key _ ?_))
  · exact (decide_eq_true (.inl h)).symm
  · exact (decide_eq_true (.inr (.inl h2))).symm
  · unfold rkBad
    rw [Bool.eq_iff_iff, decide_eq_true_iff, bne_iff_ne]
    omega
theorem path_Names_ok (l : Rks) : Fn f_path_Names_Rank [rksD l, .fn f_path_Check_1 []] (iD (listedErr l)) := fun Q hQ => by
  refine C_path_Names_Rank_pathCheck1 _ _ ?_
  unfold vc_path_Names_Rank_pathCheck1
  intro hb
  have hl := encRks_length l
  have hl2 : (rkNames l).length = l.length := by simp [rkNames]
  rw [hl] at hb ⊢
  rw [big_eq] at hb
  unfold listedErr at hQ
  refine iff_dec (fun h => ⟨trivial, ?_⟩) (fun h _ => ?_)
  · rw [if_pos (by omega)] at hQ; exact hQ
  rw [if_neg (by omega)] at hQ
  have bad : namesOk true (rkNames l) = false → Q (iD 4) [] := fun h => by rw [h] at hQ; exact hQ
  refine range_path_Names_Rank_pathCheck1_0 Q _ _ _ (by rw [big_eq]; exact hb) (fun k => ∀ i, i < k → nameAt true (rkNames l) i = true) (fun k hk hJ K hK => ?_) (fun hJ => ⟨trivial, ?_⟩) 0 (Nat.zero_le _) (fun i hi => by omega)
  · simp only [encRks_getD _ k hk, List.drop_zero, List.headD_cons, List.tail_cons]
    have hn := rkNames_getD l k hk
    refine ⟨by omega, by omega, sD (l[k]).name, (path_Check_1_ok _).here rfl, bD (nameOk (l[k]).name true), (term_IsName_ok _ _).here rfl, ?_⟩
    have next : nameAt true (rkNames l) k = true → ∀ i, i < k + 1 → nameAt true (rkNames l) i = true := fun h i hi => by
      rcases Nat.lt_succ_iff_lt_or_eq.1 hi with h8 | rfl
      · exact hJ i h8
      · exact h
    refine iff_not (iff_intro (fun h => iff_dec (fun h0 => ?_) (fun h0 => hK (next ?_))) (fun h => ⟨trivial, bad (namesOk_not (k := k) (by omega) ?_)⟩))
    · have h : nameOk (l[k]).name true = true := h
      have hk1 : k - 1 < l.length := by omega
      have hp := rkNames_getD l (k - 1) hk1
      rw [wrap_in _ (by omega) (by omega)]
      have e1 : ((k : Int) - 1).toNat = k - 1 := by omega
      rw [e1]
      simp only [encRks_getD _ (k - 1) hk1, List.drop_zero, List.headD_cons, List.tail_cons]
      have hk0 : ¬ k = 0 := by omega
      refine ⟨sD (l[k]).name, (path_Check_1_ok _).here rfl, by omega, by omega, path_Check_1_ok _ _ ⟨rfl, rfl, ?_⟩⟩
      show iff (Op.bytesLess (l[k]).name.toList (l[k-1]).name.toList || (l[k]).name.toList == (l[k-1]).name.toList) _ _
      rw [less_cmp, ba_beq]
      have e : (decide (cmpN (l[k]).name (l[k-1]).name = -1) || decide ((l[k]).name = (l[k-1]).name)) = !decide (cmpN (l[k-1]).name (l[k]).name = -1) := by
        rw [Bool.eq_iff_iff]
        simp only [Bool.or_eq_true, decide_eq_true_iff, Bool.not_eq_true', decide_eq_false_iff_not, ← cmpN_zero]
        have := cmpN_flip (l[k-1]).name (l[k]).name
        rcases cmpN_cases (l[k-1]).name (l[k]).name with h | h | h <;> omega
      rw [e]
      refine iff_not (iff_dec (fun h2 => hK (next ?_)) (fun h2 => ⟨trivial, bad (namesOk_not (k := k) (by omega) ?_)⟩))
      · unfold nameAt
        rw [hn, hp, h, Bool.true_and, decide_eq_false hk0, decide_eq_true h2]; rfl
      · unfold nameAt
        rw [hn, hp, h, Bool.true_and, decide_eq_false hk0, decide_eq_false h2]; rfl
    · have h : nameOk (l[k]).name true = true := h
      unfold nameAt
      rw [hn, h, decide_eq_true (show k = 0 by omega)]; rfl
    · have h : nameOk (l[k]).name true = false := h
      unfold nameAt
      rw [hn, h]; rfl
  · rw [namesOk_all (fun k hk => hJ k (by omega)), if_pos rfl] at hQ
    exact hQ
theorem slices_IndexFunc_Rank_ok (l : Rks) : Fn f_slices_IndexFunc_Rank [rksD l, .fn f_path_Check_2 []] (iD (idx rkBad l)) := fun Q hQ => by
  refine C_slices_IndexFunc_Rank_pathCheck2 _ _ fun hb => ?_
  have hl := encRks_length l
  rw [hl] at hb ⊢
  refine range_slices_IndexFunc_Rank_pathCheck2_0 Q _ _ hb (fun k => (l.take k).any rkBad = false) (fun k hk hJ K hK => ?_) (fun hJ => ⟨trivial, ?_⟩) 0 (Nat.zero_le _) rfl
  · simp only [encRks_getD _ k hk, List.drop_zero, List.headD_cons, List.tail_cons]
    refine ⟨by omega, by omega, path_Check_2_ok _ _ ⟨rfl, rfl, iff_intro (fun h => ⟨trivial, ?_⟩) (fun h => hK (any_take hk hJ h))⟩⟩
    rw [idx_at hk hJ h] at hQ
    exact hQ
  · rw [List.take_length] at hJ
    rw [idx_none hJ] at hQ
    exact hQ
theorem slices_ContainsFunc_Rank_ok (l : Rks) : Fn f_slices_ContainsFunc_Rank [rksD l, .fn f_path_Check_2 []] (bD (l.any rkBad)) := fun Q hQ => by
  refine C_slices_ContainsFunc_Rank_pathCheck2 _ _ ?_
  unfold vc_slices_ContainsFunc_Rank_pathCheck2
  refine slices_IndexFunc_Rank_ok l _ ⟨rfl, rfl, trivial, ?_⟩
  rw [← idx_any] at hQ
  exact hQ
theorem path_Check_ok (l : Rks) : Fn f_path_Check [rksD l] (iD (rkErr l)) := fun Q hQ => by
  refine C_path_Check _ _ ?_
  unfold vc_path_Check
  unfold rkErr at hQ
  refine path_Names_ok l _ ⟨rfl, rfl, iff_bne (fun h => ⟨trivial, ?_⟩) (fun h => ?_)⟩
  · have h : listedErr l ≠ 0 := h
    rw [if_pos h] at hQ; exact hQ
  · have h : listedErr l = 0 := h
    rw [if_neg (by simp [h])] at hQ
    refine slices_ContainsFunc_Rank_ok l _ ⟨rfl, rfl, iff_intro (fun h2 => ⟨trivial, ?_⟩) (fun h2 => ⟨trivial, ?_⟩)⟩
    · have h2 : l.any rkBad = true := h2
      rw [if_pos h2] at hQ; exact hQ
    · have h2 : l.any rkBad = false := h2
      rw [h2, if_neg (by simp)] at hQ; exact hQ
theorem bytealg_CompareString_ok (a b : ByteArray) : Fn f_bytealg_CompareString [sD a, sD b] (iD (cmpN a b)) := fun Q hQ => by
  refine C_bytealg_CompareString _ _ _ ?_
  exact ⟨trivial, hQ⟩
theorem strings_Compare_ok (a b : ByteArray) : Fn f_strings_Compare [sD a, sD b] (iD (cmpN a b)) := fun Q hQ => by
  refine C_strings_Compare _ _ _ ?_
  unfold vc_strings_Compare
  exact bytealg_CompareString_ok a b _ ⟨rfl, rfl, trivial, hQ⟩
theorem path_Of_1_ok (x : Rk) (b : ByteArray) : Fn f_path_Of_1 [rkD x, sD b] (iD (cmpN x.name b)) := fun Q hQ => by
  refine C_path_Of_1 _ _ _ _ _ ?_
  unfold vc_path_Of_1
  exact strings_Compare_ok _ b _ ⟨rfl, rfl, trivial, hQ⟩
def Sorted (l : Rks) : Prop := ∀ i j (hi : i < l.length) (hj : j < l.length), i < j → cmpN (l[i]).name (l[j]).name = -1
theorem sorted_of {l : Rks} (h : namesOk true (rkNames l) = true) : Sorted l := by
  have hl2 : (rkNames l).length = l.length := by simp [rkNames]
  have step : ∀ j (hj : j + 1 < l.length), cmpN (l[j]'(by omega)).name (l[j+1]).name = -1 := fun j hj => by
    have := namesOk_at h (k := j + 1) (by omega)
    unfold nameAt at this
    simp only [Bool.and_eq_true, Bool.or_eq_true, decide_eq_true_iff] at this
    rcases this.2 with h | h
    · omega
    · rw [show j + 1 - 1 = j by omega, rkNames_getD l j (by omega), rkNames_getD l (j + 1) hj] at h
      exact h
  intro i j hi hj hij
  induction j with
  | zero => omega
  | succ j ih =>
    rcases Nat.lt_succ_iff_lt_or_eq.1 hij with h8 | rfl
    · exact cmpN_trans (ih (by omega) h8) (step j hj)
    · exact step i hj
theorem listed_zero {l : Rks} (h : listedErr l = 0) : l.length ≤ 256 ∧ namesOk true (rkNames l) = true := by
  unfold listedErr at h
  split at h
  · cases h
  · split at h
    · exact ⟨by omega, by assumption⟩
    · cases h
theorem rkErr_zero {l : Rks} (h : rkErr l = 0) : listedErr l = 0 ∧ l.any rkBad = false := by
  unfold rkErr at h
  split at h
  · exact absurd h (by assumption)
  · rename_i h1
    split at h
    · cases h
    · rename_i h2
      exact ⟨by omega, by simpa using h2⟩
theorem mid_eq (lo hi : Nat) (h : lo + hi ≤ 1000) : IntKind.i64.wrap ((IntKind.u64.wrap (IntKind.i64.wrap ((lo : Int) + (hi : Int)))).fdiv (2 ^ (min ((1 : Int)).toNat IntKind.u64.bits))) = (((lo + hi) / 2 : Nat) : Int) := by
  rw [wrap_in ((lo : Int) + (hi : Int)) (by omega) (by omega), wrap_u64 _ (by omega) (by omega)]
  have e : (2 : Int) ^ (min ((1 : Int)).toNat IntKind.u64.bits) = 2 := rfl
  rw [e, Int.fdiv_eq_ediv_of_nonneg _ (by omega), wrap_in _ (by omega) (by omega)]
  omega
def ofR (l : Rks) (x : ByteArray) : Rk := (l.find? fun y => decide (y.name = x)).getD ⟨bz, 0, 0⟩
theorem ofR_rank (l : Rks) (x : ByteArray) : (ofR l x).rank = rankOf l x := by
  unfold ofR rankOf entry
  cases l.find? fun y => decide (y.name = x) <;> rfl
theorem find_at {l : Rks} {x : ByteArray} {k : Nat} (hs : Sorted l) (hk : k < l.length) (h : (l[k]).name = x) : l.find? (fun y => decide (y.name = x)) = some l[k] := by
  rw [List.find?_eq_some_iff_append]
  refine ⟨decide_eq_true h, l.take k, l.drop (k + 1), ?_, fun y hy => ?_⟩
  · rw [← List.drop_eq_getElem_cons hk, List.take_append_drop]
  · obtain ⟨i, hi, rfl⟩ := List.mem_take_iff_getElem.1 hy
    have := hs i k (by omega) hk (by omega)
    simp only [Bool.not_eq_true', decide_eq_false_iff_not]
    intro he
    rw [he, ← h, cmpN_self] at this
    cases this
theorem slices_BinarySearchFunc_ok (l : Rks) (x : ByteArray) (hs : Sorted l) (hn : l.length ≤ 256) (Q : D → Heap → Prop)
    (hQ : ∀ (i : Nat) (b : Bool), (b = true → ∃ h : i < l.length, (l[i]).name = x) → (b = false → ∀ y ∈ l, y.name ≠ x) → Q (.tup [iD i, bD b]) []) :
    cl f_slices_BinarySearchFunc_Rank_string [rksD l, sD x, .fn f_path_Of_1 []] [] Q := by
  refine C_slices_BinarySearchFunc_Rank_string_pathOf1 _ _ _ fun hb => ?_
  have hl := encRks_length l
  rw [hl] at hb ⊢
  refine rule_slices_BinarySearchFunc_Rank_string_pathOf1_0 Q (fun x0 x1 x8 x9 x10 => x0 = encRks l ∧ x1 = x ∧ x8 = (l.length : Int) ∧ ∃ lo hi : Nat, x9 = lo ∧ x10 = hi ∧ lo ≤ hi ∧ hi ≤ l.length ∧ (∀ k (h : k < l.length), k < lo → cmpN (l[k]).name x = -1) ∧ (∀ k (h : k < l.length), hi ≤ k → cmpN (l[k]).name x ≠ -1)) (fun x0 x1 x8 x9 x10 => (x10 - x9).toNat) (fun x0 x1 x8 x9 x10 hI m0 hK => ?_) _ _ _ _ _ ⟨rfl, rfl, rfl, 0, l.length, rfl, rfl, Nat.zero_le _, Nat.le_refl _, fun k _ h => by omega, fun k h h' => by omega⟩
  obtain ⟨rfl, rfl, rfl, lo, hi, rfl, rfl, h1, h2, h3, h4⟩ := hI
  unfold st_slices_BinarySearchFunc_Rank_string_pathOf1_0
  rw [mid_eq lo hi (by omega)]
  refine iff_dec (fun h => ?_) (fun h => ?_)
  · have hm : (lo + hi) / 2 < l.length := by omega
    rw [Int.toNat_natCast]
    simp only [encRks_getD _ _ hm, List.drop_zero, List.headD_cons, List.tail_cons]
    refine ⟨by omega, by omega, by omega, path_Of_1_ok (l[(lo + hi) / 2]) x1 _ ⟨rfl, rfl, iff_dec (fun h5 => ?_) (fun h5 => ?_)⟩⟩
    · have h5 : cmpN (l[(lo + hi) / 2]).name x1 < 0 := h5
      rw [wrap_in _ (by omega) (by omega)]
      refine hK _ _ _ _ _ ⟨rfl, rfl, rfl, (lo + hi) / 2 + 1, hi, by omega, rfl, by omega, h2, fun k hk hlt => ?_, h4⟩ (by omega)
      have h6 : cmpN (l[(lo + hi) / 2]).name x1 = -1 := by rcases cmpN_cases (l[(lo + hi) / 2]).name x1 with h | h | h <;> omega
      rcases Nat.lt_succ_iff_lt_or_eq.1 hlt with h8 | rfl
      · exact cmpN_trans (hs k _ hk hm h8) h6
      · exact h6
    · have h5 : ¬ cmpN (l[(lo + hi) / 2]).name x1 < 0 := h5
      refine hK _ _ _ _ _ ⟨rfl, rfl, rfl, lo, (lo + hi) / 2, rfl, rfl, by omega, by omega, h3, fun k hk hle he => ?_⟩ (by omega)
      rcases Nat.lt_or_eq_of_le hle with h8 | rfl
      · have := cmpN_trans (hs _ k hm hk h8) he
        omega
      · omega
  · have e : lo = hi := by omega
    subst e
    refine iff_dec (fun h5 => ?_) (fun h5 => ⟨⟨trivial, trivial, trivial⟩, hQ _ _ (fun h => by cases h) fun _ y hy he => ?_⟩)
    · have hlo : lo < l.length := by omega
      rw [Int.toNat_natCast]
      simp only [encRks_getD _ _ hlo, List.drop_zero, List.headD_cons, List.tail_cons]
      refine ⟨by omega, by omega, path_Of_1_ok (l[lo]) x1 _ ⟨rfl, rfl, ⟨trivial, trivial, trivial⟩, hQ lo (cmpN (l[lo]).name x1 == 0) (fun h6 => ⟨hlo, ?_⟩) (fun h6 y hy he => ?_)⟩⟩
      · rw [beq_iff_eq] at h6; exact cmpN_zero.1 h6
      · obtain ⟨k, hk, rfl⟩ := List.mem_iff_getElem.1 hy
        have hz := cmpN_zero.2 he
        rcases Nat.lt_trichotomy k lo with h7 | rfl | h7
        · have := h3 k hk h7; omega
        · rw [hz] at h6; cases h6
        · have h8 := h4 lo hlo (Nat.le_refl _)
          have h9 := hs lo k hlo hk h7
          rw [he] at h9
          exact h8 h9
    · obtain ⟨k, hk, rfl⟩ := List.mem_iff_getElem.1 hy
      have hz := cmpN_zero.2 he
      have := h3 k hk (by omega)
      omega
theorem path_Of_ok (l : Rks) (x : ByteArray) (hs : Sorted l) (hn : l.length ≤ 256) : Fn f_path_Of [rksD l, sD x] (rkD (ofR l x)) := fun Q hQ => by
  refine C_path_Of _ _ _ ?_
  unfold vc_path_Of
  have hl := encRks_length l
  refine slices_BinarySearchFunc_ok l x hs hn _ fun i b ht hf => ⟨rfl, rfl, ?_⟩
  refine iff_not (iff_intro (fun h => ?_) (fun h => ⟨⟨trivial, trivial, trivial, trivial⟩, ?_⟩))
  · have h : b = true := h
    obtain ⟨hi, hx⟩ := ht h
    show 0 ≤ (i : Int) ∧ (i : Int) < _ ∧ _
    refine ⟨by omega, by omega, ⟨trivial, trivial, trivial, trivial⟩, ?_⟩
    unfold ofR at hQ
    rw [find_at hs hi hx] at hQ
    have : (encRks l).getD ((i : Int)).toNat [] = [.s (l[i]).name, .i (l[i]).rank, .i (l[i]).weight] := by
      rw [Int.toNat_natCast]; exact encRks_getD l i hi
    show Q (.agg [.v .str (((((encRks l).getD ((i : Int)).toNat []).drop 0).headD V.none)), .v (.int .i64) (((((encRks l).getD ((i : Int)).toNat []).drop 0).tail).headD V.none), .v (.int .i64) ((((((encRks l).getD ((i : Int)).toNat []).drop 0).tail).tail).headD V.none)]) []
    rw [this]
    exact hQ
  · have h : b = false := h
    have hno := hf h
    unfold ofR at hQ
    have e : l.find? (fun y => decide (y.name = x)) = none := by
      rw [List.find?_eq_none]
      intro y hy
      simpa using hno y hy
    rw [e] at hQ
    exact hQ
end Go.Proofs.YtehchnjnbbnkbaaGreat
set_option linter.unusedVariables false
set_option linter.unusedSimpArgs false
namespace Go.Proofs.YtehchnjnbbnkbaaGreat
open Go.Abs
structure Nd where
  tm : Tm
  ix : List Int
def encNd (n : Nd) : List V := [.s n.tm.name, .b n.tm.var, .l (Tm.encL n.tm.args), .l (encP n.ix)]
def encA (A : List Nd) : List (List V) := A.map encNd
theorem encA_length (A : List Nd) : (encA A).length = A.length := by simp [encA]
theorem encA_getD (A : List Nd) (k : Nat) (x : Nd) (h : A[k]? = some x) : (encA A).getD k [] = [.s x.tm.name, .b x.tm.var, .l (Tm.encL x.tm.args), .l (encP x.ix)] := by
  rw [encA, List.getD_eq_getElem?_getD, List.getElem?_map, h]; rfl
def Fine (A : List Nd) (i : Nat) (n : Nd) : Prop := n.ix.length = n.tm.args.length ∧ ∀ (j : Nat) (a : Tm), n.tm.args[j]? = some a → ∃ m : Nat, n.ix[j]? = some (m : Int) ∧ m < i ∧ ∃ x, A[m]? = some x ∧ x.tm = a
def Good (A : List Nd) : Prop := ∀ (i : Nat) (n : Nd), A[i]? = some n → Fine A i n
theorem get_prefix {α : Type} {A B : List α} (h : A <+: B) {i : Nat} {x : α} (hx : A[i]? = some x) : B[i]? = some x := by
  obtain ⟨C, rfl⟩ := h
  rw [List.getElem?_append_left (List.getElem?_eq_some_iff.1 hx).1]
  exact hx
theorem Fine.mono {A B : List Nd} (h : A <+: B) {i : Nat} {n : Nd} (hf : Fine A i n) : Fine B i n :=
  ⟨hf.1, fun j a ha => by obtain ⟨m, h1, h2, x, h3, h4⟩ := hf.2 j a ha; exact ⟨m, h1, h2, x, get_prefix h h3, h4⟩⟩
theorem Good.push {A : List Nd} (h : Good A) {n : Nd} (hn : Fine A A.length n) : Good (A ++ [n]) := fun i x hx => by
  rcases Nat.lt_trichotomy i A.length with hi | rfl | hi
  · rw [List.getElem?_append_left hi] at hx
    exact (h i x hx).mono (List.prefix_append _ _)
  · rw [List.getElem?_append_right (Nat.le_refl _), Nat.sub_self] at hx
    obtain rfl := Option.some.inj hx
    exact hn.mono (List.prefix_append _ _)
  · rw [List.getElem?_eq_none (by simp; omega)] at hx; cases hx
mutual
def nds (b : Nat) : Tm → List Nd | .mk n v xs => (ndsL b xs).1 ++ [⟨.mk n v xs, (ndsL b xs).2⟩]
def ndsL (b : Nat) : List Tm → List Nd × List Int
  | [] => ([], [])
  | t :: r => (nds b t ++ (ndsL (b + (nds b t).length) r).1, ((b + (nds b t).length - 1 : Nat) : Int) :: (ndsL (b + (nds b t).length) r).2)
end
theorem nds_eq (b : Nat) : ∀ t : Tm, nds b t = (ndsL b t.args).1 ++ [⟨t, (ndsL b t.args).2⟩] | .mk _ _ _ => by simp only [nds]; rfl
theorem ndsL_snoc : ∀ (l : List Tm) (b : Nat) (t : Tm), ndsL b (l ++ [t]) = ((ndsL b l).1 ++ nds (b + (ndsL b l).1.length) t, (ndsL b l).2 ++ [((b + (ndsL b l).1.length + (nds (b + (ndsL b l).1.length) t).length - 1 : Nat) : Int)])
  | [], b, t => by simp [ndsL]
  | a :: l, b, t => by
    have ih := ndsL_snoc l (b + (nds b a).length) t
    simp only [List.cons_append, ndsL, ih, List.length_append, List.append_assoc, Nat.add_assoc]
structure Part (A : List Nd) (t : Tm) (k : Nat) (B : List Nd) (ix : List Int) : Prop where
  eqB : B = A ++ (ndsL A.length (t.args.take k)).1
  eqI : ix = (ndsL A.length (t.args.take k)).2
  pre : A <+: B
  good : Good B
  len : B.length = A.length + Tm.sizeL (t.args.take k)
  ixlen : ix.length = k
  fm : (∀ a ∈ t.args.take k, a.formed = true) → ∀ x ∈ B, x ∈ A ∨ x.tm.formed = true
  fine : ∀ (j : Nat) (a : Tm), j < k → t.args[j]? = some a → ∃ m : Nat, ix[j]? = some (m : Int) ∧ m < B.length ∧ ∃ x, B[m]? = some x ∧ x.tm = a
theorem Part.start {A : List Nd} (h : Good A) (t : Tm) : Part A t 0 A [] :=
  ⟨by simp [ndsL], by simp [ndsL], List.prefix_refl _, h, rfl, rfl, fun _ x hx => .inl hx, fun j a hj => by omega⟩
theorem Part.next {A : List Nd} {t : Tm} {k : Nat} {B : List Nd} {ix : List Int} (h : Part A t k B ix) (hk : k < t.args.length) {C : List Nd} (hC : Good C) (hBC : B <+: C) (hlen : C.length = B.length + (t.args[k]).size) {x : Nd} (hx : C[C.length - 1]? = some x) (hxt : x.tm = t.args[k])
    (hfm : (t.args[k]).formed = true → ∀ x ∈ C, x ∈ B ∨ x.tm.formed = true) (hCe : C = B ++ nds B.length t.args[k]) : Part A t (k + 1) C (ix ++ [((C.length - 1 : Nat) : Int)]) := by
  have eB : B.length = A.length + (ndsL A.length (t.args.take k)).1.length := by
    have := congrArg List.length h.eqB
    rwa [List.length_append] at this
  have hC' : C.length = B.length + (nds B.length t.args[k]).length := by rw [hCe, List.length_append]
  refine ⟨?_, ?_, h.pre.trans hBC, hC, ?_, by simp [h.ixlen], fun hf y hy => ?_, fun j a hj ha => ?_⟩
  · rw [List.take_succ_eq_append_getElem hk, ndsL_snoc, ← eB, ← List.append_assoc, ← h.eqB, ← hCe]
  · rw [List.take_succ_eq_append_getElem hk, ndsL_snoc, ← eB, ← h.eqI, ← hC']
  · rw [hlen, h.len, Tm.sizeL_take _ _ hk]; omega
  · rw [List.take_succ_eq_append_getElem hk] at hf
    rcases hfm (hf _ (List.mem_append_right _ (List.mem_singleton.2 rfl))) y hy with h1 | h1
    · exact h.fm (fun a ha => hf a (List.mem_append_left _ ha)) y h1
    · exact .inr h1
  · have hp := Tm.size_pos (t.args[k])
    rcases Nat.lt_succ_iff_lt_or_eq.1 hj with h8 | rfl
    · obtain ⟨m, h1, h2, y, h3, h4⟩ := h.fine j a h8 ha
      exact ⟨m, by rw [List.getElem?_append_left (by have := h.ixlen; omega)]; exact h1, by omega, y, get_prefix hBC h3, h4⟩
    · rw [List.getElem?_eq_getElem hk] at ha
      refine ⟨C.length - 1, ?_, by omega, x, hx, hxt.trans (Option.some.inj ha)⟩
      rw [List.getElem?_append_right (by have := h.ixlen; omega), h.ixlen, Nat.sub_self]; rfl
theorem Part.done {A : List Nd} {t : Tm} {B : List Nd} {ix : List Int} (h : Part A t t.args.length B ix) : Good (B ++ [⟨t, ix⟩]) :=
  h.good.push ⟨h.ixlen, fun j a ha => h.fine j a (List.getElem?_eq_some_iff.1 ha).1 ha⟩
structure Ends (A : List Nd) (t : Tm) (C : List Nd) : Prop where
  eq : C = A ++ nds A.length t
  good : Good C
  pre : A <+: C
  len : C.length = A.length + t.size
  last : ∃ x, C[C.length - 1]? = some x ∧ x.tm = t
  fm : t.formed = true → ∀ x ∈ C, x ∈ A ∨ x.tm.formed = true
theorem Part.ends {A : List Nd} {t : Tm} {B : List Nd} {ix : List Int} (h : Part A t t.args.length B ix) : Ends A t (B ++ [⟨t, ix⟩]) := by
  refine ⟨?_, h.done, h.pre.trans (List.prefix_append _ _), ?_, ⟨⟨t, ix⟩, ?_, rfl⟩, fun hf x hx => ?_⟩
  · have h1 := h.eqB
    have h2 := h.eqI
    rw [List.take_length] at h1 h2
    rw [nds_eq, ← List.append_assoc, ← h1, ← h2]
  · have := h.len
    rw [List.take_length] at this
    rw [List.length_append, this, Tm.size_eq]; simp; omega
  · simp
  · rcases List.mem_append.1 hx with hx | hx
    · refine h.fm (fun a ha => ?_) x hx
      rw [List.take_length] at ha
      rw [Tm.formed_eq] at hf
      split at hf
      · simp only [Bool.and_eq_true, List.isEmpty_iff] at hf
        rw [hf.2] at ha; cases ha
      · simp only [Bool.and_eq_true] at hf
        exact List.all_eq_true.1 hf.2 a ha
    · rw [List.mem_singleton.1 hx]; exact .inr hf
theorem ends_nds : ∀ (t : Tm) (A : List Nd), Good A → Ends A t (A ++ nds A.length t) := Tm.ind fun t ih A hA => by
  have key : ∀ k, k ≤ t.args.length → ∃ B ix, Part A t k B ix := by
    intro k
    induction k with
    | zero => exact fun _ => ⟨A, [], .start hA t⟩
    | succ k ihk =>
      intro hk
      obtain ⟨B, ix, hp⟩ := ihk (by omega)
      have he := ih _ (List.getElem_mem (show k < t.args.length by omega)) B hp.good
      obtain ⟨x, h1, h2⟩ := he.last
      exact ⟨_, _, hp.next (by omega) he.good he.pre he.len h1 h2 he.fm rfl⟩
  obtain ⟨B, ix, hp⟩ := key _ (Nat.le_refl _)
  have he := hp.ends
  rw [he.eq] at he
  exact he
theorem encP_append (p q : List Int) : encP (p ++ q) = encP p ++ encP q := by simp [encP]
theorem encA_append (p q : List Nd) : encA (p ++ q) = encA p ++ encA q := by simp [encA]
theorem path_nodes_ok : ∀ (t : Tm) (A : List Nd), Good A → A.length + t.size ≤ lim → ∀ Q : D → Heap → Prop, (∀ C, Ends A t C → Q (.osl (.own 0) C.length) [.row t_path_node (encA C)]) →
    cl f_path_nodes [tD t, .osl (.own 0) A.length] [.row t_path_node (encA A)] Q := Tm.ind fun t ih A hA hB Q hQ => by
  refine C_path_nodes _ _ _ _ _ _ ?_
  unfold vc_path_nodes
  intro hb
  have hl := Tm.encL_length t.args
  have hsz := Tm.size_eq t
  have hls := Tm.length_sizeL t.args
  have hlim := lim_eq
  rw [hl] at hb ⊢
  refine range_path_nodes_0 Q _ _ _ _ _ hb (fun k n m y h => ∃ B ix, Part A t k B ix ∧ n = B.length ∧ m = ix.length ∧ y = encP ix ∧ h = encA B) (fun k n m y h hk hJ K hK => ?_) (fun n m y h hJ => ?_) 0 _ _ _ _ (Nat.zero_le _) ⟨A, [], .start hA t, rfl, rfl, rfl, rfl⟩
  · obtain ⟨B, ix, hp, rfl, rfl, rfl, rfl⟩ := hJ
    simp only [Tm.encL_getD _ k hk, Tm.enc_eq, List.drop_zero, List.headD_cons, List.tail_cons]
    have hm := Tm.sizeL_take_le t.args (k + 1)
    rw [Tm.sizeL_take _ _ hk] at hm
    have hlen := hp.len
    refine ⟨by omega, by omega, ih _ (List.getElem_mem hk) B hp.good (by omega) _ fun C hC => ⟨rfl, rfl, ?_⟩⟩
    obtain ⟨x, hx, hxt⟩ := hC.last
    have hpos := Tm.size_pos (t.args[k])
    have hcl := hC.len
    show (encA C).length = C.length ∧ (C.length ≤ big → _)
    refine ⟨encA_length C, fun hb2 => ?_⟩
    rw [big_eq] at hb2
    have e : IntKind.i64.wrap (((C.length : Nat) : Int) - 1) = ((C.length - 1 : Nat) : Int) := by rw [wrap_in _ (by omega) (by omega)]; omega
    show (encP ix).length = ix.length ∧ ix.length + 1 ≤ lim ∧ K C.length (ix.length + 1) (encP ix ++ [[V.i (IntKind.i64.wrap (((C.length : Nat) : Int) - 1))]]) (encA C)
    rw [e]
    have hixl := hp.ixlen
    refine ⟨encP_length ix, by omega, hK _ _ _ _ ⟨C, ix ++ [((C.length - 1 : Nat) : Int)], hp.next hk hC.good hC.pre hC.len hx hxt hC.fm hC.eq, rfl, by simp, ?_, rfl⟩⟩
    rw [encP_append]; rfl
  · obtain ⟨B, ix, hp, rfl, rfl, rfl, rfl⟩ := hJ
    have hend := hp.ends
    have hcl := hend.len
    have hq := hQ _ hend
    rw [List.length_append] at hq hcl
    refine ⟨(encP_length ix).symm, encA_length B, ?_, trivial, ?_⟩
    · show B.length + 1 ≤ lim
      have : B.length + 1 = A.length + t.size := hcl
      omega
    · rw [encA_append] at hq
      exact hq
theorem path_nodes_nil_ok (t : Tm) (hB : t.size ≤ lim) : ∀ Q : D → Heap → Prop, (∀ C, Ends [] t C → Q (.v (.sl t_path_node) (.l (encA C))) []) →
    cl f_path_nodes [tD t, .nil] [] Q := fun Q hQ => by
  refine C_path_nodes_nil _ _ _ _ ?_
  unfold vc_path_nodes_nil
  intro hb
  have hl := Tm.encL_length t.args
  have hsz := Tm.size_eq t
  have hls := Tm.length_sizeL t.args
  have hlim := lim_eq
  rw [hl] at hb ⊢
  have hA : Good [] := fun i n h => by simp at h
  refine range_path_nodes_nil_0 Q _ _ _ _ _ hb (fun k n m h y => ∃ B ix, Part [] t k B ix ∧ n = B.length ∧ m = ix.length ∧ y = encP ix ∧ h = encA B) (fun k n m h y hk hJ K hK => ?_) (fun n m h y hJ => ?_) 0 _ _ _ _ (Nat.zero_le _) ⟨[], [], .start hA t, rfl, rfl, rfl, rfl⟩
  · obtain ⟨B, ix, hp, rfl, rfl, rfl, rfl⟩ := hJ
    simp only [Tm.encL_getD _ k hk, Tm.enc_eq, List.drop_zero, List.headD_cons, List.tail_cons]
    have hm := Tm.sizeL_take_le t.args (k + 1)
    rw [Tm.sizeL_take _ _ hk] at hm
    have hlen : B.length = 0 + _ := hp.len
    refine ⟨by omega, by omega, path_nodes_ok _ B hp.good (by omega) _ fun C hC => ⟨rfl, rfl, ?_⟩⟩
    obtain ⟨x, hx, hxt⟩ := hC.last
    have hpos := Tm.size_pos (t.args[k])
    have hcl := hC.len
    show (encA C).length = C.length ∧ (C.length ≤ big → _)
    refine ⟨encA_length C, fun hb2 => ?_⟩
    rw [big_eq] at hb2
    have e : IntKind.i64.wrap (((C.length : Nat) : Int) - 1) = ((C.length - 1 : Nat) : Int) := by rw [wrap_in _ (by omega) (by omega)]; omega
    show (encP ix).length = ix.length ∧ ix.length + 1 ≤ lim ∧ K C.length (ix.length + 1) (encA C) (encP ix ++ [[V.i (IntKind.i64.wrap (((C.length : Nat) : Int) - 1))]])
    rw [e]
    have hixl := hp.ixlen
    refine ⟨encP_length ix, by omega, hK _ _ _ _ ⟨C, ix ++ [((C.length - 1 : Nat) : Int)], hp.next hk hC.good hC.pre hC.len hx hxt hC.fm hC.eq, rfl, by simp, ?_, rfl⟩⟩
    rw [encP_append]; rfl
  · obtain ⟨B, ix, hp, rfl, rfl, rfl, rfl⟩ := hJ
    have hend := hp.ends
    have hcl := hend.len
    have hq := hQ _ hend
    rw [List.length_append] at hcl
    rw [encA_append] at hq
    have : B.length + 1 = 0 + t.size := hcl
    refine ⟨(encP_length ix).symm, encA_length B, ?_, ?_, hq⟩
    · show B.length + 1 ≤ lim
      omega
    · show B.length + 1 = (encA B ++ [_]).length
      rw [List.length_append, encA_length]; rfl
end Go.Proofs.YtehchnjnbbnkbaaGreat
set_option linter.unusedVariables false
set_option linter.unusedSimpArgs false
namespace Go.Proofs.YtehchnjnbbnkbaaGreat
open Go.Abs
def Memo (p : Tm → Tm → Bool) (A B : List Nd) (m : List Int) : Prop := m.length = A.length * B.length ∧
  ∀ (i k : Nat) (x y : Nd), A[i]? = some x → B[k]? = some y → ∃ v, m[i * B.length + k]? = some v ∧ (v = 0 ∨ v = if p x.tm y.tm then 1 else 2)
theorem cell_lt {i k a b : Nat} (hi : i < a) (hk : k < b) : i * b + k < a * b := by
  have := Nat.mul_le_mul_right b (show i + 1 ≤ a by omega)
  rw [Nat.add_mul] at this
  omega
theorem cell_inj {i k i' k' b : Nat} (hk : k < b) (hk' : k' < b) (h : i * b + k = i' * b + k') : i = i' ∧ k = k' := by
  have h1 : (i * b + k) / b = i := by rw [Nat.mul_comm, Nat.mul_add_div (by omega), Nat.div_eq_of_lt hk]; rfl
  have h2 : (i' * b + k') / b = i' := by rw [Nat.mul_comm, Nat.mul_add_div (by omega), Nat.div_eq_of_lt hk']; rfl
  rw [h, h2] at h1
  subst h1
  exact ⟨rfl, by omega⟩
theorem Memo.set {p : Tm → Tm → Bool} {A B : List Nd} {m : List Int} (h : Memo p A B m) {i k : Nat} {x y : Nd} (hx : A[i]? = some x) (hy : B[k]? = some y) {v : Int} (hv : v = if p x.tm y.tm then 1 else 2) :
    Memo p A B (m.set (i * B.length + k) v) := by
  have hi := (List.getElem?_eq_some_iff.1 hx).1
  have hk := (List.getElem?_eq_some_iff.1 hy).1
  refine ⟨by rw [List.length_set]; exact h.1, fun i' k' x' y' hx' hy' => ?_⟩
  have hk' := (List.getElem?_eq_some_iff.1 hy').1
  by_cases he : i * B.length + k = i' * B.length + k'
  · obtain ⟨rfl, rfl⟩ := cell_inj hk hk' he
    rw [hx] at hx'
    rw [hy] at hy'
    obtain rfl := Option.some.inj hx'
    obtain rfl := Option.some.inj hy'
    have := cell_lt hi hk
    rw [List.getElem?_set_self (by rw [h.1]; exact this)]
    exact ⟨v, rfl, .inr hv⟩
  · rw [List.getElem?_set_ne he]
    exact h.2 i' k' x' y' hx' hy'
theorem at_eq {i k n : Nat} (h : i * n + k ≤ 1000000000) : IntKind.i64.wrap ((IntKind.i64.wrap ((i : Int) * ((n : Nat) : Int))) + (k : Int)) = ((i * n + k : Nat) : Int) := by
  rw [← Int.natCast_mul, wrap_in ((i * n : Nat) : Int) (by omega) (by omega), wrap_in _ (by omega) (by omega)]
  omega
theorem encP_get {m : List Int} {j : Nat} {v : Int} (h : m[j]? = some v) : (encP m).getD j [] = [.i v] := by
  rw [encP, List.getD_eq_getElem?_getD, List.getElem?_map, h]; rfl
theorem encP_set (m : List Int) (j : Nat) (v : Int) (h : j < m.length) : (encP m).set j (setV ((encP m).getD j []) 0 [V.i v]) = encP (m.set j v) := by
  rw [encP_getD _ _ h, encP, encP, List.map_set]; rfl
abbrev hp (l : Rks) (A B : List Nd) (kn sm : List Int) : Heap :=
  [.cells [.v (.sl t_Rank) (.l (encRks l)), .v (.sl t_path_node) (.l (encA A)), .osl (.own 1) B.length, .osl (.own 2) kn.length, .osl (.own 3) sm.length], .row t_path_node (encA B), .row t_uint8 (encP kn), .row t_uint8 (encP sm)]
theorem args_ne {s t : Tm} {n : Nat} (h1 : n < s.args.length) (h2 : n < t.args.length) (h : s.args[n] ≠ t.args[n]) : s ≠ t := fun e => by subst e; exact h rfl
theorem equal_ok (l : Rks) (A B : List Nd) (kn : List Int) (hA : Good A) (hB : Good B) (hAB : A.length * B.length ≤ 1000000000) :
    ∀ (N i k : Nat) (x y : Nd) (sm : List Int), i < N → A[i]? = some x → B[k]? = some y → Memo Tm.eqB A B sm →
    ∀ Q : D → Heap → Prop, (∀ sm', Memo Tm.eqB A B sm' → Q (bD (Tm.eqB x.tm y.tm)) (hp l A B kn sm')) →
    cl f_path_comparer_equal [.ptr (.own 0) 0, iD i, iD k] (hp l A B kn sm) Q := by
  intro N
  induction N with
  | zero => intro i k x y sm h; omega
  | succ N ih =>
  intro i k x y sm hN hx hy hm Q hQ
  have hi := (List.getElem?_eq_some_iff.1 hx).1
  have hk := (List.getElem?_eq_some_iff.1 hy).1
  have hlt := cell_lt hi hk
  refine C_path_comparer_equal _ _ _ _ _ _ _ _ _ _ _ ?_
  unfold vc_path_comparer_equal
  refine ⟨encA_length B, fun hb => ?_⟩
  rw [big_eq] at hb
  rw [at_eq (by omega)]
  have hsl := hm.1
  have fin : ∀ sm', Memo Tm.eqB A B sm' → (∃ v, sm'[i * B.length + k]? = some v ∧ v ≠ 0) → jp_path_comparer_equal_2 Q ((i * B.length + k : Nat) : Int) (.l (encRks l)) (.l (encA A)) B.length kn.length sm'.length (encA B) (encP kn) (encP sm') := fun sm' hm' hv => by
    rw [jp_path_comparer_equal_2_s]
    unfold je_path_comparer_equal_2
    have hl' := hm'.1
    refine ⟨encP_length _, by omega, by omega, encP_length _, by omega, trivial, ?_⟩
    obtain ⟨v, h1, h2⟩ := hm'.2 i k x y hx hy
    obtain ⟨v', h3, h4⟩ := hv
    rw [h1] at h3
    obtain rfl := Option.some.inj h3
    rw [Int.toNat_natCast, encP_get h1]
    have hq := hQ sm' hm'
    have e : (v == 1) = Tm.eqB x.tm y.tm := by
      rcases h2 with h2 | h2
      · exact absurd h2 h4
      · subst h2
        cases Tm.eqB x.tm y.tm <;> rfl
    show Q (bD (v == 1)) _
    rw [e]
    exact hq
  obtain ⟨v0, hv0, hv0'⟩ := hm.2 i k x y hx hy
  refine ⟨encP_length _, by omega, by omega, encP_length _, by omega, ?_⟩
  rw [Int.toNat_natCast, encP_get hv0, Int.toNat_natCast, Int.toNat_natCast]
  refine iff_beq (fun h0 => ?_) (fun h0 => fin sm hm ⟨v0, hv0, h0⟩)
  rw [encA_getD A i x hx, encA_getD B k y hy]
  simp only [List.drop_zero, List.headD_cons, List.tail_cons, V.bool, V.str, V.list]
  -- the loop
  have loop : ∀ ok : Bool, (ok = true → x.tm.var = y.tm.var ∧ x.tm.name = y.tm.name ∧ x.tm.args.length = y.tm.args.length) → (ok = false → x.tm ≠ y.tm) →
      jp_path_comparer_equal_0 Q ((i * B.length + k : Nat) : Int) ok (.s x.tm.name) (.b x.tm.var) (.l (Tm.encL x.tm.args)) (.l (encP x.ix)) (.s y.tm.name) (.b y.tm.var) (.l (Tm.encL y.tm.args)) (.l (encP y.ix)) (encRks l) (encA A) B.length kn.length sm.length (encA B) (encP kn) (encP sm) := by
    intro ok hok hno
    obtain ⟨hxl, hxf⟩ := hA i x hx
    obtain ⟨hyl, hyf⟩ := hB k y hy
    rw [jp_path_comparer_equal_0_s]
    unfold je_path_comparer_equal_0
    refine rule_path_comparer_equal_0 Q (fun x7 x10 x11 _ _ _ y8_3 _ _ _ y9_3 h0_0 h0_1 h0_2n h0_3n h0_4n h1 h2 h3 => ∃ (ok : Bool) (n : Nat) (sm' : List Int), x7 = ((i * B.length + k : Nat) : Int) ∧ x10 = .b ok ∧ x11 = (n : Int) ∧ y8_3 = .l (encP x.ix) ∧ y9_3 = .l (encP y.ix) ∧ h0_0 = .l (encRks l) ∧ h0_1 = .l (encA A) ∧ h0_2n = B.length ∧ h0_3n = kn.length ∧ h0_4n = sm'.length ∧ h1 = encA B ∧ h2 = encP kn ∧ h3 = encP sm' ∧ Memo Tm.eqB A B sm' ∧
        (ok = true → x.tm.var = y.tm.var ∧ x.tm.name = y.tm.name ∧ x.tm.args.length = y.tm.args.length ∧ n ≤ x.tm.args.length ∧ x.tm.args.take n = y.tm.args.take n) ∧ (ok = false → x.tm ≠ y.tm))
      (fun _ _ x11 _ _ _ y8_3 _ _ _ _ _ _ _ _ _ _ _ _ => y8_3.list.length - x11.toNat) ?_ _ _ _ _ _ _ _ _ _ _ _ _ _ _ _ _ _ _ _
      ⟨ok, 0, sm, rfl, rfl, rfl, rfl, rfl, rfl, rfl, rfl, rfl, rfl, rfl, rfl, rfl, hm, fun h => ⟨(hok h).1, (hok h).2.1, (hok h).2.2, Nat.zero_le _, rfl⟩, hno⟩
    intro x7 x10 x11 y8_0 y8_1 y8_2 y8_3 y9_0 y9_1 y9_2 y9_3 h0_0 h0_1 h0_2n h0_3n h0_4n h1 h2 h3 hI m0 hK
    obtain ⟨ok, n, sm', rfl, rfl, rfl, rfl, rfl, rfl, rfl, rfl, rfl, rfl, rfl, rfl, rfl, hm', hok, hno⟩ := hI
    have hsl' := hm'.1
    unfold st_path_comparer_equal_0
    have hxe := encP_length x.ix
    have hye := encP_length y.ix
    -- the end of the loop
    have exit : ∀ ok' : Bool, ok' = Tm.eqB x.tm y.tm → ((encP sm').length = sm'.length ∧ 0 ≤ ((i * B.length + k : Nat) : Int) ∧ ((i * B.length + k : Nat) : Int) < sm'.length ∧ (encP sm').length = sm'.length ∧ (((i * B.length + k : Nat) : Int)).toNat < sm'.length ∧ iff ok' (((encP sm').set (((i * B.length + k : Nat) : Int)).toNat (setV ((encP sm').getD (((i * B.length + k : Nat) : Int)).toNat []) 0 [V.i 2])).length = sm'.length ∧ 0 ≤ ((i * B.length + k : Nat) : Int) ∧ ((i * B.length + k : Nat) : Int) < sm'.length ∧ ((encP sm').set (((i * B.length + k : Nat) : Int)).toNat (setV ((encP sm').getD (((i * B.length + k : Nat) : Int)).toNat []) 0 [V.i 2])).length = sm'.length ∧ (((i * B.length + k : Nat) : Int)).toNat < sm'.length ∧ jp_path_comparer_equal_2 Q ((i * B.length + k : Nat) : Int) (.l (encRks l)) (.l (encA A)) B.length kn.length sm'.length (encA B) (encP kn) (((encP sm').set (((i * B.length + k : Nat) : Int)).toNat (setV ((encP sm').getD (((i * B.length + k : Nat) : Int)).toNat []) 0 [V.i 2])).set (((i * B.length + k : Nat) : Int)).toNat (setV (((encP sm').set (((i * B.length + k : Nat) : Int)).toNat (setV ((encP sm').getD (((i * B.length + k : Nat) : Int)).toNat []) 0 [V.i 2])).getD (((i * B.length + k : Nat) : Int)).toNat []) 0 [V.i 1]))) (jp_path_comparer_equal_2 Q ((i * B.length + k : Nat) : Int) (.l (encRks l)) (.l (encA A)) B.length kn.length sm'.length (encA B) (encP kn) ((encP sm').set (((i * B.length + k : Nat) : Int)).toNat (setV ((encP sm').getD (((i * B.length + k : Nat) : Int)).toNat []) 0 [V.i 2])))) := by
      intro ok' he
      have hj : i * B.length + k < sm'.length := by omega
      rw [Int.toNat_natCast, encP_set _ _ _ hj]
      have hj2 : i * B.length + k < (sm'.set (i * B.length + k) 2).length := by rw [List.length_set]; exact hj
      rw [encP_set _ _ _ hj2, List.set_set]
      have e2 : (encP (sm'.set (i * B.length + k) 2)).length = sm'.length := by rw [encP_length, List.length_set]
      refine ⟨encP_length _, by omega, by omega, encP_length _, hj, iff_intro (fun h => ⟨e2, by omega, by omega, e2, hj, ?_⟩) (fun h => ?_)⟩
      · have := fin (sm'.set (i * B.length + k) 1) (hm'.set hx hy (by rw [← he, h]; rfl)) ⟨1, by rw [List.getElem?_set_self hj], by omega⟩
        rw [List.length_set] at this
        exact this
      · have := fin (sm'.set (i * B.length + k) 2) (hm'.set hx hy (by rw [← he, h]; rfl)) ⟨2, by rw [List.getElem?_set_self hj], by omega⟩
        rw [List.length_set] at this
        exact this
    refine iff_intro (fun h => ?_) (fun h => ?_)
    · have h : ok = true := h
      obtain ⟨g1, g2, g3, g4, g5⟩ := hok h
      intro hb2
      have hb2 : (encP x.ix).length ≤ 9223372036854775807 := by rw [← big_eq]; exact hb2
      refine iff_dec (fun hlt2 => ?_) (fun hlt2 => ?_)
      · have hlt2 : (n : Int) < ((encP x.ix).length : Int) := hlt2
        have hn : n < x.tm.args.length := by omega
        have hn2 : n < y.tm.args.length := by omega
        obtain ⟨m1, a1, a2, x', a3, a4⟩ := hxf n _ (List.getElem?_eq_getElem hn)
        obtain ⟨m2, b1, b2, y', b3, b4⟩ := hyf n _ (List.getElem?_eq_getElem hn2)
        rw [jp_path_comparer_equal_1_s]
        unfold je_path_comparer_equal_1
        simp only [V.list]
        rw [Int.toNat_natCast, encP_get a1, encP_get b1]
        refine ⟨by omega, by omega, by omega, by omega, ih m1 m2 x' y' sm' (by omega) a3 b3 hm' _ fun sm2 hm2 => ⟨rfl, rfl, ?_⟩⟩
        rw [wrap_in _ (by omega) (by omega)]
        refine hK _ _ _ _ _ _ _ _ _ _ _ _ _ _ _ _ _ _ _ ⟨Tm.eqB x'.tm y'.tm, n + 1, sm2, rfl, rfl, by omega, rfl, rfl, rfl, rfl, rfl, rfl, rfl, rfl, rfl, rfl, hm2, fun h2 => ⟨g1, g2, g3, hn, ?_⟩, fun h2 => ?_⟩ ?_
        · rw [Tm.eqB_iff, a4, b4] at h2
          rw [List.take_succ_eq_append_getElem hn, List.take_succ_eq_append_getElem hn2, g5, h2]
        · rw [Tm.eqB_false, a4, b4] at h2
          exact args_ne hn hn2 h2
        · show (encP x.ix).length - ((n : Int) + 1).toNat < (encP x.ix).length - ((n : Int)).toNat
          omega
      · have hlt2 : ¬ (n : Int) < ((encP x.ix).length : Int) := hlt2
        have hn : n = x.tm.args.length := by omega
        refine exit ok ?_
        rw [h]
        symm
        rw [Tm.eqB_iff]
        refine Tm.ext g2 g1 ?_
        rw [hn, List.take_length, g3, List.take_length] at g5
        exact g5
    · have h : ok = false := h
      refine exit ok ?_
      rw [h]
      symm
      rw [Tm.eqB_false]
      exact hno h
  obtain ⟨hxl, hxf⟩ := hA i x hx
  obtain ⟨hyl, hyf⟩ := hB k y hy
  refine ⟨by omega, by rw [encA_length]; omega, encA_length B, by omega, by omega, encA_length B, by omega, ?_⟩
  refine iff_beq (fun h1 => ?_) (fun h1 => loop false (fun h => by cases h) fun _ e => h1 (by rw [e]))
  rw [ba_beq]
  refine iff_dec (fun h2 _ _ => loop _ (fun h => ⟨h1, h2, ?_⟩) fun h e => ?_) (fun h2 => loop false (fun h => by cases h) fun _ e => h2 (by rw [e]))
  · rw [beq_iff_eq, encP_length, encP_length] at h; omega
  · rw [beq_eq_false_iff_ne, encP_length, encP_length] at h
    rw [e] at hxl
    exact h (by omega)
end Go.Proofs.YtehchnjnbbnkbaaGreat
set_option linter.unusedVariables false
set_option linter.unusedSimpArgs false
namespace Go.Proofs.YtehchnjnbbnkbaaGreat
open Go.Abs
abbrev hq (l : Rks) (A B : List Nd) (kn sm : List Int) (k : Int) : Heap :=
  [.cells [.ptr (.own 1) 0], .cells [.v (.sl t_Rank) (.l (encRks l)), .v (.sl t_path_node) (.l (encA A)), .osl (.own 2) B.length, .osl (.own 3) kn.length, .osl (.own 4) sm.length], .row t_path_node (encA B), .row t_uint8 (encP kn), .row t_uint8 (encP sm), .cells [.v (.int .i64) (.i k)]]
noncomputable abbrev gtR (l : Rks) : Tm → Tm → Bool := gtB (rankOf l)
def GrtC (l : Rks) (A B : List Nd) (i k : Nat) : Prop := ∀ (x y : Nd) (kn sm : List Int), A[i]? = some x → B[k]? = some y → Memo (gtR l) A B kn → Memo Tm.eqB A B sm →
  ∀ Q : D → Heap → Prop, (∀ kn' sm', Memo (gtR l) A B kn' → Memo Tm.eqB A B sm' → Q (bD (gtR l x.tm y.tm)) (hp l A B kn' sm')) →
  cl f_path_comparer_greater [.ptr (.own 0) 0, iD i, iD k] (hp l A B kn sm) Q
def Clo (l : Rks) (A B : List Nd) (f : FuncId) (k a : Int) (v : Bool) : Prop := ∀ (kn sm : List Int), Memo (gtR l) A B kn → Memo Tm.eqB A B sm →
  ∀ Q : D → Heap → Prop, (∀ kn' sm', Memo (gtR l) A B kn' → Memo Tm.eqB A B sm' → Q (bD v) (hq l A B kn' sm' k)) →
  cl f [iD a, .ptr (.own 0) 0, .ptr (.own 5) 0] (hq l A B kn sm k) Q
section
variable {l : Rks} {A B : List Nd} (hA : Good A) (hB : Good B) (hAB : A.length * B.length ≤ 1000000000)
include hA hB hAB
theorem compare_1_ok {i k : Nat} {x y : Nd} (hx : A[i]? = some x) (hy : B[k]? = some y) (hg : GrtC l A B i k) : Clo l A B f_path_comparer_compare_1 k i (Tm.eqB x.tm y.tm || gtR l x.tm y.tm) := fun kn sm hkn hsm Q hQ => by
  refine C_path_comparer_compare_1 _ _ _ _ _ _ _ _ _ _ _ ?_
  unfold vc_path_comparer_compare_1
  refine equal_ok l A B kn hA hB hAB (i + 1) i k x y sm (by omega) hx hy hsm _ fun sm' hsm' => ⟨rfl, rfl, ?_⟩
  refine iff_intro (fun h => ⟨trivial, ?_⟩) (fun h => ?_)
  · have h : Tm.eqB x.tm y.tm = true := h
    have := hQ kn sm' hkn hsm'
    rw [h, Bool.true_or] at this
    exact this
  · have h : Tm.eqB x.tm y.tm = false := h
    rw [h] at hQ
    exact hg x y kn sm' hx hy hkn hsm' _ fun kn2 sm2 h1 h2 => ⟨rfl, rfl, trivial, hQ kn2 sm2 h1 h2⟩
omit hA hB hAB in
theorem compare_2_ok {i k : Nat} {x y : Nd} (hx : A[i]? = some x) (hy : B[k]? = some y) (hg : GrtC l A B i k) : Clo l A B f_path_comparer_compare_2 i k (!gtR l x.tm y.tm) := fun kn sm hkn hsm Q hQ => by
  refine C_path_comparer_compare_2 _ _ _ _ _ _ _ _ _ _ _ ?_
  unfold vc_path_comparer_compare_2
  exact hg x y kn sm hx hy hkn hsm _ fun kn2 sm2 h1 h2 => ⟨rfl, rfl, trivial, hQ kn2 sm2 h1 h2⟩
end
section
variable {l : Rks} {A B : List Nd} {ix : List Int} {vs : List Bool} {k : Int}
theorem index_1_ok (hl : ix.length = vs.length) (hv : ∀ (j : Nat) (h : j < ix.length) (h' : j < vs.length), Clo l A B f_path_comparer_compare_1 k ix[j] vs[j]) (kn sm : List Int) (hkn : Memo (gtR l) A B kn) (hsm : Memo Tm.eqB A B sm)
    (Q : D → Heap → Prop) (hQ : ∀ kn' sm', Memo (gtR l) A B kn' → Memo Tm.eqB A B sm' → Q (iD (idx id vs)) (hq l A B kn' sm' k)) :
    cl f_slices_IndexFunc_int [psD ix, .fn f_path_comparer_compare_1 [.ptr (.own 0) 0, .ptr (.own 5) 0]] (hq l A B kn sm k) Q := by
  refine C_slices_IndexFunc_int_pathcomparercompare1 _ _ _ _ _ _ _ _ _ _ _ ?_
  unfold vc_slices_IndexFunc_int_pathcomparercompare1
  intro hb
  have he := encP_length ix
  rw [he] at hb ⊢
  refine range_slices_IndexFunc_int_pathcomparercompare1_0 Q _ _ hb (fun j h1_0 h1_1 h1_2n h1_3n h1_4n h2 h3 h4 h5_0 => ∃ kn sm, h1_0 = .l (encRks l) ∧ h1_1 = .l (encA A) ∧ h1_2n = B.length ∧ h1_3n = kn.length ∧ h1_4n = sm.length ∧ h2 = encA B ∧ h3 = encP kn ∧ h4 = encP sm ∧ h5_0 = .i k ∧ Memo (gtR l) A B kn ∧ Memo Tm.eqB A B sm ∧ (vs.take j).any id = false)
    (fun j h1_0 h1_1 h1_2n h1_3n h1_4n h2 h3 h4 h5_0 hj hJ K hK => ?_) (fun h1_0 h1_1 h1_2n h1_3n h1_4n h2 h3 h4 h5_0 hJ => ?_) 0 _ _ _ _ _ _ _ _ _ (Nat.zero_le _) ⟨kn, sm, rfl, rfl, rfl, rfl, rfl, rfl, rfl, rfl, rfl, hkn, hsm, rfl⟩
  · obtain ⟨kn1, sm1, rfl, rfl, rfl, rfl, rfl, rfl, rfl, rfl, rfl, h1, h2, h3⟩ := hJ
    have hj2 : j < vs.length := by omega
    rw [encP_getD _ _ hj]
    simp only [List.drop_zero, List.headD_cons]
    refine ⟨by omega, by omega, hv j hj hj2 kn1 sm1 h1 h2 _ fun kn2 sm2 g1 g2 => ⟨rfl, rfl, iff_intro (fun h => ⟨trivial, ?_⟩) (fun h => hK _ _ _ _ _ _ _ _ _ ⟨kn2, sm2, rfl, rfl, rfl, rfl, rfl, rfl, rfl, rfl, rfl, g1, g2, any_take hj2 h3 h⟩)⟩⟩
    have := hQ kn2 sm2 g1 g2
    rw [idx_at hj2 h3 h] at this
    exact this
  · obtain ⟨kn1, sm1, rfl, rfl, rfl, rfl, rfl, rfl, rfl, rfl, rfl, h1, h2, h3⟩ := hJ
    rw [hl, List.take_length] at h3
    have := hQ kn1 sm1 h1 h2
    rw [idx_none h3] at this
    exact ⟨trivial, this⟩
theorem contains_1_ok (hl : ix.length = vs.length) (hv : ∀ (j : Nat) (h : j < ix.length) (h' : j < vs.length), Clo l A B f_path_comparer_compare_1 k ix[j] vs[j]) (kn sm : List Int) (hkn : Memo (gtR l) A B kn) (hsm : Memo Tm.eqB A B sm)
    (Q : D → Heap → Prop) (hQ : ∀ kn' sm', Memo (gtR l) A B kn' → Memo Tm.eqB A B sm' → Q (bD (vs.any id)) (hq l A B kn' sm' k)) :
    cl f_slices_ContainsFunc_int [psD ix, .fn f_path_comparer_compare_1 [.ptr (.own 0) 0, .ptr (.own 5) 0]] (hq l A B kn sm k) Q := by
  refine C_slices_ContainsFunc_int_pathcomparercompare1 _ _ _ _ _ _ _ _ _ _ _ ?_
  unfold vc_slices_ContainsFunc_int_pathcomparercompare1
  refine index_1_ok hl hv kn sm hkn hsm _ fun kn2 sm2 g1 g2 => ⟨rfl, rfl, trivial, ?_⟩
  have := hQ kn2 sm2 g1 g2
  rw [← idx_any] at this
  exact this
theorem index_2_ok (hl : ix.length = vs.length) (hv : ∀ (j : Nat) (h : j < ix.length) (h' : j < vs.length), Clo l A B f_path_comparer_compare_2 k ix[j] vs[j]) (kn sm : List Int) (hkn : Memo (gtR l) A B kn) (hsm : Memo Tm.eqB A B sm)
    (Q : D → Heap → Prop) (hQ : ∀ kn' sm', Memo (gtR l) A B kn' → Memo Tm.eqB A B sm' → Q (iD (idx id vs)) (hq l A B kn' sm' k)) :
    cl f_slices_IndexFunc_int [psD ix, .fn f_path_comparer_compare_2 [.ptr (.own 0) 0, .ptr (.own 5) 0]] (hq l A B kn sm k) Q := by
  refine C_slices_IndexFunc_int_pathcomparercompare2 _ _ _ _ _ _ _ _ _ _ _ ?_
  unfold vc_slices_IndexFunc_int_pathcomparercompare2
  intro hb
  have he := encP_length ix
  rw [he] at hb ⊢
  refine range_slices_IndexFunc_int_pathcomparercompare2_0 Q _ _ hb (fun j h1_0 h1_1 h1_2n h1_3n h1_4n h2 h3 h4 h5_0 => ∃ kn sm, h1_0 = .l (encRks l) ∧ h1_1 = .l (encA A) ∧ h1_2n = B.length ∧ h1_3n = kn.length ∧ h1_4n = sm.length ∧ h2 = encA B ∧ h3 = encP kn ∧ h4 = encP sm ∧ h5_0 = .i k ∧ Memo (gtR l) A B kn ∧ Memo Tm.eqB A B sm ∧ (vs.take j).any id = false)
    (fun j h1_0 h1_1 h1_2n h1_3n h1_4n h2 h3 h4 h5_0 hj hJ K hK => ?_) (fun h1_0 h1_1 h1_2n h1_3n h1_4n h2 h3 h4 h5_0 hJ => ?_) 0 _ _ _ _ _ _ _ _ _ (Nat.zero_le _) ⟨kn, sm, rfl, rfl, rfl, rfl, rfl, rfl, rfl, rfl, rfl, hkn, hsm, rfl⟩
  · obtain ⟨kn1, sm1, rfl, rfl, rfl, rfl, rfl, rfl, rfl, rfl, rfl, h1, h2, h3⟩ := hJ
    have hj2 : j < vs.length := by omega
    rw [encP_getD _ _ hj]
    simp only [List.drop_zero, List.headD_cons]
    refine ⟨by omega, by omega, hv j hj hj2 kn1 sm1 h1 h2 _ fun kn2 sm2 g1 g2 => ⟨rfl, rfl, iff_intro (fun h => ⟨trivial, ?_⟩) (fun h => hK _ _ _ _ _ _ _ _ _ ⟨kn2, sm2, rfl, rfl, rfl, rfl, rfl, rfl, rfl, rfl, rfl, g1, g2, any_take hj2 h3 h⟩)⟩⟩
    have := hQ kn2 sm2 g1 g2
    rw [idx_at hj2 h3 h] at this
    exact this
  · obtain ⟨kn1, sm1, rfl, rfl, rfl, rfl, rfl, rfl, rfl, rfl, rfl, h1, h2, h3⟩ := hJ
    rw [hl, List.take_length] at h3
    have := hQ kn1 sm1 h1 h2
    rw [idx_none h3] at this
    exact ⟨trivial, this⟩
theorem contains_2_ok (hl : ix.length = vs.length) (hv : ∀ (j : Nat) (h : j < ix.length) (h' : j < vs.length), Clo l A B f_path_comparer_compare_2 k ix[j] vs[j]) (kn sm : List Int) (hkn : Memo (gtR l) A B kn) (hsm : Memo Tm.eqB A B sm)
    (Q : D → Heap → Prop) (hQ : ∀ kn' sm', Memo (gtR l) A B kn' → Memo Tm.eqB A B sm' → Q (bD (vs.any id)) (hq l A B kn' sm' k)) :
    cl f_slices_ContainsFunc_int [psD ix, .fn f_path_comparer_compare_2 [.ptr (.own 0) 0, .ptr (.own 5) 0]] (hq l A B kn sm k) Q := by
  refine C_slices_ContainsFunc_int_pathcomparercompare2 _ _ _ _ _ _ _ _ _ _ _ ?_
  unfold vc_slices_ContainsFunc_int_pathcomparercompare2
  refine index_2_ok hl hv kn sm hkn hsm _ fun kn2 sm2 g1 g2 => ⟨rfl, rfl, trivial, ?_⟩
  have := hQ kn2 sm2 g1 g2
  rw [← idx_any] at this
  exact this
end
end Go.Proofs.YtehchnjnbbnkbaaGreat
set_option linter.unusedVariables false
set_option linter.unusedSimpArgs false
namespace Go.Proofs.YtehchnjnbbnkbaaGreat
open Go.Abs
theorem compare_ok {l : Rks} {A B : List Nd} (hs : Sorted l) (hn : l.length ≤ 256) (hA : Good A) (hB : Good B) (hAB : A.length * B.length ≤ 1000000000)
    (hvA : ∀ x ∈ A, x.tm.var = true → x.tm.args = []) {i k : Nat} (ih : ∀ i' k', i' + k' < i + k → GrtC l A B i' k') {x y : Nd} (hx : A[i]? = some x) (hy : B[k]? = some y)
    (kn sm : List Int) (hkn : Memo (gtR l) A B kn) (hsm : Memo Tm.eqB A B sm) (Q : D → Heap → Prop)
    (hQ : ∀ kn' sm', Memo (gtR l) A B kn' → Memo Tm.eqB A B sm' → Q (bD (gtR l x.tm y.tm)) (hp l A B kn' sm')) :
    cl f_path_comparer_compare [.ptr (.own 0) 0, iD i, iD k] (hp l A B kn sm) Q := by
  have hi := (List.getElem?_eq_some_iff.1 hx).1
  have hk := (List.getElem?_eq_some_iff.1 hy).1
  have yes : Gt (rankOf l) x.tm y.tm → ∀ kn' sm', Memo (gtR l) A B kn' → Memo Tm.eqB A B sm' → Q (bD true) (hp l A B kn' sm') := fun h kn' sm' h1 h2 => by
    have := hQ kn' sm' h1 h2
    rw [show gtR l x.tm y.tm = true from gtB_true.2 h] at this
    exact this
  have no : ¬ Gt (rankOf l) x.tm y.tm → ∀ kn' sm', Memo (gtR l) A B kn' → Memo Tm.eqB A B sm' → Q (bD false) (hp l A B kn' sm') := fun h kn' sm' h1 h2 => by
    have := hQ kn' sm' h1 h2
    rw [show gtR l x.tm y.tm = false from gtB_false.2 h] at this
    exact this
  have hu := Gt.unfold_iff (r := rankOf l) x.tm y.tm
  obtain ⟨hxl, hxf⟩ := hA i x hx
  obtain ⟨hyl, hyf⟩ := hB k y hy
  have hxe := encP_length x.ix
  have hye := encP_length y.ix
  refine C_path_comparer_compare _ _ _ _ _ _ _ _ _ _ _ ?_
  unfold vc_path_comparer_compare
  simp only [Int.toNat_natCast, encA_getD A i x hx, encA_getD B k y hy, List.drop_zero, List.headD_cons, List.tail_cons, V.bool]
  refine ⟨by omega, by rw [encA_length]; omega, encA_length B, by omega, by omega, encA_length B, by omega, ?_⟩
  refine contains_1_ok (vs := x.tm.args.map fun a => Tm.eqB a y.tm || gtR l a y.tm) (by rw [List.length_map]; exact hxl) (fun j h h' => ?_) kn sm hkn hsm _ fun kn1 sm1 hkn1 hsm1 => ⟨rfl, rfl, ?_⟩
  · rw [List.length_map] at h'
    obtain ⟨m, a1, a2, x', a3, a4⟩ := hxf j _ (List.getElem?_eq_getElem h')
    rw [List.getElem?_eq_getElem h] at a1
    rw [Option.some.inj a1, List.getElem_map, ← a4]
    exact compare_1_ok hA hB hAB a3 hy (ih m k (by omega))
  rw [List.any_map]
  refine iff_intro (fun h => ⟨trivial, yes ?_ _ _ hkn1 hsm1⟩) (fun h => ?_)
  · have h : (x.tm.args.any (id ∘ fun a => Tm.eqB a y.tm || gtR l a y.tm)) = true := h
    obtain ⟨a, ha, hp⟩ := List.any_eq_true.1 h
    have hv : x.tm.var = false := by
      cases hv : x.tm.var with
      | false => rfl
      | true => rw [hvA x (List.mem_of_getElem? hx) hv] at ha; cases ha
    have hp : (Tm.eqB a y.tm || gtR l a y.tm) = true := hp
    rw [Bool.or_eq_true] at hp
    rcases hp with hp | hp
    · rw [Tm.eqB_iff] at hp
      exact .arg _ _ hv (hp ▸ ha)
    · exact .sub _ _ a hv ha (gtB_true.1 hp)
  have h : (x.tm.args.any (id ∘ fun a => Tm.eqB a y.tm || gtR l a y.tm)) = false := h
  have hnoarg : ¬ ∃ a ∈ x.tm.args, a = y.tm ∨ Gt (rankOf l) a y.tm := by
    rintro ⟨a, ha, hc⟩
    have h2 := List.any_eq_false.1 h a ha
    apply h2
    show (Tm.eqB a y.tm || gtR l a y.tm) = true
    rw [Bool.or_eq_true]
    rcases hc with hc | hc
    · exact .inl (Tm.eqB_iff.2 hc)
    · exact .inr (gtB_true.2 hc)
  refine iff_intro (fun hv => ⟨trivial, no (fun hg => ?_) _ _ hkn1 hsm1⟩) (fun hv => ?_)
  · have := hg.nonvar
    rw [hv] at this; cases this
  refine iff_intro (fun hw => ⟨trivial, no (fun hg => ?_) _ _ hkn1 hsm1⟩) (fun hw => ?_)
  · rcases hu.1 hg with ⟨_, h | ⟨h, _⟩⟩
    · exact hnoarg h
    · rw [hw] at h; cases h
  -- from here on both are applied symbols
  have j2 : ∀ same : Bool, (same = true → x.tm.name = y.tm.name ∧ x.tm.args.length = y.tm.args.length) → (same = false → rankOf l y.tm.name < rankOf l x.tm.name) →
      jp_path_comparer_compare_2 Q same i (.s x.tm.name) (.b x.tm.var) (.l (Tm.encL x.tm.args)) (.l (encP x.ix)) (.s y.tm.name) (.b y.tm.var) (.l (Tm.encL y.tm.args)) (.l (encP y.ix)) (.l (encRks l)) (.l (encA A)) B.length kn1.length sm1.length (encA B) (encP kn1) (encP sm1) := by
    intro same hsame hprec
    rw [jp_path_comparer_compare_2_s]
    unfold je_path_comparer_compare_2
    refine contains_2_ok (vs := y.tm.args.map fun b => !gtR l x.tm b) (by rw [List.length_map]; exact hyl) (fun j h h' => ?_) kn1 sm1 hkn1 hsm1 _ fun kn2 sm2 hkn2 hsm2 => ⟨rfl, rfl, ?_⟩
    · rw [List.length_map] at h'
      obtain ⟨m, a1, a2, y', a3, a4⟩ := hyf j _ (List.getElem?_eq_getElem h')
      rw [List.getElem?_eq_getElem h] at a1
      rw [Option.some.inj a1, List.getElem_map, ← a4]
      exact compare_2_ok hx a3 (ih i m (by omega))
    rw [List.any_map]
    refine iff_intro (fun h => ⟨trivial, no (fun hg => ?_) _ _ hkn2 hsm2⟩) (fun h => ?_)
    · have h : (y.tm.args.any (id ∘ fun b => !gtR l x.tm b)) = true := h
      obtain ⟨b, hb, hp⟩ := List.any_eq_true.1 h
      have hp : (!gtR l x.tm b) = true := hp
      rw [Bool.not_eq_true'] at hp
      exact gtB_false.1 hp (hg.trans (.arg _ _ hw hb))
    have h : (y.tm.args.any (id ∘ fun b => !gtR l x.tm b)) = false := h
    have hall : ∀ b ∈ y.tm.args, Gt (rankOf l) x.tm b := fun b hb => by
      have := List.any_eq_false.1 h b hb
      have : ¬ (!gtR l x.tm b) = true := this
      rw [Bool.not_eq_true', Bool.not_eq_false] at this
      exact gtB_true.1 this
    refine iff_not (iff_intro (fun h2 hb => ?_) (fun h2 => ⟨trivial, yes (.prec _ _ hv hw (hprec h2) hall) _ _ hkn2 hsm2⟩))
    obtain ⟨hnm, hlen⟩ := hsame h2
    have hb : (encP x.ix).length ≤ big := hb
    show ∃ m0, lp_path_comparer_compare_0 Q m0 ((encP x.ix).length : Int) 0 _ _ _ _ _ _ _ _ _ _ _ _ _ _ _ _
    rw [hxe] at hb ⊢
    have hb' := hb
    rw [big_eq] at hb'
    refine range_path_comparer_compare_0 Q _ _ _ _ _ _ _ _ _ hb (fun j h0_0 h0_1 h0_2n h0_3n h0_4n h1 h2 h3 => ∃ kn sm, h0_0 = .l (encRks l) ∧ h0_1 = .l (encA A) ∧ h0_2n = B.length ∧ h0_3n = kn.length ∧ h0_4n = sm.length ∧ h1 = encA B ∧ h2 = encP kn ∧ h3 = encP sm ∧ Memo (gtR l) A B kn ∧ Memo Tm.eqB A B sm ∧ x.tm.args.take j = y.tm.args.take j)
      (fun j h0_0 h0_1 h0_2n h0_3n h0_4n h1 h2 h3 hj hJ K hK => ?_) (fun h0_0 h0_1 h0_2n h0_3n h0_4n h1 h2 h3 hJ => ?_) 0 _ _ _ _ _ _ _ _ (Nat.zero_le _) ⟨kn2, sm2, rfl, rfl, rfl, rfl, rfl, rfl, rfl, rfl, hkn2, hsm2, rfl⟩
    · obtain ⟨kn3, sm3, rfl, rfl, rfl, rfl, rfl, rfl, rfl, rfl, h1, h2, h3⟩ := hJ
      have hj1 : j < x.tm.args.length := by omega
      have hj2 : j < y.tm.args.length := by omega
      have e1 := List.getElem?_eq_getElem hj1
      have e2 := List.getElem?_eq_getElem hj2
      obtain ⟨m1, a1, a2, x', a3, a4⟩ := hxf j _ e1
      obtain ⟨m2, b1, b2, y', b3, b4⟩ := hyf j _ e2
      simp only [V.list]
      rw [encP_get a1, encP_get b1]
      refine ⟨by omega, by omega, by omega, by omega, equal_ok l A B kn3 hA hB hAB (m1 + 1) m1 m2 x' y' sm3 (by omega) a3 b3 h2 _ fun sm4 g1 => ⟨rfl, rfl, ?_⟩⟩
      refine iff_not (iff_intro (fun h5 => hK _ _ _ _ _ _ _ _ ⟨kn3, sm4, rfl, rfl, rfl, rfl, rfl, rfl, rfl, rfl, h1, g1, ?_⟩) (fun h5 => ⟨by omega, by omega, by omega, by omega, ih m1 m2 (by omega) x' y' kn3 sm4 a3 b3 h1 g1 _ fun kn5 sm5 k1 k2 => ⟨rfl, rfl, trivial, ?_⟩⟩))
      · have h5 : Tm.eqB x'.tm y'.tm = true := h5
        rw [Tm.eqB_iff, a4, b4] at h5
        rw [List.take_succ_eq_append_getElem hj1, List.take_succ_eq_append_getElem hj2, h3, h5]
      · have h5 : Tm.eqB x'.tm y'.tm = false := h5
        rw [Tm.eqB_false, a4, b4] at h5
        show Q (bD (gtR l x'.tm y'.tm)) (hp l A B kn5 sm5)
        rw [a4, b4]
        cases hg : gtR l (x.tm.args[j]) (y.tm.args[j]) with
        | true => exact yes (.lex _ _ _ _ j hv hw hnm hlen hall h3 e1 e2 (gtB_true.1 hg)) _ _ k1 k2
        | false =>
          refine no (fun hgt => ?_) _ _ k1 k2
          rcases hu.1 hgt with ⟨_, h6 | ⟨_, _, h6 | ⟨_, _, i', a, b, h7, h8, h9, h10⟩⟩⟩
          · exact hnoarg h6
          · rw [hnm] at h6; omega
          · rcases Nat.lt_trichotomy i' j with hik | rfl | hik
            · have := congrArg (·[i']?) h3
              simp only [List.getElem?_take, if_pos hik] at this
              rw [h8, h9] at this
              obtain rfl := Option.some.inj this
              exact Gt.irrefl _ h10
            · rw [e1] at h8
              rw [e2] at h9
              obtain rfl := Option.some.inj h8
              obtain rfl := Option.some.inj h9
              exact gtB_false.1 hg h10
            · have := congrArg (·[j]?) h7
              simp only [List.getElem?_take, if_pos hik] at this
              rw [e1, e2] at this
              exact h5 (Option.some.inj this)
    · obtain ⟨kn3, sm3, rfl, rfl, rfl, rfl, rfl, rfl, rfl, rfl, h1, h2, h3⟩ := hJ
      refine ⟨trivial, no (fun hg => ?_) _ _ h1 h2⟩
      rw [hxl, List.take_length, hlen, List.take_length] at h3
      exact Gt.irrefl _ ((Tm.ext hnm (by rw [hv, hw]) h3 : x.tm = y.tm) ▸ hg)
  have j1 : ∀ same : Bool, same = decide (x.tm.name = y.tm.name ∧ x.tm.args.length = y.tm.args.length) →
      jp_path_comparer_compare_1 Q (.s x.tm.name) (.s y.tm.name) same i (.s x.tm.name) (.b x.tm.var) (.l (Tm.encL x.tm.args)) (.l (encP x.ix)) (.s y.tm.name) (.b y.tm.var) (.l (Tm.encL y.tm.args)) (.l (encP y.ix)) (.l (encRks l)) (.l (encA A)) B.length kn1.length sm1.length (encA B) (encP kn1) (encP sm1) := by
    rintro _ rfl
    rw [jp_path_comparer_compare_1_s]
    unfold je_path_comparer_compare_1
    refine iff_not (iff_dec (fun h2 => j2 _ (fun _ => h2) (fun h3 => by rw [decide_eq_true h2] at h3; cases h3)) (fun h2 => ?_))
    refine ⟨rkD (ofR l x.tm.name), (path_Of_ok l _ hs hn).here rfl, rkD (ofR l y.tm.name), (path_Of_ok l _ hs hn).here rfl, ?_⟩
    show iff (decide ((ofR l x.tm.name).rank ≤ (ofR l y.tm.name).rank)) _ _
    rw [ofR_rank, ofR_rank]
    refine iff_dec (fun h3 => ⟨trivial, no (fun hg => ?_) _ _ hkn1 hsm1⟩) (fun h3 => j2 _ (fun h4 => absurd (of_decide_eq_true h4) h2) (fun _ => by omega))
    rcases hu.1 hg with ⟨_, h6 | ⟨_, _, h6 | ⟨h7, h8, _⟩⟩⟩
    · exact hnoarg h6
    · omega
    · exact h2 ⟨h7, h8⟩
  rw [jp_path_comparer_compare_0_s]
  unfold je_path_comparer_compare_0
  simp only [V.str, V.list]
  rw [ba_beq]
  refine iff_dec (fun h2 _ _ => j1 _ ?_) (fun h2 => j1 _ ?_)
  · rw [Bool.eq_iff_iff, decide_eq_true_iff, beq_iff_eq]
    constructor
    · intro h3; exact ⟨h2, by omega⟩
    · intro h3; omega
  · rw [decide_eq_false (fun h3 => h2 h3.1)]
theorem greater_ok {l : Rks} {A B : List Nd} (hs : Sorted l) (hn : l.length ≤ 256) (hA : Good A) (hB : Good B) (hAB : A.length * B.length ≤ 1000000000)
    (hvA : ∀ x ∈ A, x.tm.var = true → x.tm.args = []) : ∀ (N i k : Nat), i + k < N → GrtC l A B i k := by
  intro N
  induction N with
  | zero => intro i k h; omega
  | succ N ih =>
  intro i k hN x y kn sm hx hy hkn hsm Q hQ
  have hi := (List.getElem?_eq_some_iff.1 hx).1
  have hk := (List.getElem?_eq_some_iff.1 hy).1
  have hlt := cell_lt hi hk
  have hsl := hkn.1
  refine C_path_comparer_greater _ _ _ _ _ _ _ _ _ _ _ ?_
  unfold vc_path_comparer_greater
  refine ⟨encA_length B, fun hb => ?_⟩
  rw [big_eq] at hb
  rw [at_eq (by omega)]
  have fin : ∀ kn' sm', Memo (gtR l) A B kn' → Memo Tm.eqB A B sm' → (∃ v, kn'[i * B.length + k]? = some v ∧ v ≠ 0) → jp_path_comparer_greater_0 Q ((i * B.length + k : Nat) : Int) (.l (encRks l)) (.l (encA A)) B.length kn'.length sm'.length (encA B) (encP kn') (encP sm') := fun kn' sm' hm' hm2 hv => by
    rw [jp_path_comparer_greater_0_s]
    unfold je_path_comparer_greater_0
    have hl' := hm'.1
    refine ⟨encP_length _, by omega, by omega, encP_length _, by omega, trivial, ?_⟩
    obtain ⟨v, h1, h2⟩ := hm'.2 i k x y hx hy
    obtain ⟨v', h3, h4⟩ := hv
    rw [h1] at h3
    obtain rfl := Option.some.inj h3
    rw [Int.toNat_natCast, encP_get h1]
    have hq := hQ kn' sm' hm' hm2
    have e : (v == 1) = gtR l x.tm y.tm := by
      rcases h2 with h2 | h2
      · exact absurd h2 h4
      · subst h2
        cases gtR l x.tm y.tm <;> rfl
    show Q (bD (v == 1)) _
    rw [e]
    exact hq
  obtain ⟨v0, hv0, hv0'⟩ := hkn.2 i k x y hx hy
  refine ⟨encP_length _, by omega, by omega, encP_length _, by omega, ?_⟩
  rw [Int.toNat_natCast, encP_get hv0]
  refine iff_beq (fun h0 => ?_) (fun h0 => fin kn sm hkn hsm ⟨v0, hv0, h0⟩)
  refine compare_ok hs hn hA hB hAB hvA (fun i' k' h => ih i' k' (by omega)) hx hy kn sm hkn hsm _ fun kn1 sm1 h1 h2 => ⟨rfl, rfl, ?_⟩
  have hl1 := h1.1
  have hj : i * B.length + k < kn1.length := by omega
  show (encP kn1).length = kn1.length ∧ 0 ≤ ((i * B.length + k : Nat) : Int) ∧ ((i * B.length + k : Nat) : Int) < (kn1.length : Int) ∧ (encP kn1).length = kn1.length ∧ i * B.length + k < kn1.length ∧
    iff (gtR l x.tm y.tm) (((encP kn1).set (i * B.length + k) (setV ((encP kn1).getD (i * B.length + k) []) 0 [V.i 2])).length = kn1.length ∧ 0 ≤ ((i * B.length + k : Nat) : Int) ∧ ((i * B.length + k : Nat) : Int) < (kn1.length : Int) ∧ ((encP kn1).set (i * B.length + k) (setV ((encP kn1).getD (i * B.length + k) []) 0 [V.i 2])).length = kn1.length ∧ i * B.length + k < kn1.length ∧
      jp_path_comparer_greater_0 Q ((i * B.length + k : Nat) : Int) (.l (encRks l)) (.l (encA A)) B.length kn1.length sm1.length (encA B) (((encP kn1).set (i * B.length + k) (setV ((encP kn1).getD (i * B.length + k) []) 0 [V.i 2])).set (i * B.length + k) (setV (((encP kn1).set (i * B.length + k) (setV ((encP kn1).getD (i * B.length + k) []) 0 [V.i 2])).getD (i * B.length + k) []) 0 [V.i 1])) (encP sm1))
    (jp_path_comparer_greater_0 Q ((i * B.length + k : Nat) : Int) (.l (encRks l)) (.l (encA A)) B.length kn1.length sm1.length (encA B) ((encP kn1).set (i * B.length + k) (setV ((encP kn1).getD (i * B.length + k) []) 0 [V.i 2])) (encP sm1))
  rw [encP_set _ _ _ hj]
  have hj2 : i * B.length + k < (kn1.set (i * B.length + k) 2).length := by rw [List.length_set]; exact hj
  rw [encP_set _ _ _ hj2, List.set_set]
  have e2 : (encP (kn1.set (i * B.length + k) 2)).length = kn1.length := by rw [encP_length, List.length_set]
  refine ⟨encP_length _, by omega, by omega, encP_length _, hj, iff_intro (fun h => ⟨e2, by omega, by omega, e2, hj, ?_⟩) (fun h => ?_)⟩
  · have := fin (kn1.set (i * B.length + k) 1) sm1 (h1.set hx hy (by rw [h]; rfl)) h2 ⟨1, by rw [List.getElem?_set_self hj], by omega⟩
    rw [List.length_set] at this
    exact this
  · have := fin (kn1.set (i * B.length + k) 2) sm1 (h1.set hx hy (by rw [h]; rfl)) h2 ⟨2, by rw [List.getElem?_set_self hj], by omega⟩
    rw [List.length_set] at this
    exact this
end Go.Proofs.YtehchnjnbbnkbaaGreat
set_option linter.unusedVariables false
set_option linter.unusedSimpArgs false
namespace Go.Proofs.YtehchnjnbbnkbaaGreat
open Go.Abs
theorem zeroRow_eq (n : Nat) : zeroRow [.int .u8] n = encP (List.replicate n 0) := by
  unfold zeroRow encP
  rw [List.map_replicate]
  rfl
theorem memo_start (p : Tm → Tm → Bool) (A B : List Nd) : Memo p A B (List.replicate (A.length * B.length) 0) := by
  refine ⟨List.length_replicate .., fun i k x y hx hy => ⟨0, ?_, .inl rfl⟩⟩
  have hi := (List.getElem?_eq_some_iff.1 hx).1
  have hk := (List.getElem?_eq_some_iff.1 hy).1
  rw [List.getElem?_replicate, if_pos (cell_lt hi hk)]
theorem formed_var {t : Tm} (h : t.formed = true) (hv : t.var = true) : t.args = [] := by
  rw [Tm.formed_eq, hv, if_pos rfl] at h
  simp only [Bool.and_eq_true, List.isEmpty_iff] at h
  exact h.2
theorem path_Above_ok (l : Rks) (s t : Tm) (hs : Sorted l) (hn : l.length ≤ 256) (hsf : s.formed = true) (hss : s.size ≤ 4000) (hts : t.size ≤ 4000) : Fn f_path_Above [rksD l, tD s, tD t] (bD (gtR l s t)) := fun Q hQ => by
  refine C_path_Above _ _ _ _ _ _ _ _ ?_
  unfold vc_path_Above
  have hlim := lim_eq
  have hG : Good [] := fun i n h => by simp at h
  have hA := ends_nds s [] hG
  simp only [List.nil_append, List.length_nil] at hA
  generalize hAe : nds 0 s = A at hA
  have hAl : A.length = 0 + s.size := hA.len
  refine ⟨.v (.sl t_path_node) (.l (encA A)), path_nodes_nil_ok s (by omega) _ fun C hC => ⟨?_, rfl⟩, ?_⟩
  · have := hC.eq
    rw [List.nil_append] at this
    rw [this, List.length_nil, hAe]; rfl
  refine path_nodes_ok t [] hG (by show 0 + _ ≤ _; omega) _ fun B hBe => ⟨rfl, rfl, ?_⟩
  have hBl : B.length = 0 + t.size := hBe.len
  have hprod : A.length * B.length ≤ 4000 * 4000 := Nat.mul_le_mul (by omega) (by omega)
  have hAe2 := encA_length A
  have hBe2 := encA_length B
  have hpa := Tm.size_pos s
  have hpb := Tm.size_pos t
  show (encA B).length = B.length ∧ 0 ≤ IntKind.i64.wrap (((encA A).length : Int) * (((B.length : Nat)) : Int)) ∧ _ ∧ IntKind.i64.wrap (((encA A).length : Int) * (((B.length : Nat)) : Int)) ≤ lim ∧ (encA B).length = B.length ∧ 0 ≤ IntKind.i64.wrap (((encA A).length : Int) * (((B.length : Nat)) : Int)) ∧ _ ∧ IntKind.i64.wrap (((encA A).length : Int) * (((B.length : Nat)) : Int)) ≤ lim ∧ ((encA A).length ≤ big → (encA B).length = B.length ∧ (B.length ≤ big →
    cl f_path_comparer_greater [.ptr (.own 0) 0, .v (.int .i64) (V.i (IntKind.i64.wrap (((encA A).length : Int) - (1 : Int)))), .v (.int .i64) (V.i (IntKind.i64.wrap ((((B.length : Nat) : Int)) - (1 : Int))))] [.cells [.v (.sl t_Rank) (V.l (encRks l)), .v (.sl t_path_node) (.l (encA A)), .osl (.own 1) B.length, .osl (.own 2) (IntKind.i64.wrap (((encA A).length : Int) * (((B.length : Nat)) : Int))).toNat, .osl (.own 3) (IntKind.i64.wrap (((encA A).length : Int) * (((B.length : Nat)) : Int))).toNat], .row t_path_node (encA B), .row t_uint8 (zeroRow [.int .u8] (IntKind.i64.wrap (((encA A).length : Int) * (((B.length : Nat)) : Int))).toNat), .row t_uint8 (zeroRow [.int .u8] (IntKind.i64.wrap (((encA A).length : Int) * (((B.length : Nat)) : Int))).toNat)] _))
  have ep : IntKind.i64.wrap (((encA A).length : Int) * (((B.length : Nat)) : Int)) = ((A.length * B.length : Nat) : Int) := by
    rw [hAe2, ← Int.natCast_mul, wrap_in _ (by omega) (by omega)]
  rw [ep]
  refine ⟨hBe2, by omega, rfl, by omega, hBe2, by omega, rfl, by omega, fun _ => ⟨hBe2, fun _ => ?_⟩⟩
  rw [wrap_in _ (by omega) (by omega), wrap_in _ (by omega) (by omega), Int.toNat_natCast, zeroRow_eq]
  obtain ⟨x, hx, hxt⟩ := hA.last
  obtain ⟨y, hy, hyt⟩ := hBe.last
  have e1 : ((encA A).length : Int) - 1 = ((A.length - 1 : Nat) : Int) := by omega
  have e2 : ((B.length : Nat) : Int) - 1 = ((B.length - 1 : Nat) : Int) := by omega
  rw [e1, e2]
  have hvA : ∀ x ∈ A, x.tm.var = true → x.tm.args = [] := fun z hz hv => by
    rcases hA.fm hsf z hz with h | h
    · cases h
    · exact formed_var h hv
  have g := greater_ok hs hn hA.good hBe.good (by omega) hvA _ _ _ (Nat.lt_succ_self _) x y _ _ hx hy (memo_start _ A B) (memo_start _ A B)
  have el : (List.replicate (A.length * B.length) (0 : Int)).length = A.length * B.length := List.length_replicate ..
  unfold hp at g
  rw [el] at g
  refine g _ fun kn sm h1 h2 => ⟨rfl, rfl, trivial, ?_⟩
  rw [hxt, hyt]
  exact hQ
def grErr (l : Rks) (s t : Tm) : Int := if rkErr l ≠ 0 then rkErr l else Tm.checkAll [s, t]
noncomputable def gr (l : Rks) (s t : Tm) : Bool := decide (grErr l s t = 0) && gtR l s t
theorem check_two {s t : Tm} (h : Tm.checkAll [s, t] = 0) : s.check = 0 ∧ t.check = 0 := by
  rw [Tm.checkAll_zero] at h
  exact ⟨h s (by simp), h t (by simp)⟩
theorem enc_two (s t : Tm) : [[V.s s.name, V.b s.var, V.l (Tm.encL s.args)], [V.s t.name, V.b t.var, V.l (Tm.encL t.args)]] = Tm.encL [s, t] := by
  rw [← Tm.enc_eq s, ← Tm.enc_eq t]; rfl
theorem path_Greater_ok (l : Rks) (s t : Tm) (hs : s.size ≤ small) (ht : t.size ≤ small) : Fn f_path_Greater [rksD l, tD s, tD t] (.tup [bD (gr l s t), iD (grErr l s t)]) := fun Q hQ => by
  refine C_path_Greater _ _ _ _ _ _ _ _ ?_
  unfold vc_path_Greater
  unfold gr grErr at hQ
  refine path_Check_ok l _ ⟨rfl, rfl, iff_bne (fun h => ⟨⟨trivial, trivial, trivial⟩, ?_⟩) (fun h => ?_)⟩
  · have h : rkErr l ≠ 0 := h
    rw [if_pos h, decide_eq_false h] at hQ
    exact hQ
  have h : rkErr l = 0 := h
  rw [if_neg (by simp [h])] at hQ
  rw [enc_two]
  refine term_All_ok [s, t] (fun x hx => ?_) _ ⟨rfl, rfl, iff_bne (fun h2 => ⟨⟨trivial, trivial, trivial⟩, ?_⟩) (fun h2 => ?_)⟩
  · rcases List.mem_cons.1 hx with rfl | hx
    · exact hs
    · rw [List.mem_singleton.1 hx]; exact ht
  · have h2 : Tm.checkAll [s, t] ≠ 0 := h2
    rw [decide_eq_false h2] at hQ
    exact hQ
  have h2 : Tm.checkAll [s, t] = 0 := h2
  obtain ⟨h3, h4⟩ := check_two h2
  rw [Tm.check_zero] at h3 h4
  obtain ⟨g1, g2⟩ := listed_zero (rkErr_zero h).1
  rw [h2, decide_eq_true rfl, Bool.true_and] at hQ
  exact path_Above_ok l s t (sorted_of g2) g1 h3.1 h3.2.1 h4.2.1 _ ⟨rfl, rfl, ⟨trivial, trivial, trivial⟩, hQ⟩
theorem l06_greater_ok (l : Rks) (s t : Tm) (hs : s.size ≤ small) (ht : t.size ≤ small) : Fn f_l06_greater [rksD l, tD s, tD t] (bD (gr l s t)) := fun Q hQ => by
  refine C_l06_greater _ _ _ _ _ _ _ _ ?_
  unfold vc_l06_greater
  refine path_Greater_ok l s t hs ht _ ⟨rfl, rfl, iff_beq (fun h => ⟨trivial, hQ⟩) (fun h => ⟨trivial, ?_⟩)⟩
  have h : grErr l s t ≠ 0 := h
  unfold gr at hQ
  rw [decide_eq_false h] at hQ
  exact hQ
theorem l06_variable_ok (x : ByteArray) : Fn f_l06_variable [sD x] (tD (.mk x true [])) := Fn.as fun Q hQ => by
  refine C_l06_variable _ _ ?_
  unfold vc_l06_variable
  exact ⟨⟨trivial, trivial, trivial, trivial⟩, hQ _ (.last3 _ _ _)⟩
theorem l06_symbol_ok (x : ByteArray) (l : List Tm) : Fn f_l06_symbol [sD x, tsD l] (tD (.mk x false l)) := fun Q hQ => by
  refine C_l06_symbol _ _ _ ?_
  unfold vc_l06_symbol
  exact ⟨⟨trivial, trivial, trivial, trivial⟩, hQ⟩
def bAdd : ByteArray := ByteArray.mk #[97, 100, 100]
def bS : ByteArray := ByteArray.mk #[115]
def exL : Rks := [⟨bAdd, 2, 0⟩, ⟨bS, 1, 0⟩]
def exX : Tm := .mk (ByteArray.mk #[120]) true []
def exY : Tm := .mk (ByteArray.mk #[121]) true []
def exS : Tm := .mk bAdd false [.mk bS false [exX], exY]
def exT : Tm := .mk bS false [.mk bAdd false [exX, exY]]
theorem ex_err1 : grErr exL exS exT = 0 := by decide
theorem ex_err2 : grErr exL exT exS = 0 := by decide
theorem ex_gt : Gt (rankOf exL) exS exT := by
  have hx : Gt (rankOf exL) exS exX := .sub _ _ (.mk bS false [exX]) rfl (by simp [exS, Tm.args]) (.arg _ _ rfl (by simp [Tm.args]))
  have hy : Gt (rankOf exL) exS exY := .arg _ _ rfl (by simp [exS, Tm.args])
  refine .prec _ _ rfl rfl (by decide) fun b hb => ?_
  have hb : b ∈ [Tm.mk bAdd false [exX, exY]] := hb
  rw [List.mem_singleton.1 hb]
  refine .lex _ _ (.mk bS false [exX]) exX 0 rfl rfl rfl rfl (fun c hc => ?_) rfl rfl rfl (.arg _ _ rfl (by simp [Tm.args]))
  have hc : c ∈ [exX, exY] := hc
  rcases List.mem_cons.1 hc with rfl | hc
  · exact hx
  · rw [List.mem_singleton.1 hc]; exact hy
theorem ex_gr1 : gr exL exS exT = true := by unfold gr; rw [decide_eq_true ex_err1, Bool.true_and]; exact gtB_true.2 ex_gt
theorem ex_gr2 : gr exL exT exS = false := by unfold gr; rw [decide_eq_true ex_err2, Bool.true_and]; exact gtB_false.2 ex_gt.asymm
end Go.Proofs.YtehchnjnbbnkbaaGreat
set_option linter.unusedVariables false
set_option linter.unusedSimpArgs false
namespace Go.Proofs.YtehchnjnbbnkbaaGreat
open Go.Abs
theorem l06_alive_ok : Fn f_l06_alive [] (bD true) := fun Q hQ => by
  refine C_l06_alive _ ?_
  unfold vc_l06_alive
  refine l06_variable_ok _ _ ⟨rfl, rfl, l06_variable_ok _ _ ⟨rfl, rfl, tD (.mk bS false [exX]), (l06_symbol_ok _ [exX]).here rfl, tD exS, (l06_symbol_ok _ [.mk bS false [exX], exY]).here rfl,
    tD (.mk bAdd false [exX, exY]), (l06_symbol_ok _ [exX, exY]).here rfl, tD exT, (l06_symbol_ok _ [.mk bAdd false [exX, exY]]).here rfl, ?_⟩⟩
  refine path_Greater_ok exL exS exT (by decide) (by decide) _ ⟨rfl, rfl, path_Greater_ok exL exT exS (by decide) (by decide) _ ⟨rfl, rfl, ?_⟩⟩
  rw [ex_gr1, ex_gr2, ex_err1, ex_err2]
  exact ⟨trivial, hQ⟩
theorem gr_true {l : Rks} {s t : Tm} : gr l s t = true ↔ grErr l s t = 0 ∧ Gt (rankOf l) s t := by
  unfold gr
  rw [Bool.and_eq_true, decide_eq_true_iff, gtB_true]
theorem grErr_zero {l : Rks} {s t : Tm} : grErr l s t = 0 ↔ rkErr l = 0 ∧ s.check = 0 ∧ t.check = 0 := by
  unfold grErr
  by_cases h : rkErr l = 0
  · rw [if_neg (by simp [h]), Tm.checkAll_zero]
    simp [h]
  · rw [if_pos h]
    exact ⟨fun h2 => absurd h2 h, fun h2 => absurd h2.1 h⟩
abbrev t3D (s t u : Tm) : D := .agg [.v .str (.s s.name), .v .bool (.b s.var), .v (.sl t_Term) (.l (Tm.encL s.args)), .v .str (.s t.name), .v .bool (.b t.var), .v (.sl t_Term) (.l (Tm.encL t.args)), .v .str (.s u.name), .v .bool (.b u.var), .v (.sl t_Term) (.l (Tm.encL u.args))]
end Go.Proofs.YtehchnjnbbnkbaaGreat
set_option linter.unusedVariables false
set_option linter.unusedSimpArgs false
namespace Go.Proofs.YtehchnjnbbnkbaaGreat
open Go Go.Abs
def encBs (l : List Bool) : LL := l.map fun b => [V.b b]
theorem encBs_length (l : List Bool) : (encBs l).length = l.length := by simp [encBs]
theorem encBs_getD (l : List Bool) (k : Nat) (h : k < l.length) : (encBs l).getD k [] = [V.b l[k]] := by
  unfold encBs
  rw [List.getD_eq_getElem?_getD, List.getElem?_map, List.getElem?_eq_getElem h]; rfl
noncomputable def orE (l : Rks) (r : Ru) : Int := if rkErr l ≠ 0 then rkErr l else sysE r
noncomputable def ors (l : Rks) (r : Ru) : List Bool := r.map fun x => gtR l x.1 x.2
noncomputable def orB (l : Rks) (r : Ru) : List Bool := if orE l r = 0 then ors l r else []
abbrev bsD (l : List Bool) : D := .v (.sl t_bool) (.l (encBs l))
theorem sysE_zero {r : Ru} (h : sysE r = 0) : r.length ≤ 64 ∧ (∀ x ∈ r, x.1.check = 0 ∧ x.2.check = 0) ∧ r.any extraB = false := by
  unfold sysE at h
  by_cases h1 : rules r ≠ 0
  · rw [if_pos h1] at h; exact absurd h h1
  · rw [if_neg h1] at h
    have h1' : rules r = 0 := Decidable.byContradiction h1
    obtain ⟨g1, g2⟩ := rules_zero h1'
    refine ⟨g1, g2, ?_⟩
    split at h
    · cases hb : r.any extraB with
      | false => rfl
      | true => rw [hb, if_pos rfl] at h; cases h
    · cases h
theorem path_Orients_ok (l : Rks) (r : Ru) (hB : ∀ x ∈ r, x.1.size ≤ small ∧ x.2.size ≤ small) : Fn f_path_Orients [rksD l, ruD r] (.tup [bsD (orB l r), iD (orE l r)]) := Fn.as fun Q hQ => by
  refine C_path_Orients _ _ _ ?_
  unfold vc_path_Orients
  have bad : ∀ e : Int, e ≠ 0 → orE l r = e → Q (.tup [.nil, iD e]) [] := fun e he h => by
    refine hQ _ (As.pair (.nil _ _ ?_) ?_)
    · show encBs (orB l r) = []
      unfold orB; rw [if_neg (by rw [h]; exact he)]; rfl
    · rw [h]; exact .refl _
  refine path_Check_ok l _ ⟨rfl, rfl, iff_bne (fun h => ⟨⟨trivial, trivial, trivial⟩, bad _ h ?_⟩) (fun h => ?_)⟩
  · have h : rkErr l ≠ 0 := h
    unfold orE; rw [if_pos h]
  have h : rkErr l = 0 := h
  have horE : orE l r = sysE r := by unfold orE; rw [if_neg (by simp [h])]
  refine term_CheckSystem_ok r hB _ ⟨rfl, rfl, iff_bne (fun h2 => ⟨⟨trivial, trivial, trivial⟩, bad _ h2 horE⟩) (fun h2 hb => ?_)⟩
  have h2 : sysE r = 0 := h2
  obtain ⟨g1, g2⟩ := listed_zero (rkErr_zero h).1
  obtain ⟨k1, k2, k3⟩ := sysE_zero h2
  have hl := encRs_length r
  rw [hl] at hb ⊢
  refine range_path_Orients_0 Q _ _ _ hb (fun k n y => n = k ∧ y = encBs ((ors l r).take k)) (fun k n y hk hJ K hK => ?_) (fun n y hJ => ?_) 0 _ _ (Nat.zero_le _) ⟨rfl, by simp [encBs]⟩
  · obtain ⟨rfl, rfl⟩ := hJ
    have hin := List.getElem_mem hk
    obtain ⟨c1, c2⟩ := k2 _ hin
    rw [Tm.check_zero] at c1 c2
    have hol : (ors l r).length = r.length := by simp [ors]
    simp only [encRs_getD _ _ hk, List.drop_zero, List.headD_cons, List.tail_cons]
    refine ⟨by omega, by rw [hl]; omega, path_Above_ok l (r[n]).1 (r[n]).2 (sorted_of g2) g1 c1.1 c1.2.1 c2.2.1 _ ⟨rfl, rfl, ?_, ?_, hK _ _ ⟨rfl, ?_⟩⟩⟩
    · rw [encBs_length, List.length_take]; omega
    · show n + 1 ≤ lim
      unfold lim; omega
    · rw [List.take_succ_eq_append_getElem (by omega)]
      have e : (ors l r)[n]'(by omega) = gtR l (r[n]).1 (r[n]).2 := by simp [ors]
      rw [e]
      simp [encBs]; rfl
  · obtain ⟨rfl, rfl⟩ := hJ
    have hol : (ors l r).length = r.length := by simp [ors]
    rw [List.take_of_length_le (by omega)]
    refine ⟨⟨by rw [encBs_length]; omega, trivial, trivial⟩, hQ _ ?_⟩
    have e : orB l r = ors l r := by unfold orB; rw [if_pos (by rw [horE]; exact h2)]
    rw [e, horE, h2]
    exact .refl _
end Go.Proofs.YtehchnjnbbnkbaaGreat
set_option linter.unusedVariables false
set_option linter.unusedSimpArgs false
namespace Go.Proofs.YtehchnjnbbnkbaaGreat
open Go.Abs
def boundS (l : Su) (x : ByteArray) : Bool := hasN (suNames l) x
theorem boundS_iff {l : Su} {x : ByteArray} : boundS l x = true ↔ ∃ y ∈ l, y.1 = x := by
  unfold boundS; rw [hasN_iff]; simp [suNames]
theorem boundS_false {l : Su} {x : ByteArray} : boundS l x = false ↔ ∀ y ∈ l, y.1 ≠ x := by
  rw [← Bool.not_eq_true, boundS_iff]
  exact ⟨fun h y hy e => h ⟨y, hy, e⟩, fun h ⟨y, hy, e⟩ => h y hy e⟩
def withS (l : Su) (v : ByteArray) (t : Tm) : Su := match l with
  | [] => [(v, t)]
  | x :: r => if cmpN x.1 v = -1 then x :: withS r v t else (v, t) :: x :: r
theorem withS_at (v : ByteArray) (t : Tm) : ∀ (k : Nat) (l : Su), k ≤ l.length → (∀ i (h : i < l.length), i < k → cmpN (l[i]).1 v = -1) → (∀ h : k < l.length, cmpN (l[k]).1 v ≠ -1) → withS l v t = l.take k ++ (v, t) :: l.drop k
  | 0, [], _, _, _ => rfl
  | 0, x :: r, _, _, h => by
    have := h (by simp)
    simp only [List.getElem_cons_zero] at this
    rw [withS, if_neg this]; rfl
  | k + 1, [], h, _, _ => by simp at h
  | k + 1, x :: r, h, hc, hn => by
    have h0 := hc 0 (by simp) (by omega)
    simp only [List.getElem_cons_zero] at h0
    rw [withS, if_pos h0, List.take_succ_cons, List.drop_succ_cons, List.cons_append, withS_at v t k r (by simpa using h) (fun i hi hk => by
      have := hc (i + 1) (by simpa using hi) (by omega); simpa using this) (fun h1 => by have := hn (by simpa using h1); simpa using this)]
theorem withS_length (l : Su) (v : ByteArray) (t : Tm) : (withS l v t).length = l.length + 1 := by
  induction l with
  | nil => rfl
  | cons x r ih => unfold withS; split <;> simp_all
theorem withS_mem {l : Su} {v : ByteArray} {t : Tm} {y : ByteArray × Tm} : y ∈ withS l v t ↔ y = (v, t) ∨ y ∈ l := by
  induction l with
  | nil => simp [withS]
  | cons x r ih =>
    unfold withS
    split
    · rw [List.mem_cons, ih, List.mem_cons]
      constructor
      · rintro (h | h | h)
        · exact .inr (.inl h)
        · exact .inl h
        · exact .inr (.inr h)
      · rintro (h | h | h)
        · exact .inr (.inl h)
        · exact .inl h
        · exact .inr (.inr h)
    · simp
def SortS : Su → Prop
  | [] => True
  | x :: r => (∀ y ∈ r, cmpN x.1 y.1 = -1) ∧ SortS r
theorem SortS.lt : ∀ {l : Su}, SortS l → ∀ i j (hi : i < l.length) (hj : j < l.length), i < j → cmpN (l[i]).1 (l[j]).1 = -1
  | [], _, i, _, hi, _, _ => by simp at hi
  | x :: r, h, i, j, hi, hj, hij => by
    cases j with
    | zero => omega
    | succ j =>
      simp only [List.getElem_cons_succ]
      cases i with
      | zero => exact h.1 _ (List.getElem_mem _)
      | succ i => simp only [List.getElem_cons_succ]; exact SortS.lt h.2 i j (by simpa using hi) (by simpa using hj) (by omega)
theorem withS_sort {v : ByteArray} {t : Tm} : ∀ {l : Su}, SortS l → (∀ y ∈ l, y.1 ≠ v) → SortS (withS l v t)
  | [], _, _ => ⟨fun y hy => by simp at hy, trivial⟩
  | x :: r, h, hn => by
    unfold withS
    split
    · rename_i hx
      refine ⟨fun y hy => ?_, withS_sort h.2 fun y hy => hn y (List.mem_cons_of_mem _ hy)⟩
      rcases withS_mem.1 hy with rfl | hy
      · exact hx
      · exact h.1 y hy
    · rename_i hx
      have hvx : cmpN v x.1 = -1 := by
        rcases cmpN_cases x.1 v with g | g | g
        · exact absurd g.1 hx
        · exact absurd g.2 (hn x (by simp))
        · exact g.2
      refine ⟨fun y hy => ?_, h⟩
      rcases List.mem_cons.1 hy with rfl | hy
      · exact hvx
      · exact cmpN_trans hvx (h.1 y hy)
theorem image_sort {l : Su} (h : SortS l) {y : ByteArray × Tm} (hy : y ∈ l) : Tm.image l y.1 = y.2 := by
  induction l with
  | nil => simp at hy
  | cons x r ih =>
    rcases List.mem_cons.1 hy with rfl | hy
    · rw [Tm.image, if_pos rfl]
    · have hne : x.1 ≠ y.1 := fun e => by
        have := h.1 y hy
        rw [e, cmpN_self] at this; omega
      rw [Tm.image, if_neg hne]; exact ih h.2 hy
theorem encS_take (l : Su) (k : Nat) : encS (l.take k) = (encS l).take k := by simp [encS, List.map_take]
theorem encS_drop (l : Su) (k : Nat) : encS (l.drop k) = (encS l).drop k := by simp [encS, List.map_drop]
theorem encS_withS (v : ByteArray) (t : Tm) (k : Nat) (l : Su) (h1 : k ≤ l.length) (h2 : ∀ i (h : i < l.length), i < k → cmpN (l[i]).1 v = -1) (h3 : ∀ h : k < l.length, cmpN (l[k]).1 v ≠ -1) :
    encS (withS l v t) = (encS l).take k ++ (V.s v :: t.enc) :: (encS l).drop k := by
  rw [withS_at v t k l h1 h2 h3]; simp [encS, encB, List.map_take, List.map_drop]
theorem r03_Bound_ok (l : Su) (x : ByteArray) : Fn f_r03_Bound [suD l, sD x] (bD (boundS l x)) := fun Q hQ => by
  refine C_r03_Bound _ _ _ fun hb => ?_
  have hl := encS_length l
  rw [hl] at hb ⊢
  refine range_r03_Bound_0 Q _ _ _ hb (fun k => ∀ i (h : i < l.length), i < k → (l[i]).1 ≠ x) (fun k hk hJ K hK => ?_) (fun hJ => ?_) 0 (Nat.zero_le _) (fun i _ h => by omega)
  · simp only [encS_getD _ k hk, List.drop_zero, List.headD_cons, V.str]
    refine ⟨by omega, by omega, ?_⟩
    rw [ba_beq]
    refine iff_dec (fun h => ⟨trivial, ?_⟩) (fun h => hK fun i hi hik => ?_)
    · rw [boundS_iff.2 ⟨_, List.getElem_mem hk, h⟩] at hQ; exact hQ
    · rcases Nat.lt_succ_iff_lt_or_eq.1 hik with h8 | h8
      · exact hJ i hi h8
      · subst h8; exact h
  · rw [boundS_false.2 fun y hy => by
      obtain ⟨k, hk, rfl⟩ := List.mem_iff_getElem.1 hy
      exact hJ k hk hk] at hQ
    exact ⟨trivial, hQ⟩
theorem r03_with_ok (l : Su) (v : ByteArray) (t : Tm) (hB : l.length + 1 ≤ lim) : Fn f_r03_with [suD l, sD v, tD t] (suD (withS l v t)) := fun Q hQ => by
  refine C_r03_with _ _ _ _ _ _ ?_
  unfold vc_r03_with
  have hl := encS_length l
  have hlim : lim = 549755813888 := rfl
  refine rule_r03_with_0 Q (fun x0 x1 x7 y0 y1 y2 => x0 = encS l ∧ x1 = v ∧ (y0 = t.name ∧ y1 = t.var ∧ y2 = Tm.encL t.args) ∧ ∃ k : Nat, x7 = k ∧ k ≤ l.length ∧ ∀ i (h : i < l.length), i < k → cmpN (l[i]).1 v = -1) (fun x0 x1 x7 _ _ _ => l.length - x7.toNat) ?_ _ _ _ _ _ _ ⟨rfl, rfl, ⟨rfl, rfl, rfl⟩, 0, rfl, Nat.zero_le _, fun i _ h => by omega⟩
  intro x0 x1 x7 y0 y1 y2 hI m0 ih
  obtain ⟨e0, e1, ⟨e2, e3, e4⟩, k, e5, hk, hJ⟩ := hI
  rw [e5] at ih
  rw [e0, e1, e2, e3, e4, e5]
  unfold st_r03_with_0
  intro hb
  have t1 : ((encS l).take ((k : Nat) : Int).toNat).drop (0 : Int).toNat = encS (l.take k) := by simp [encS_take]
  have t2 : ((encS l).take (((encS l).length : Int)).toNat).drop ((k : Nat) : Int).toNat = encS (l.drop k) := by simp [encS_drop]
  have l1 : (encS (l.take k)).length = k := by rw [encS_length, List.length_take]; omega
  have l2 : (encS (l.drop k)).length = l.length - k := by rw [encS_length, List.length_drop]
  rw [t1, t2, l1, l2, hl]
  simp only [List.nil_append, List.length_nil, List.length_append, List.length_cons, l1, l2]
  have fin : ∀ _ : Unit, (∀ h : k < l.length, cmpN (l[k]).1 v ≠ -1) → Q (.v (.sl t_Bind) (V.l (encS (l.take k) ++ [[V.s v, V.s t.name, V.b t.var, V.l (Tm.encL t.args)]] ++ encS (l.drop k)))) [] := fun _ h => by
    have e := encS_withS v t k l hk hJ h
    have e2 : encS (l.take k) ++ [[V.s v, V.s t.name, V.b t.var, V.l (Tm.encL t.args)]] ++ encS (l.drop k) = encS (withS l v t) := by
      rw [e, encS_take, encS_drop, Tm.enc_eq]; simp
    rw [e2]; exact hQ
  refine iff_dec (fun h => ?_) (fun h => ?_)
  · have hk' : k < l.length := by omega
    have hx := encS_getD l k hk'
    simp only [Int.toNat_natCast, hx, List.drop_zero, List.headD_cons]
    refine ⟨by omega, by omega, r01_CompareNames_ok _ _ _ ⟨rfl, rfl, iff_dec (fun h2 => ?_) (fun h2 => ?_)⟩⟩
    · have h2 : cmpN (l[k]).1 v < 0 := h2
      have hm : cmpN (l[k]).1 v = -1 := by rcases cmpN_cases (l[k]).1 v with h | h | h <;> omega
      rw [wrap_in _ (by omega) (by omega)]
      refine ih _ _ _ _ _ _ ⟨rfl, rfl, ⟨rfl, rfl, rfl⟩, k + 1, by omega, by omega, fun i hi hik => ?_⟩ (by omega)
      rcases Nat.lt_succ_iff_lt_or_eq.1 hik with h | h
      · exact hJ i hi h
      · subst h; exact hm
    · have h2 : ¬ cmpN (l[k]).1 v < 0 := h2
      have h2' : cmpN (l[k]).1 v ≠ -1 := by omega
      exact ⟨by omega, by omega, by omega, trivial, by omega, by omega, by omega, by omega, by omega, by omega, by omega, by omega, by omega, fin () fun _ => h2'⟩
  · exact ⟨by omega, by omega, by omega, trivial, by omega, by omega, by omega, by omega, by omega, by omega, by omega, by omega, by omega, fin () fun h4 => absurd h4 (by omega)⟩
namespace Tm
mutual
def mat : Tm → Su → Tm → Su × Bool
  | mk n v xs, s, t => if v then (if boundS s n then (s, eqB (image s n) t) else (withS s n t, true)) else
      if t.var || !(decide (t.name = n)) || !(decide (t.args.length = xs.length)) then ([], false) else matL xs s t.args
def matL : List Tm → Su → List Tm → Su × Bool
  | [], s, _ => (s, true)
  | p :: r, s, ts => match ts with
    | [] => (s, true)
    | t :: ts => if (mat p s t).2 then matL r (mat p s t).1 ts else ([], false)
end
theorem mat_eq : ∀ (p : Tm) (s : Su) (t : Tm), mat p s t = if p.var then (if boundS s p.name then (s, eqB (image s p.name) t) else (withS s p.name t, true)) else
      if t.var || !(decide (t.name = p.name)) || !(decide (t.args.length = p.args.length)) then ([], false) else matL p.args s t.args
  | mk _ _ _, _, _ => rfl
theorem matL_length : ∀ (ps : List Tm), (∀ p ∈ ps, ∀ (s : Su) (t : Tm), (mat p s t).1.length ≤ s.length + p.size) → ∀ (s : Su) (ts : List Tm), (matL ps s ts).1.length ≤ s.length + sizeL ps
  | [], _, s, ts => by simp [matL, sizeL]
  | p :: r, h, s, [] => by simp [matL]
  | p :: r, h, s, t :: ts => by
    have h1 := h p (by simp) s t
    have h2 := matL_length r (fun q hq => h q (List.mem_cons_of_mem _ hq)) (mat p s t).1 ts
    simp only [matL, sizeL]
    split
    · omega
    · simp
theorem mat_length : ∀ (p : Tm) (s : Su) (t : Tm), (mat p s t).1.length ≤ s.length + p.size := ind fun p ih s t => by
  rw [mat_eq]
  have h := matL_length p.args ih s t.args
  have hz := size_eq p
  split
  · split
    · show s.length ≤ _; omega
    · show (withS s p.name t).length ≤ _
      rw [withS_length]; have := size_pos p; omega
  · split
    · simp
    · omega
def matK (ps : List Tm) (s : Su) (ts : List Tm) (k : Nat) : Su × Bool := matL (ps.take k) s ts
theorem matL_step : ∀ (k : Nat) (ps : List Tm) (s : Su) (ts : List Tm) (h1 : k < ps.length) (h2 : k < ts.length), (matK ps s ts k).2 = true → matK ps s ts (k + 1) = if (mat ps[k] (matK ps s ts k).1 ts[k]).2 then mat ps[k] (matK ps s ts k).1 ts[k] else ([], false)
  | 0, p :: r, s, t :: ts, _, _, _ => by
    simp only [matK, List.take_succ_cons, List.take_zero, matL, List.getElem_cons_zero]
    split
    · rename_i h; rw [← h]
    · rfl
  | k + 1, p :: r, s, t :: ts, h1, h2, h => by
    simp only [matK, List.take_succ_cons, matL, List.getElem_cons_succ] at h ⊢
    split
    · rename_i hm
      rw [if_pos hm] at h
      have := matL_step k r (mat p s t).1 ts (by simpa using h1) (by simpa using h2) h
      exact this
    · rename_i hm
      rw [if_neg hm] at h; cases h
theorem matK_false : ∀ (k : Nat) (ps : List Tm) (s : Su) (ts : List Tm), k ≤ ps.length → (matK ps s ts k).2 = false → matL ps s ts = ([], false)
  | 0, ps, s, ts, _, h => by simp [matK, matL] at h
  | k + 1, p :: r, s, [], hk, h => by simp [matK, matL] at h
  | k + 1, p :: r, s, t :: ts, hk, h => by
    simp only [matK, List.take_succ_cons, matL] at h ⊢
    split
    · rename_i hm
      rw [if_pos hm] at h
      exact matK_false k r _ ts (by simpa using hk) h
    · rfl
theorem matK_length (ps : List Tm) (s : Su) (ts : List Tm) (k : Nat) : (matK ps s ts k).1.length ≤ s.length + sizeL (ps.take k) := matL_length _ (fun p _ => mat_length p) s ts
end Tm
theorem r03_match_ok : ∀ (p : Tm) (s : Su) (t : Tm), s.length + p.size ≤ lim → Fn f_r03_match [suD s, tD p, tD t] (.tup [suD (Tm.mat p s t).1, bD (Tm.mat p s t).2]) := Tm.ind fun p ih s t hB => Fn.as fun Q hQ => by
  refine C_r03_match _ _ _ _ _ _ _ _ ?_
  unfold vc_r03_match
  have hlim : lim = 549755813888 := rfl
  have hsz := Tm.size_eq p
  have hp := Tm.size_pos p
  rw [Tm.mat_eq] at hQ
  have bad : (if p.var then (if boundS s p.name then (s, Tm.eqB (Tm.image s p.name) t) else (withS s p.name t, true)) else
      if t.var || !(decide (t.name = p.name)) || !(decide (t.args.length = p.args.length)) then ([], false) else Tm.matL p.args s t.args) = (([], false) : Su × Bool) → Q (.tup [.nil, .v .bool (V.b false)]) [] := fun h => by
    rw [h] at hQ
    refine hQ _ (.tup _ _ rfl fun j => ?_)
    match j with
    | 0 => exact .nil _ _ rfl
    | 1 => exact .refl _
    | j + 2 => exact .refl _
  refine iff_intro (fun h => ?_) (fun h => ?_)
  · rw [if_pos h] at hQ
    refine r03_Bound_ok s p.name _ ⟨rfl, rfl, iff_intro (fun h1 => ?_) (fun h1 => ?_)⟩
    · have h1 : boundS s p.name = true := h1
      rw [if_pos h1] at hQ
      exact ⟨tD (Tm.image s p.name), (r01_Image_ok s p.name).here rfl, r01_Equal_ok _ _ _ ⟨rfl, rfl, ⟨trivial, trivial, trivial⟩, hQ _ (.refl _)⟩⟩
    · have h1 : boundS s p.name = false := h1
      rw [if_neg (by rw [h1]; simp)] at hQ
      exact r03_with_ok s p.name t (by omega) _ ⟨rfl, rfl, ⟨trivial, trivial, trivial⟩, hQ _ (.refl _)⟩
  · rw [if_neg (by rw [h]; simp)] at hQ bad
    refine iff_intro (fun h1 => ⟨⟨trivial, trivial, trivial⟩, bad (by rw [h1]; rfl)⟩) (fun h1 => ?_)
    rw [ba_beq]
    refine iff_not (iff_dec (fun h2 hb hb2 => ?_) (fun h2 => ⟨⟨trivial, trivial, trivial⟩, bad (by rw [h1, decide_eq_false h2]; rfl)⟩))
    have l1 := Tm.encL_length t.args
    have l2 := Tm.encL_length p.args
    rw [l1, l2]
    rw [l1] at hb
    refine iff_bne (fun h3 => ⟨⟨trivial, trivial, trivial⟩, bad (by rw [h1, decide_eq_true h2, decide_eq_false (show ¬ t.args.length = p.args.length by omega)]; rfl)⟩) (fun h3 => ?_)
    have h3 : t.args.length = p.args.length := by omega
    rw [h1, decide_eq_true h2, decide_eq_true h3] at hQ bad
    simp only [Bool.not_true, Bool.or_false, Bool.false_eq_true, if_false] at hQ bad
    rw [jp_r03_match_0_s]
    intro _
    rw [l1]
    refine range_r03_match_0 Q _ _ _ _ _ _ _ hb (fun k y => y = .l (encS (Tm.matK p.args s t.args k).1) ∧ (Tm.matK p.args s t.args k).2 = true) (fun k y hk hJ K hK => ?_) (fun y hJ => ?_) 0 _ (Nat.zero_le _) ⟨rfl, rfl⟩
    · have hk2 : k < p.args.length := by omega
      obtain ⟨rfl, hJ⟩ := hJ
      simp only [Tm.encL_getD _ k hk, Tm.encL_getD _ k hk2, Tm.enc_eq, List.drop_zero, List.headD_cons, List.tail_cons]
      have hst := Tm.matL_step k p.args s t.args hk2 hk hJ
      have hlen := Tm.matK_length p.args s t.args k
      have g1 := Tm.sizeL_take _ k hk2
      have g2 := Tm.sizeL_take_le p.args (k + 1)
      refine ⟨by omega, by omega, by omega, by omega, .tup [suD _, bD _], (ih _ (List.getElem_mem hk2) (Tm.matK p.args s t.args k).1 (t.args[k]) (by omega)).here rfl, ?_⟩
      refine iff_not (iff_intro (fun h4 => hK _ ⟨?_, ?_⟩) (fun h4 => ⟨⟨trivial, trivial, trivial⟩, bad ?_⟩))
      · have h4 : (Tm.mat (p.args[k]) (Tm.matK p.args s t.args k).1 (t.args[k])).2 = true := h4
        rw [hst, if_pos h4]; rfl
      · have h4 : (Tm.mat (p.args[k]) (Tm.matK p.args s t.args k).1 (t.args[k])).2 = true := h4
        rw [hst, if_pos h4]; exact h4
      · have h4 : (Tm.mat (p.args[k]) (Tm.matK p.args s t.args k).1 (t.args[k])).2 = false := h4
        exact Tm.matK_false (k + 1) _ _ _ hk2 (by rw [hst, if_neg (by rw [h4]; simp)])
    · obtain ⟨rfl, hJ⟩ := hJ
      have e : Tm.matK p.args s t.args t.args.length = Tm.matL p.args s t.args := by rw [Tm.matK, h3, List.take_length]
      rw [e] at hJ ⊢
      rw [hJ] at hQ
      exact ⟨⟨trivial, trivial, trivial⟩, hQ _ (.refl _)⟩
theorem r03_Match_ok (p t : Tm) (hB : p.size ≤ lim) : Fn f_r03_Match [tD p, tD t] (.tup [suD (Tm.mat p [] t).1, bD (Tm.mat p [] t).2]) := fun Q hQ => by
  refine C_r03_Match _ _ _ _ _ _ _ ?_
  unfold vc_r03_Match
  exact r03_match_ok p [] t (by simpa using hB) _ ⟨rfl, rfl, ⟨trivial, trivial, trivial⟩, hQ⟩
end Go.Proofs.YtehchnjnbbnkbaaGreat
set_option linter.unusedVariables false
set_option linter.unusedSimpArgs false
namespace Go.Proofs.YtehchnjnbbnkbaaGreat
open Go Go.Abs
theorem sizeL_set : ∀ (l : List Tm) (i : Nat) (x : Tm) (hi : i < l.length), Tm.sizeL (l.set i x) + (l[i]).size = Tm.sizeL l + x.size
  | a :: r, 0, x, _ => by simp [Tm.sizeL]; omega
  | a :: r, i + 1, x, h => by
    have := sizeL_set r i x (by simpa using h)
    simp [Tm.sizeL]; omega
theorem put_size : ∀ (p : List Int) (t x : Tm), Tm.at_ t p ≠ none → (Tm.put t p x).size ≤ t.size + x.size
  | [], t, x, _ => by show x.size ≤ _; omega
  | i :: p, t, x, ha => by
    simp only [Tm.at_] at ha
    have h1 : ¬ i < 0 := fun h => by rw [if_pos h] at ha; exact ha rfl
    rw [if_neg h1] at ha
    have h2 : ¬ i ≥ (t.args.length : Int) := fun h => by rw [if_pos h] at ha; exact ha rfl
    rw [if_neg h2] at ha
    have hi : i.toNat < t.args.length := by omega
    have eg : t.args.getD i.toNat Tm.dflt = t.args[i.toNat] := by rw [List.getD_eq_getElem?_getD, List.getElem?_eq_getElem hi]; rfl
    have ih := put_size p _ x ha
    have hs := sizeL_set t.args i.toNat (Tm.put (t.args.getD i.toNat Tm.dflt) p x) hi
    have e : (Tm.put t (i :: p) x).size = 1 + Tm.sizeL (t.args.set i.toNat (Tm.put (t.args.getD i.toNat Tm.dflt) p x)) := rfl
    rw [eg] at ih hs e
    have := Tm.size_eq t
    omega
theorem r04_replaced_ok : ∀ (p : List Int) (t x : Tm), Tm.at_ t p ≠ none → t.size + x.size ≤ 1099511627776 → Fn f_r04_replaced [tD t, psD p, iD x.size, iD x.depth] (.tup [iD (Tm.put t p x).size, iD (Tm.put t p x).depth])
  | [], t, x, _, _ => fun Q hQ => by
    refine C_r04_replaced _ _ _ _ _ _ _ ?_
    unfold vc_r04_replaced
    exact fun _ => iff_beq (fun _ => ⟨⟨trivial, trivial, trivial⟩, hQ⟩) (fun h => absurd rfl h)
  | i :: p, t, x, ha, hB => fun Q hQ => by
    refine C_r04_replaced _ _ _ _ _ _ _ ?_
    unfold vc_r04_replaced
    intro hb0
    have hps := put_size (i :: p) t x ha
    have hl' : (encP (i :: p)).length = p.length + 1 := encP_length (i :: p)
    simp only [Tm.at_] at ha
    have h1 : ¬ i < 0 := fun h => by rw [if_pos h] at ha; exact ha rfl
    rw [if_neg h1] at ha
    have h2 : ¬ i ≥ (t.args.length : Int) := fun h => by rw [if_pos h] at ha; exact ha rfl
    rw [if_neg h2] at ha
    have hi : i.toNat < t.args.length := by omega
    have eg : t.args.getD i.toNat Tm.dflt = t.args[i.toNat] := by rw [List.getD_eq_getElem?_getD, List.getElem?_eq_getElem hi]; rfl
    rw [eg] at ha
    have e0 : (encP (i :: p)).getD ((0 : Int)).toNat [] = [.i i] := rfl
    have e1 : ((encP (i :: p)).take (((encP (i :: p)).length : Int)).toNat).drop (1 : Int).toNat = encP p := by
      rw [Int.toNat_natCast, List.take_length]; rfl
    refine iff_beq (fun h => by omega) (fun _ hb => ?_)
    have hl := Tm.encL_length t.args
    rw [hl] at hb ⊢
    have ep : Tm.put t (i :: p) x = .mk t.name false (t.args.set i.toNat (Tm.put t.args[i.toNat] p x)) := by rw [Tm.put, eg]
    rw [ep] at hQ hps
    generalize hA : t.args.set i.toNat (Tm.put t.args[i.toNat] p x) = A at hQ hps
    have hAl : A.length = t.args.length := by rw [← hA]; simp
    have esz : (Tm.mk t.name false A).size = 1 + Tm.sizeL A := rfl
    have edp : (Tm.mk t.name false A).depth = Tm.depthL A + 1 := rfl
    have hds := Tm.depth_le_size (Tm.mk t.name false A)
    rw [esz] at hps hds
    rw [edp] at hds
    refine range_r04_replaced_0 Q _ _ _ _ _ hb (fun k n d => n = ((1 + Tm.sizeL (A.take k) : Nat) : Int) ∧ d = ((Tm.depthL (A.take k) : Nat) : Int)) (fun k n d hk hJ M hM => ?_) (fun n d hJ => ?_) 0 _ _ (Nat.zero_le _) ⟨by simp [Tm.sizeL], by simp [Tm.depthL]⟩
    · obtain ⟨rfl, rfl⟩ := hJ
      have hkA : k < A.length := by omega
      have hin := List.getElem_mem hk
      have hsk := Tm.size_mem hin
      have hst := Tm.sizeL_take A k hkA
      have hdt := Tm.depthL_take A k hkA
      have hsl := Tm.sizeL_take_le A (k + 1)
      have fin : ∀ v w : V, v.int = ((A[k]).size : Int) → w.int = ((A[k]).depth : Int) → jp_r04_replaced_0 Q M (encP (i :: p)) x.size x.depth ((1 + Tm.sizeL (A.take k) : Nat) : Int) ((Tm.depthL (A.take k) : Nat) : Int) v w (Tm.encL t.args) (t.args.length : Int) (k : Int) := fun v w hv hw => by
        rw [jp_r04_replaced_0_s]
        unfold je_r04_replaced_0
        rw [hv, hw, wrap_in _ (by omega) (by omega)]
        refine hM _ _ ⟨by rw [hst]; omega, ?_⟩
        rw [hdt]
        split <;> omega
      rw [hl, e0, e1, hl', Tm.encL_getD _ k hk, Tm.enc_eq]
      refine ⟨by omega, by omega, iD (t.args[k]).size, (r01_Size_ok _ (by unfold small; omega)).here rfl, r01_Depth_ok _ (by unfold small; omega) _ ⟨rfl, rfl, by omega, by omega, ?_⟩⟩
      refine iff_beq (fun he => ?_) (fun he => ?_)
      · have he' : ((k : Nat) : Int) = i := he
        have hki : i.toNat = k := by omega
        have hAk : A[k] = Tm.put t.args[k] p x := by
          subst hA; simp [hki]
        have ha2 : Tm.at_ t.args[k] p ≠ none := by
          have : t.args[i.toNat] = t.args[k] := by simp [hki]
          rw [← this]; exact ha
        refine ⟨by omega, by omega, by omega, .tup [iD (Tm.put t.args[k] p x).size, iD (Tm.put t.args[k] p x).depth], (r04_replaced_ok p t.args[k] x ha2 (by omega)).here rfl, fin _ _ ?_ ?_⟩
        · rw [hAk]; rfl
        · rw [hAk]; rfl
      · have he' : ((k : Nat) : Int) ≠ i := he
        have hki : i.toNat ≠ k := by omega
        have hAk : A[k] = t.args[k] := by
          subst hA; simp [List.getElem_set, hki]
        exact fin _ _ (by rw [hAk]; rfl) (by rw [hAk]; rfl)
    · obtain ⟨rfl, rfl⟩ := hJ
      rw [← hAl, List.take_length]
      refine ⟨⟨trivial, trivial, trivial⟩, ?_⟩
      rw [wrap_in _ (by omega) (by omega)]
      rw [esz, edp] at hQ
      exact hQ
end Go.Proofs.YtehchnjnbbnkbaaGreat
set_option linter.unusedVariables false
set_option linter.unusedSimpArgs false
namespace Go.Proofs.YtehchnjnbbnkbaaGreat
open Go Go.Abs
def rlOf (r : Ru) (i : Int) : Tm × Tm := r.getD i.toNat (Tm.dflt, Tm.dflt)
def sbOf (t : Tm) (p : List Int) : Tm := (Tm.at_ t p).getD Tm.dflt
def subErr (r : Ru) (t : Tm) (i : Int) (p : List Int) : Int :=
  if i < 0 then 8 else if i ≥ (r.length : Int) then 8 else if (Tm.at_ t p).isNone then 8 else if (Tm.mat (rlOf r i).1 [] (sbOf t p)).2 then 0 else 9
def suOf (r : Ru) (t : Tm) (i : Int) (p : List Int) : Su := if subErr r t i p = 0 then (Tm.mat (rlOf r i).1 [] (sbOf t p)).1 else []
theorem r04_Subst_ok (r : Ru) (t : Tm) (i : Int) (p : List Int) (hB : ∀ x ∈ r, x.1.size ≤ lim) : Fn f_r04_Subst [ruD r, tD t, .agg [.v (.int .i64) (.i i), .v (.sl t_int) (.l (encP p))]] (.tup [suD (suOf r t i p), iD (subErr r t i p)]) := Fn.as fun Q hQ => by
  refine C_r04_Subst _ _ _ _ _ _ _ ?_
  unfold vc_r04_Subst
  have bad : ∀ e : Int, e ≠ 0 → subErr r t i p = e → ((True ∧ True ∧ True) ∧ Q (.tup [.nil, .v (.int .i64) (V.i e)]) []) := fun e he h => ⟨⟨trivial, trivial, trivial⟩, hQ _ (by
    have : suOf r t i p = [] := by unfold suOf; rw [if_neg (by rw [h]; exact he)]
    rw [this, h]
    exact As.pair (.nil _ _ rfl) (.refl _))⟩
  have hl := encRs_length r
  have b1 : i < 0 → subErr r t i p = 8 := fun h => by unfold subErr; rw [if_pos h]
  have b2 : ¬ i < 0 → i ≥ (r.length : Int) → subErr r t i p = 8 := fun h h2 => by unfold subErr; rw [if_neg h, if_pos h2]
  cases hat : Tm.at_ t p with
  | none =>
    refine r01_At_ok t p _ ?_
    rw [hat]
    refine ⟨rfl, rfl, iff_dec (fun h => bad 8 (by omega) (b1 h)) (fun h hb => iff_dec (fun h2 => bad 8 (by omega) (b2 h (by rw [hl] at h2; exact h2))) (fun h2 => ?_))⟩
    rw [hl] at h2
    exact bad 8 (by omega) (by unfold subErr; rw [if_neg h, if_neg h2, hat]; rfl)
  | some s =>
    refine r01_At_ok t p _ ?_
    rw [hat]
    refine ⟨rfl, rfl, iff_dec (fun h => bad 8 (by omega) (b1 h)) (fun h hb => iff_dec (fun h2 => bad 8 (by omega) (b2 h (by rw [hl] at h2; exact h2))) (fun h2 => ?_))⟩
    show jp_r04_Subst_0 _ (encRs r) i (encP p) (V.s s.name) (V.b s.var) (V.l (Tm.encL s.args))
    rw [jp_r04_Subst_0_s]
    unfold je_r04_Subst_0
    rw [hl] at h2 ⊢
    have hk : i.toNat < r.length := by omega
    have hrl : rlOf r i = r[i.toNat] := by unfold rlOf; rw [List.getD_eq_getElem?_getD, List.getElem?_eq_getElem hk]; rfl
    have hsb : sbOf t p = s := by unfold sbOf; rw [hat]; rfl
    have hse : subErr r t i p = if (Tm.mat (r[i.toNat]).1 [] s).2 then 0 else 9 := by
      unfold subErr; rw [if_neg h, if_neg h2, hat, hrl, hsb]; rfl
    rw [encRs_getD r _ hk]
    refine ⟨by omega, by omega, .tup [suD (Tm.mat (r[i.toNat]).1 [] s).1, bD (Tm.mat (r[i.toNat]).1 [] s).2], (r03_Match_ok (r[i.toNat]).1 s (hB _ (List.getElem_mem hk))).here rfl, ?_⟩
    refine iff_not (iff_intro (fun hm => ⟨⟨trivial, trivial, trivial⟩, hQ _ ?_⟩) (fun hm => bad 9 (by omega) ?_))
    · have hm' : (Tm.mat (r[i.toNat]).1 [] s).2 = true := hm
      rw [hm', if_pos rfl] at hse
      have : suOf r t i p = (Tm.mat (r[i.toNat]).1 [] s).1 := by unfold suOf; rw [if_pos hse, hrl, hsb]
      rw [this, hse]
      exact .refl _
    · have hm' : (Tm.mat (r[i.toNat]).1 [] s).2 = false := hm
      rw [hse, hm']; rfl
end Go.Proofs.YtehchnjnbbnkbaaGreat
set_option linter.unusedVariables false
set_option linter.unusedSimpArgs false
namespace Go.Proofs.YtehchnjnbbnkbaaGreat
open Go.Abs
namespace Tm
theorem image_mem (l : Su) (x : ByteArray) : image l x = mk x true [] ∨ ∃ y ∈ l, image l x = y.2 := by
  induction l with
  | nil => exact .inl rfl
  | cons y r ih =>
    simp only [image]
    by_cases h : y.1 = x
    · rw [if_pos h]; exact .inr ⟨y, by simp, rfl⟩
    · rw [if_neg h]
      rcases ih with h2 | ⟨z, h3, h4⟩
      · exact .inl h2
      · exact .inr ⟨z, by simp [h3], h4⟩
theorem sizeL_map_le {f : Tm → Tm} {M : Nat} : ∀ {l : List Tm}, (∀ a ∈ l, (f a).size ≤ a.size * M) → sizeL (l.map f) ≤ sizeL l * M
  | [], _ => by simp [sizeL]
  | t :: r, h => by
    have h1 := h t (by simp)
    have h2 := sizeL_map_le (l := r) fun a ha => h a (by simp [ha])
    simp only [List.map_cons, sizeL, Nat.add_mul]; omega
theorem app_size {l : Su} {M : Nat} (hM : 1 ≤ M) (h : ∀ x ∈ l, x.2.size ≤ M) : ∀ t : Tm, (app l t).size ≤ t.size * M := ind fun t ih => by
  rw [app_eq]
  have hp : M ≤ t.size * M := Nat.le_mul_of_pos_left M (size_pos t)
  split
  · rcases image_mem l t.name with h2 | ⟨y, hy, h2⟩
    · rw [h2]; simp [size, sizeL]; omega
    · rw [h2]; exact Nat.le_trans (h y hy) hp
  · have := sizeL_map_le ih
    rw [size_eq t, Nat.add_mul]
    show 1 + sizeL (t.args.map (app l)) ≤ _
    omega
theorem app_formed {l : Su} (h : ∀ x ∈ l, x.2.formed = true) : ∀ t : Tm, t.formed = true → (app l t).formed = true := ind fun t ih ht => by
  rw [app_eq]
  have ht' := ht
  rw [formed_eq] at ht'
  split
  · rename_i hv
    rw [hv, if_pos rfl, Bool.and_eq_true] at ht'
    rcases image_mem l t.name with h2 | ⟨y, hy, h2⟩
    · rw [h2, formed_eq]
      show (if true then nameOk t.name false && List.isEmpty ([] : List Tm) else _) = true
      rw [if_pos rfl, ht'.1]; rfl
    · rw [h2]; exact h y hy
  · rename_i hv
    rw [if_neg hv] at ht'
    simp only [Bool.and_eq_true] at ht'
    rw [formed_eq]
    simp only [name, var, args, Bool.false_eq_true, if_false, Bool.and_eq_true, List.length_map]
    refine ⟨⟨ht'.1.1, ht'.1.2⟩, ?_⟩
    rw [List.all_eq_true]
    intro x hx
    obtain ⟨a, ha, rfl⟩ := List.mem_map.1 hx
    exact ih a ha (List.all_eq_true.1 ht'.2 a ha)
end Tm
end Go.Proofs.YtehchnjnbbnkbaaGreat
set_option linter.unusedVariables false
set_option linter.unusedSimpArgs false
namespace Go.Proofs.YtehchnjnbbnkbaaGreat
open Go Go.Abs
theorem withS_in {l : Su} {v : ByteArray} {t : Tm} {x : ByteArray × Tm} (h : x ∈ withS l v t) : x ∈ l ∨ x = (v, t) := by
  induction l with
  | nil => unfold withS at h; right; simpa using h
  | cons y r ih =>
    unfold withS at h
    split at h
    · rcases List.mem_cons.1 h with rfl | h
      · exact .inl (by simp)
      · exact (ih h).imp (fun h => List.mem_cons_of_mem _ h) id
    · rcases List.mem_cons.1 h with rfl | h
      · exact .inr rfl
      · exact .inl h
namespace Tm
theorem mat_size {M : Nat} : ∀ (p : Tm) (s : Su) (t : Tm), (∀ x ∈ s, x.2.size ≤ M) → t.size ≤ M → ∀ x ∈ (mat p s t).1, x.2.size ≤ M := by
  refine ind fun p ih s t hs ht => ?_
  have hL : ∀ (ps : List Tm), (∀ p ∈ ps, ∀ (s : Su) (t : Tm), (∀ x ∈ s, x.2.size ≤ M) → t.size ≤ M → ∀ x ∈ (mat p s t).1, x.2.size ≤ M) → ∀ (s : Su) (ts : List Tm), (∀ x ∈ s, x.2.size ≤ M) → (∀ t ∈ ts, t.size ≤ M) → ∀ x ∈ (matL ps s ts).1, x.2.size ≤ M := by
    intro ps
    induction ps with
    | nil => intro _ s ts hs _; simpa [matL] using hs
    | cons p r ihr =>
      intro h s ts hs hts
      cases ts with
      | nil => simpa [matL] using hs
      | cons t ts =>
        simp only [matL]
        split
        · exact ihr (fun q hq => h q (List.mem_cons_of_mem _ hq)) _ ts (h p (by simp) s t hs (hts t (by simp))) fun a ha => hts a (List.mem_cons_of_mem _ ha)
        · intro x hx; cases hx
  rw [mat_eq]
  split
  · split
    · exact hs
    · intro x hx
      rcases withS_in hx with h | rfl
      · exact hs x h
      · exact ht
  · split
    · intro x hx; cases hx
    · exact hL p.args ih s t.args hs fun a ha => Nat.le_trans (Nat.le_of_lt (size_mem ha)) ht
theorem at_size : ∀ (p : List Int) (t s : Tm), at_ t p = some s → s.size ≤ t.size
  | [], t, s, h => by simp only [at_] at h; cases h; exact Nat.le_refl _
  | i :: p, t, s, h => by
    simp only [at_] at h
    split at h
    · cases h
    · split at h
      · cases h
      · have hi : i.toNat < t.args.length := by omega
        have eg : t.args.getD i.toNat dflt = t.args[i.toNat] := by rw [List.getD_eq_getElem?_getD, List.getElem?_eq_getElem hi]; rfl
        rw [eg] at h
        exact Nat.le_trans (at_size p _ s h) (Nat.le_of_lt (size_mem (List.getElem_mem hi)))
end Tm
theorem subErr_zero {r : Ru} {t : Tm} {i : Int} {p : List Int} (h : subErr r t i p = 0) : ¬ i < 0 ∧ ¬ i ≥ (r.length : Int) ∧ ∃ s, Tm.at_ t p = some s ∧ (Tm.mat (rlOf r i).1 [] s).2 = true := by
  unfold subErr at h
  split at h
  · cases h
  · split at h
    · cases h
    · split at h
      · cases h
      · rename_i h1 h2 h3
        refine ⟨h1, h2, ?_⟩
        cases hat : Tm.at_ t p with
        | none => rw [hat] at h3; exact absurd rfl h3
        | some s =>
          refine ⟨s, rfl, ?_⟩
          have : sbOf t p = s := by unfold sbOf; rw [hat]; rfl
          rw [this] at h
          split at h
          · assumption
          · cases h
def stepU (r : Ru) (t : Tm) (i : Int) (p : List Int) : Tm := Tm.put t p (Tm.app (suOf r t i p) (rlOf r i).2)
def stepErr (r : Ru) (t : Tm) (i : Int) (p : List Int) : Int := if subErr r t i p ≠ 0 then subErr r t i p else if 4000 < (stepU r t i p).size then 3 else if 200 < (stepU r t i p).depth then 3 else 0
def stepT (r : Ru) (t : Tm) (i : Int) (p : List Int) : Tm := if stepErr r t i p = 0 then stepU r t i p else Tm.dflt
theorem r04_Step_ok (r : Ru) (t : Tm) (i : Int) (p : List Int) (hB : ∀ x ∈ r, x.1.size ≤ 2097152 ∧ x.2.size ≤ 2097152) (ht : t.size ≤ 4000) :
    Fn f_r04_Step [ruD r, tD t, .agg [.v (.int .i64) (.i i), .v (.sl t_int) (.l (encP p))]] (.tup [tD (stepT r t i p), iD (stepErr r t i p)]) := Fn.as fun Q hQ => by
  refine C_r04_Step _ _ _ _ _ _ _ ?_
  unfold vc_r04_Step
  have hl := encRs_length r
  have bad : ∀ e : Int, e ≠ 0 → stepErr r t i p = e → (((True ∧ True ∧ True ∧ True) ∧ True ∧ True) ∧ Q (.tup [.agg [.v .str (V.s (ByteArray.mk #[])), .v .bool (V.b false), .nil], .v (.int .i64) (V.i e)]) []) := fun e he h => ⟨⟨⟨trivial, trivial, trivial, trivial⟩, trivial, trivial⟩, hQ _ (by
    have : stepT r t i p = Tm.dflt := by unfold stepT; rw [if_neg (by rw [h]; exact he)]
    rw [this, h]
    exact As.pair (As.last3 _ _ _) (.refl _))⟩
  refine r04_Subst_ok r t i p (fun x hx => by have := (hB x hx).1; unfold lim; omega) _ ⟨rfl, rfl, iff_bne (fun h => ?_) (fun h => ?_)⟩
  · have h : subErr r t i p ≠ 0 := h
    exact bad _ h (by unfold stepErr; rw [if_pos h])
  have h0 : subErr r t i p = 0 := h
  obtain ⟨h1, h2, s, hat, hm⟩ := subErr_zero h0
  have hk : i.toNat < r.length := by omega
  have hrl : rlOf r i = r[i.toNat] := by unfold rlOf; rw [List.getD_eq_getElem?_getD, List.getElem?_eq_getElem hk]; rfl
  have hb := hB _ (List.getElem_mem hk)
  have hss := Tm.at_size p t s hat
  have hsb : sbOf t p = s := by unfold sbOf; rw [hat]; rfl
  have hsu : suOf r t i p = (Tm.mat (rlOf r i).1 [] s).1 := by unfold suOf; rw [if_pos h0, hsb]
  have hasz : (Tm.app (suOf r t i p) (rlOf r i).2).size ≤ 2097152 * 4000 := by
    rw [hsu]
    refine Nat.le_trans (Tm.app_size (M := 4000) (by omega) (Tm.mat_size _ [] s (fun x hx => by cases hx) (by omega)) _) ?_
    rw [hrl]
    exact Nat.mul_le_mul_right _ hb.2
  have hat' : Tm.at_ t p ≠ none := by rw [hat]; intro h; cases h
  have hts := Tm.size_eq t
  have htl := Tm.length_sizeL t.args
  have hE : stepErr r t i p = if 4000 < (stepU r t i p).size then 3 else if 200 < (stepU r t i p).depth then 3 else 0 := by unfold stepErr; rw [if_neg (by simp [h0])]
  have hU : stepU r t i p = Tm.put t p (Tm.app (suOf r t i p) (r[i.toNat]).2) := by unfold stepU; rw [hrl]
  rw [hrl] at hasz
  rw [hl, encRs_getD r _ hk]
  refine ⟨by omega, by omega, r01_Grown_ok (suOf r t i p) (r[i.toNat]).2 (by unfold small; omega) _ ⟨rfl, rfl, r04_replaced_ok p t (Tm.app (suOf r t i p) (r[i.toNat]).2) hat' (by omega) _ ⟨rfl, rfl, ?_⟩⟩⟩
  rw [← hU]
  refine iff_dec (fun h => bad 3 (by omega) ?_) (fun h => iff_dec (fun h2 => bad 3 (by omega) ?_) (fun h2 => ?_))
  · have h : (((stepU r t i p).size : Nat) : Int) > 4000 := h
    rw [hE, if_pos (by omega)]
  · have h : ¬ (((stepU r t i p).size : Nat) : Int) > 4000 := h
    have h2 : (((stepU r t i p).depth : Nat) : Int) > 200 := h2
    rw [hE, if_neg (by omega), if_pos (by omega)]
  have h : ¬ (((stepU r t i p).size : Nat) : Int) > 4000 := h
  have h2 : ¬ (((stepU r t i p).depth : Nat) : Int) > 200 := h2
  rw [if_neg (by omega), if_neg (by omega)] at hE
  have hT : stepT r t i p = stepU r t i p := by unfold stepT; rw [if_pos hE]
  rw [hE, hT] at hQ
  rw [jp_r04_Step_0_s]
  unfold je_r04_Step_0
  rw [hl, encRs_getD r _ hk]
  refine ⟨by omega, by omega, tD (Tm.app (suOf r t i p) (r[i.toNat]).2), (r01_Apply_ok (suOf r t i p) (r[i.toNat]).2 (by unfold lim; omega)).here rfl, ?_⟩
  refine r01_Put_ok p t (Tm.app (suOf r t i p) (r[i.toNat]).2) hat' (by unfold lim; omega) (by unfold lim; omega) _ ⟨rfl, rfl, ⟨⟨trivial, trivial, trivial, trivial⟩, trivial, trivial⟩, ?_⟩
  rw [← hU]
  exact hQ _ (.refl _)
end Go.Proofs.YtehchnjnbbnkbaaGreat
set_option linter.unusedVariables false
set_option linter.unusedSimpArgs false
namespace Go.Proofs.YtehchnjnbbnkbaaGreat
open Go Go.Abs
abbrev Stp := Int × List Int
def encSt (l : List Stp) : LL := l.map fun x => [V.i x.1, V.l (encP x.2)]
theorem encSt_length (l : List Stp) : (encSt l).length = l.length := by simp [encSt]
theorem encSt_getD (l : List Stp) (k : Nat) (h : k < l.length) : (encSt l).getD k [] = [V.i (l[k]).1, V.l (encP (l[k]).2)] := by
  unfold encSt
  rw [List.getD_eq_getElem?_getD, List.getElem?_map, List.getElem?_eq_getElem h]; rfl
def after_ (r : Ru) (t : Tm) : List Stp → Tm
  | [] => t
  | s :: l => after_ r (stepT r t s.1 s.2) l
theorem after_append (r : Ru) : ∀ (l m : List Stp) (t : Tm), after_ r t (l ++ m) = after_ r (after_ r t l) m
  | [], _, _ => rfl
  | s :: l, m, t => after_append r l m _
def trail (r : Ru) (t : Tm) (l : List Stp) : List Tm := (List.range (l.length + 1)).map fun k => after_ r t (l.take k)
def chErr (r : Ru) : Tm → List Stp → Int
  | _, [] => 0
  | t, s :: l => if stepErr r t s.1 s.2 ≠ 0 then stepErr r t s.1 s.2 else chErr r (stepT r t s.1 s.2) l
theorem chErr_append (r : Ru) : ∀ (l m : List Stp) (t : Tm), chErr r t l = 0 → chErr r t (l ++ m) = chErr r (after_ r t l) m
  | [], _, _, _ => rfl
  | s :: l, m, t, h => by
    unfold chErr at h
    split at h
    · contradiction
    · rename_i h1
      show (if _ then _ else _) = _
      rw [if_neg h1]
      exact chErr_append r l m _ h
theorem chErr_snoc {r : Ru} {l : List Stp} {t : Tm} {s : Stp} (h : chErr r t l = 0) (h2 : stepErr r (after_ r t l) s.1 s.2 = 0) : chErr r t (l ++ [s]) = 0 := by
  rw [chErr_append r l [s] t h]
  unfold chErr
  rw [if_neg (by simp [h2])]; rfl
theorem chErr_bad {r : Ru} {l m : List Stp} {t : Tm} {s : Stp} (h : chErr r t l = 0) (h2 : stepErr r (after_ r t l) s.1 s.2 ≠ 0) : chErr r t (l ++ s :: m) = stepErr r (after_ r t l) s.1 s.2 := by
  rw [chErr_append r l (s :: m) t h]
  unfold chErr
  rw [if_pos h2]
def tmE (r : Ru) (t : Tm) (l : List Stp) : Int := if l.length > 4096 then 3 else if t.check ≠ 0 then t.check else chErr r t l
def tmR (r : Ru) (t : Tm) (l : List Stp) : List Tm := if tmE r t l = 0 then trail r t l else []
def trailK (r : Ru) (t : Tm) (l : List Stp) (k : Nat) : List Tm := (List.range (k + 1)).map fun j => after_ r t (l.take j)
theorem trailK_succ (r : Ru) (t : Tm) (l : List Stp) (k : Nat) : trailK r t l (k + 1) = trailK r t l k ++ [after_ r t (l.take (k + 1))] := by
  unfold trailK; rw [List.range_succ, List.map_append]; rfl
theorem stepT_size {r : Ru} {t : Tm} {i : Int} {p : List Int} (h : stepErr r t i p = 0) : (stepT r t i p).size ≤ 4000 ∧ (stepT r t i p).depth ≤ 200 := by
  unfold stepT
  rw [if_pos h]
  unfold stepErr at h
  split at h
  · contradiction
  · split at h
    · cases h
    · split at h
      · cases h
      · omega
theorem r05_Terms_ok (r : Ru) (t : Tm) (l : List Stp) (hB : ∀ x ∈ r, x.1.size ≤ 2097152 ∧ x.2.size ≤ 2097152) (ht : t.size ≤ small) :
    Fn f_r05_Terms [ruD r, .agg [.v .str (.s t.name), .v .bool (.b t.var), .v (.sl t_Term) (.l (Tm.encL t.args)), .v (.sl t_Step) (.l (encSt l))]] (.tup [tsD (tmR r t l), iD (tmE r t l)]) := Fn.as fun Q hQ => by
  refine C_r05_Terms _ _ _ _ _ _ fun hb => ?_
  have hl := encSt_length l
  rw [hl] at hb ⊢
  have bad : ∀ e : Int, e ≠ 0 → tmE r t l = e → ((True ∧ True ∧ True) ∧ Q (.tup [.nil, .v (.int .i64) (V.i e)]) []) := fun e he h => ⟨⟨trivial, trivial, trivial⟩, hQ _ (by
    have : tmR r t l = [] := by unfold tmR; rw [if_neg (by rw [h]; exact he)]
    rw [this, h]
    exact As.pair (.nil _ _ rfl) (.refl _))⟩
  refine iff_dec (fun h => bad 3 (by omega) (by unfold tmE; rw [if_pos (by omega)])) (fun h => r01_Check_ok t ht _ ⟨rfl, rfl, iff_bne (fun h2 => ?_) (fun h2 hb => ?_)⟩)
  · have h2 : t.check ≠ 0 := h2
    exact bad _ h2 (by unfold tmE; rw [if_neg (by omega), if_pos h2])
  have h2 : t.check = 0 := h2
  have hE : tmE r t l = chErr r t l := by unfold tmE; rw [if_neg (by omega), if_neg (by simp [h2])]
  have hck := Tm.check_zero.1 h2
  refine range_r05_Terms_0 Q _ _ _ hb (fun k n y => n = k + 1 ∧ y = Tm.encL (trailK r t l k) ∧ chErr r t (l.take k) = 0 ∧ (after_ r t (l.take k)).size ≤ 4000) (fun k n y hk hJ K hK => ?_) (fun n y hJ => ?_) 0 _ _ (Nat.zero_le _)
    ⟨rfl, by simp [trailK, Tm.encL, Tm.enc_eq, after_], by simp [chErr], by simpa [after_] using hck.2.1⟩
  · obtain ⟨rfl, rfl, h4, h5⟩ := hJ
    have htk : (trailK r t l k).length = k + 1 := by simp [trailK]
    have hw : IntKind.i64.wrap (((k + 1 : Nat) : Int) - (1 : Int)) = (k : Int) := by rw [wrap_in _ (by omega) (by omega)]; omega
    have hg : (Tm.encL (trailK r t l k)).getD k [] = (after_ r t (l.take k)).enc := by
      rw [Tm.encL_getD _ k (by omega)]; simp [trailK]
    have htc : l.take (k + 1) = l.take k ++ [l[k]] := List.take_succ_eq_append_getElem hk
    have haf : after_ r t (l.take (k + 1)) = stepT r (after_ r t (l.take k)) (l[k]).1 (l[k]).2 := by rw [htc, after_append]; rfl
    rw [hw, Int.toNat_natCast, hg, Tm.enc_eq, encSt_getD l k hk, hl, Tm.encL_length, htk]
    refine ⟨by omega, by omega, rfl, rfl, by omega, by omega, rfl, by omega, .tup [tD (stepT r (after_ r t (l.take k)) (l[k]).1 (l[k]).2), iD (stepErr r (after_ r t (l.take k)) (l[k]).1 (l[k]).2)], (r04_Step_ok r _ _ _ hB h5).here rfl, iff_bne (fun h6 => ?_) (fun h6 => ?_)⟩
    · have h6 : stepErr r (after_ r t (l.take k)) (l[k]).1 (l[k]).2 ≠ 0 := h6
      refine bad _ h6 ?_
      rw [hE]
      have hsp : l = l.take k ++ l[k] :: l.drop (k + 1) := by rw [← List.drop_eq_getElem_cons hk, List.take_append_drop]
      conv => lhs; rw [hsp]
      exact chErr_bad h4 h6
    · have h6 : stepErr r (after_ r t (l.take k)) (l[k]).1 (l[k]).2 = 0 := h6
      refine ⟨rfl, ?_, hK _ _ ⟨rfl, ?_, ?_, ?_⟩⟩
      · show k + 1 + 1 ≤ lim
        unfold lim; omega
      · rw [trailK_succ, haf, Tm.encL_eq (_ ++ _), List.map_append, ← Tm.encL_eq]
        generalize stepT r (after_ r t (l.take k)) (l[k]).1 (l[k]).2 = X
        show _ ++ [[V.s X.name, V.b X.var, V.l (Tm.encL X.args)]] = _ ++ [X.enc]
        rw [Tm.enc_eq]
      · rw [htc]; exact chErr_snoc h4 h6
      · rw [haf]; exact (stepT_size h6).1
  · obtain ⟨rfl, rfl, h4, h5⟩ := hJ
    rw [List.take_length] at h4
    have hR : tmR r t l = trailK r t l l.length := by unfold tmR; rw [if_pos (by rw [hE]; exact h4)]; rfl
    refine ⟨⟨by rw [Tm.encL_length]; simp [trailK], trivial, trivial⟩, hQ _ ?_⟩
    rw [hR, hE, h4]
    exact .refl _
end Go.Proofs.YtehchnjnbbnkbaaGreat
set_option linter.unusedVariables false
set_option linter.unusedSimpArgs false
namespace Go.Proofs.YtehchnjnbbnkbaaGreat
open Go.Abs
namespace Gt
variable {r : ByteArray → Int}
theorem app {l : Su} {s t : Tm} (h : Gt r s t) : Gt r (Tm.app l s) (Tm.app l t) := by
  have hv : ∀ u : Tm, u.var = false → Tm.app l u = .mk u.name false (u.args.map (Tm.app l)) := fun u hu => by rw [Tm.app_eq, hu]; rfl
  induction h with
  | arg s t hs hm => rw [hv s hs]; exact .arg _ _ rfl (List.mem_map_of_mem hm)
  | sub s t a hs hm _ ih => rw [hv s hs]; exact .sub _ _ (Tm.app l a) rfl (List.mem_map_of_mem hm) ih
  | prec s t hs ht hr _ ih =>
    rw [hv s hs] at *
    rw [hv t ht]
    refine .prec _ _ rfl rfl hr fun b hb => ?_
    obtain ⟨c, hc, rfl⟩ := List.mem_map.1 hb
    exact ih c hc
  | lex s t a b i hs ht hnm hlen _ htk h4 h5 _ ih ih2 =>
    rw [hv s hs] at *
    rw [hv t ht]
    refine .lex _ _ (Tm.app l a) (Tm.app l b) i rfl rfl hnm ?_ (fun b hb => ?_) ?_ ?_ ?_ ih2
    · show (s.args.map _).length = (t.args.map _).length; simp [hlen]
    · obtain ⟨c, hc, rfl⟩ := List.mem_map.1 hb
      exact ih c hc
    · show (s.args.map _).take i = (t.args.map _).take i
      rw [← List.map_take, ← List.map_take, htk]
    · show (s.args.map _)[i]? = _; rw [List.getElem?_map, h4]; rfl
    · show (t.args.map _)[i]? = _; rw [List.getElem?_map, h5]; rfl
theorem getD_get {l : List Tm} {i : Nat} (h : i < l.length) : l.getD i Tm.dflt = l[i] := by rw [List.getD_eq_getElem?_getD, List.getElem?_eq_getElem h]; rfl
theorem at_cons {c : Tm} {i : Int} {p : List Int} {x : Tm} (h : Tm.at_ c (i :: p) = some x) : ∃ h : i.toNat < c.args.length, Tm.at_ c.args[i.toNat] p = some x := by
  simp only [Tm.at_] at h
  by_cases h1 : i < 0
  · rw [if_pos h1] at h; cases h
  · rw [if_neg h1] at h
    by_cases h2 : i ≥ (c.args.length : Int)
    · rw [if_pos h2] at h; cases h
    · rw [if_neg h2] at h
      have h3 : i.toNat < c.args.length := by omega
      rw [getD_get h3] at h
      exact ⟨h3, h⟩
theorem put {s t : Tm} (h : Gt r s t) : ∀ (p : List Int) (c x : Tm), Tm.at_ c p = some x → Gt r (Tm.put c p s) (Tm.put c p t)
  | [], c, x, _ => by simpa [Tm.put] using h
  | i :: p, c, x, hx => by
    obtain ⟨hi, hx⟩ := at_cons hx
    have ih := put h p _ _ hx
    simp only [Tm.put, getD_get hi]
    generalize hS : Tm.put c.args[i.toNat] p s = S at *
    generalize hT : Tm.put c.args[i.toNat] p t = T at *
    generalize i.toNat = j at *
    refine .lex _ _ S T j rfl rfl rfl ?_ (fun b hb => ?_) ?_ ?_ ?_ ih
    · show (c.args.set j S).length = (c.args.set j T).length; simp
    · have hb : b ∈ c.args.set j T := hb
      have hSm : S ∈ c.args.set j S := List.mem_iff_getElem?.2 ⟨j, by simp [hi]⟩
      obtain ⟨k, hk⟩ := List.mem_iff_getElem?.1 hb
      by_cases hjk : j = k
      · subst hjk
        have : (c.args.set j T)[j]? = some T := by simp [hi]
        rw [this] at hk
        obtain rfl := Option.some.inj hk
        exact .sub _ _ S rfl hSm ih
      · rw [List.getElem?_set_ne hjk] at hk
        refine .arg _ _ rfl ?_
        show b ∈ c.args.set j S
        exact List.mem_iff_getElem?.2 ⟨k, by rw [List.getElem?_set_ne hjk]; exact hk⟩
    · show (c.args.set j S).take j = (c.args.set j T).take j
      rw [List.take_set_of_le (Nat.le_refl _), List.take_set_of_le (Nat.le_refl _)]
    · show (c.args.set j S)[j]? = _; simp [hi]
    · show (c.args.set j T)[j]? = _; simp [hi]
end Gt
end Go.Proofs.YtehchnjnbbnkbaaGreat
set_option linter.unusedVariables false
set_option linter.unusedSimpArgs false
namespace Go.Proofs.YtehchnjnbbnkbaaGreat
open Go.Abs
namespace Tm
mutual
def sub (f : ByteArray → Tm) : Tm → Tm | mk n v xs => if v then f n else mk n false (subL f xs)
def subL (f : ByteArray → Tm) : List Tm → List Tm | [] => [] | t :: r => sub f t :: subL f r
end
theorem subL_map (f : ByteArray → Tm) : ∀ l : List Tm, subL f l = l.map (sub f)
  | [] => rfl
  | t :: r => by rw [subL, subL_map f r]; rfl
theorem sub_eq (f : ByteArray → Tm) : ∀ t : Tm, sub f t = if t.var then f t.name else mk t.name false (t.args.map (sub f))
  | mk n v xs => by rw [sub, subL_map]; rfl
theorem sub_var (f : ByteArray → Tm) {t : Tm} (h : t.var = true) : sub f t = f t.name := by rw [sub_eq, if_pos h]
theorem sub_fn (f : ByteArray → Tm) {t : Tm} (h : t.var = false) : sub f t = mk t.name false (t.args.map (sub f)) := by rw [sub_eq, if_neg (by rw [h]; simp)]
theorem app_sub (l : Su) : ∀ t : Tm, app l t = sub (image l) t := ind fun t ih => by
  rw [app_eq, sub_eq]
  split
  · rfl
  · congr 1
    exact List.map_congr_left fun a ha => ih a ha
mutual
def vs : Tm → List ByteArray | mk n v xs => if v then [n] else vsL xs
def vsL : List Tm → List ByteArray | [] => [] | t :: r => vs t ++ vsL r
end
theorem vsL_mem {x : ByteArray} : ∀ {l : List Tm}, x ∈ vsL l ↔ ∃ a ∈ l, x ∈ vs a
  | [] => by simp [vsL]
  | t :: r => by rw [vsL, List.mem_append, vsL_mem]; simp
theorem vs_eq : ∀ t : Tm, vs t = if t.var then [t.name] else vsL t.args | mk _ _ _ => rfl
theorem vs_var {t : Tm} (h : t.var = true) {x : ByteArray} : x ∈ vs t ↔ x = t.name := by rw [vs_eq, if_pos h]; simp
theorem vs_fn {t : Tm} (h : t.var = false) {x : ByteArray} : x ∈ vs t ↔ ∃ a ∈ t.args, x ∈ vs a := by rw [vs_eq, if_neg (by rw [h]; simp), vsL_mem]
theorem sub_congr {f g : ByteArray → Tm} : ∀ t : Tm, (∀ x ∈ vs t, f x = g x) → sub f t = sub g t := ind fun t ih h => by
  cases hv : t.var with
  | true => rw [sub_var _ hv, sub_var _ hv]; exact h _ ((vs_var hv).2 rfl)
  | false =>
    rw [sub_fn _ hv, sub_fn _ hv]
    congr 1
    exact List.map_congr_left fun a ha => ih a ha fun x hx => h x ((vs_fn hv).2 ⟨a, ha, hx⟩)
theorem sub_sub (f g : ByteArray → Tm) : ∀ t : Tm, sub g (sub f t) = sub (fun x => sub g (f x)) t := ind fun t ih => by
  cases hv : t.var with
  | true => rw [sub_var _ hv, sub_var _ hv]
  | false =>
    rw [sub_fn _ hv, sub_fn _ hv, sub_fn _ rfl]
    show mk t.name false _ = _
    congr 1
    rw [show (mk t.name false (t.args.map (sub f))).args = t.args.map (sub f) from rfl, List.map_map]
    exact List.map_congr_left fun a ha => ih a ha
theorem vs_sub {f : ByteArray → Tm} {x : ByteArray} : ∀ t : Tm, x ∈ vs (sub f t) ↔ ∃ y ∈ vs t, x ∈ vs (f y) := ind fun t ih => by
  cases hv : t.var with
  | true =>
    rw [sub_var _ hv]
    constructor
    · exact fun h => ⟨_, (vs_var hv).2 rfl, h⟩
    · rintro ⟨y, hy, h⟩; rw [(vs_var hv).1 hy] at h; exact h
  | false =>
    rw [sub_fn _ hv, vs_fn rfl]
    constructor
    · rintro ⟨a, ha, h⟩
      obtain ⟨b, hb, rfl⟩ := List.mem_map.1 ha
      obtain ⟨y, hy, h2⟩ := (ih b hb).1 h
      exact ⟨y, (vs_fn hv).2 ⟨b, hb, hy⟩, h2⟩
    · rintro ⟨y, hy, h⟩
      obtain ⟨b, hb, hy2⟩ := (vs_fn hv).1 hy
      exact ⟨sub f b, List.mem_map.2 ⟨b, hb, rfl⟩, (ih b hb).2 ⟨y, hy2, h⟩⟩
abbrev vr (x : ByteArray) : Tm := mk x true []
end Tm
open Tm
abbrev Bd := ByteArray → Option Tm
def updB (σ : Bd) (x : ByteArray) (t : Tm) : Bd := fun y => if y = x then some t else σ y
theorem updB_self (σ : Bd) (x : ByteArray) (t : Tm) : updB σ x t x = some t := by simp [updB]
theorem updB_ne (σ : Bd) {x y : ByteArray} (t : Tm) (h : y ≠ x) : updB σ x t y = σ y := by simp [updB, h]
structure Tri (σ : Bd) (θ : ByteArray → Tm) (r : ByteArray → Nat) : Prop where
  bnd : ∀ x t, σ x = some t → θ x = sub θ t
  fre : ∀ x, σ x = none → θ x = vr x
  rk : ∀ x t, σ x = some t → ∀ y ∈ vs t, r y < r x
theorem Tri.free {σ : Bd} {θ : ByteArray → Tm} {r : ByteArray → Nat} (h : Tri σ θ r) : ∀ (n : Nat) (x : ByteArray), r x ≤ n → ∀ y ∈ vs (θ x), σ y = none := by
  intro n
  induction n with
  | zero =>
    intro x hx y hy
    cases hs : σ x with
    | none => rw [h.fre x hs, vs_var rfl] at hy; rw [hy]; exact hs
    | some t =>
      rw [h.bnd x t hs] at hy
      obtain ⟨z, hz, _⟩ := (vs_sub t).1 hy
      have := h.rk x t hs z hz; omega
  | succ n ih =>
    intro x hx y hy
    cases hs : σ x with
    | none => rw [h.fre x hs, vs_var rfl] at hy; rw [hy]; exact hs
    | some t =>
      rw [h.bnd x t hs] at hy
      obtain ⟨z, hz, hzy⟩ := (vs_sub t).1 hy
      have := h.rk x t hs z hz
      exact ih z (by omega) y hzy
theorem Tri.fr {σ : Bd} {θ : ByteArray → Tm} {r : ByteArray → Nat} (h : Tri σ θ r) {x y : ByteArray} (hy : y ∈ vs (θ x)) : σ y = none := h.free _ x (Nat.le_refl _) y hy
theorem Tri.idem {σ : Bd} {θ : ByteArray → Tm} {r : ByteArray → Nat} (h : Tri σ θ r) (t : Tm) : sub θ (sub θ t) = sub θ t := by
  rw [sub_sub]
  refine sub_congr t fun x _ => ?_
  have key : ∀ u : Tm, (∀ y ∈ vs u, σ y = none) → (∀ y ∈ vs u, vr y = θ y) := fun u hu y hy => (h.fre y (hu y hy)).symm
  have e : sub θ (θ x) = sub vr (θ x) := sub_congr _ fun y hy => h.fre y (h.fr hy)
  rw [e]
  -- what vr does to what θ yields
  have id1 : ∀ n (x : ByteArray), r x ≤ n → sub vr (θ x) = θ x := by
    intro n
    induction n with
    | zero =>
      intro x hx
      cases hs : σ x with
      | none => rw [h.fre x hs, sub_var _ rfl]; rfl
      | some t =>
        rw [h.bnd x t hs, sub_sub]
        exact sub_congr t fun z hz => by have := h.rk x t hs z hz; omega
    | succ n ih =>
      intro x hx
      cases hs : σ x with
      | none => rw [h.fre x hs, sub_var _ rfl]; rfl
      | some t =>
        rw [h.bnd x t hs, sub_sub]
        exact sub_congr t fun z hz => ih z (by have := h.rk x t hs z hz; omega)
  exact id1 _ x (Nat.le_refl _)
def maxR (r : ByteArray → Nat) : List ByteArray → Nat | [] => 0 | x :: l => max (r x) (maxR r l)
theorem maxR_mem {r : ByteArray → Nat} : ∀ {l : List ByteArray} {x : ByteArray}, x ∈ l → r x ≤ maxR r l
  | y :: l, x, h => by
    rw [maxR]
    rcases List.mem_cons.1 h with rfl | h
    · omega
    · have := maxR_mem (r := r) h; omega
open Classical in
theorem Tri.upd {σ : Bd} {θ : ByteArray → Tm} {r : ByteArray → Nat} (h : Tri σ θ r) {x : ByteArray} {t : Tm} (hx : σ x = none) (ho : x ∉ vs (sub θ t)) :
    Tri (updB σ x t) (fun y => sub (fun z => if z = x then sub θ t else vr z) (θ y)) (fun y => if x ∈ vs (θ y) then r y + (maxR r (vs t) + 1) else r y) := by
  have hθx : θ x = vr x := h.fre x hx
  have keep : ∀ u : Tm, x ∉ vs u → sub (fun z => if z = x then sub θ t else vr z) u = sub vr u := fun u hu => sub_congr u fun z hz => by
    exact if_neg fun e : z = x => hu (e ▸ hz)
  have vrθ : ∀ u : Tm, sub vr (sub θ u) = sub θ u := fun u => by
    rw [sub_sub]
    refine sub_congr u fun y _ => ?_
    have := h.idem (vr y)
    rw [sub_var θ (t := vr y) rfl] at this
    have e : sub θ (θ y) = sub vr (θ y) := sub_congr _ fun z hz => h.fre z (h.fr hz)
    rw [← e]; exact this
  refine ⟨fun y u hy => ?_, fun y hy => ?_, fun y u hy z hz => ?_⟩
  · by_cases hyx : y = x
    · subst hyx
      rw [updB_self] at hy
      cases hy
      show sub _ (θ y) = _
      rw [hθx, sub_var _ rfl]
      show (if y = y then sub θ t else vr y) = _
      rw [if_pos rfl, ← sub_sub, keep _ ho, vrθ]
    · rw [updB_ne _ _ hyx] at hy
      show sub _ (θ y) = _
      rw [h.bnd y u hy, sub_sub]
  · by_cases hyx : y = x
    · subst hyx; rw [updB_self] at hy; cases hy
    · rw [updB_ne _ _ hyx] at hy
      show sub _ (θ y) = _
      rw [h.fre y hy, sub_var _ rfl]
      show (if y = x then sub θ t else vr y) = _
      rw [if_neg hyx]
  · show (if x ∈ vs (θ z) then r z + (maxR r (vs t) + 1) else r z) < (if x ∈ vs (θ y) then r y + (maxR r (vs t) + 1) else r y)
    by_cases hyx : y = x
    · subst hyx
      rw [updB_self] at hy
      cases hy
      have hm := maxR_mem (r := r) hz
      rw [if_neg fun hin => ho ((vs_sub t).2 ⟨z, hz, hin⟩), if_pos (by rw [hθx]; simp [vs])]
      omega
    · rw [updB_ne _ _ hyx] at hy
      have hr := h.rk y u hy z hz
      by_cases h1 : x ∈ vs (θ z)
      · rw [if_pos h1, if_pos (by rw [h.bnd y u hy]; exact (vs_sub u).2 ⟨z, hz, h1⟩)]; omega
      · rw [if_neg h1]; split <;> omega
theorem Tri.empty : Tri (fun _ => none) vr (fun _ => 0) := ⟨fun x t h => (by cases h), fun _ _ => rfl, fun x t h => (by cases h)⟩
def Resp (τ : ByteArray → Tm) (σ : Bd) : Prop := ∀ x t, σ x = some t → τ x = sub τ t
theorem Resp.upd {τ : ByteArray → Tm} {σ : Bd} {x : ByteArray} {t : Tm} (hx : σ x = none) (h : Resp τ (updB σ x t)) : Resp τ σ ∧ τ x = sub τ t := by
  refine ⟨fun y u hy => h y u ?_, h x t (updB_self _ _ _)⟩
  rw [updB_ne _ _ (fun e => by rw [e, hx] at hy; cases hy)]; exact hy
theorem Resp.mk {τ : ByteArray → Tm} {σ : Bd} {x : ByteArray} {t : Tm} (h : Resp τ σ) (ht : τ x = sub τ t) : Resp τ (updB σ x t) := fun y u hy => by
  by_cases hyx : y = x
  · subst hyx; rw [updB_self] at hy; cases hy; exact ht
  · rw [updB_ne _ _ hyx] at hy; exact h y u hy
inductive Head (σ : Bd) : Tm → Tm → Prop
  | fn (t : Tm) : t.var = false → Head σ t t
  | free (t : Tm) : t.var = true → σ t.name = none → Head σ t t
  | step (t u h : Tm) : t.var = true → σ t.name = some u → Head σ u h → Head σ t h
theorem Head.sub {σ : Bd} {t h : Tm} (a : Head σ t h) {τ : ByteArray → Tm} (hτ : Resp τ σ) : Tm.sub τ t = Tm.sub τ h := by
  induction a with
  | fn t hv => rfl
  | free t hv hs => rfl
  | step t u h hv hs _ ih => rw [sub_var _ hv, hτ _ _ hs]; exact ih
theorem Head.total {σ : Bd} {θ : ByteArray → Tm} {r : ByteArray → Nat} (h : Tri σ θ r) : ∀ (n : Nat) (t : Tm), (t.var = true → r t.name ≤ n) → ∃ u, Head σ t u := by
  intro n
  induction n with
  | zero =>
    intro t ht
    cases hv : t.var with
    | false => exact ⟨t, .fn t hv⟩
    | true =>
      cases hs : σ t.name with
      | none => exact ⟨t, .free t hv hs⟩
      | some u =>
        cases hu : u.var with
        | false => exact ⟨u, .step t u u hv hs (.fn u hu)⟩
        | true => have := h.rk _ u hs u.name ((vs_var hu).2 rfl); have := ht hv; omega
  | succ n ih =>
    intro t ht
    cases hv : t.var with
    | false => exact ⟨t, .fn t hv⟩
    | true =>
      cases hs : σ t.name with
      | none => exact ⟨t, .free t hv hs⟩
      | some u =>
        obtain ⟨w, hw⟩ := ih u fun hu => by have := h.rk _ u hs u.name ((vs_var hu).2 rfl); have := ht hv; omega
        exact ⟨w, .step t u w hv hs hw⟩
theorem Head.ex {σ : Bd} {θ : ByteArray → Tm} {r : ByteArray → Nat} (h : Tri σ θ r) (t : Tm) : ∃ u, Head σ t u := Head.total h (r t.name) t fun _ => Nat.le_refl _
inductive Occ (σ : Bd) (v : ByteArray) : Tm → Prop
  | here (t : Tm) : v ∈ vs t → Occ σ v t
  | step (t u : Tm) (x : ByteArray) : x ∈ vs t → σ x = some u → Occ σ v u → Occ σ v t
theorem Occ.iff {σ : Bd} {θ : ByteArray → Tm} {r : ByteArray → Nat} (h : Tri σ θ r) {v : ByteArray} (hv : σ v = none) (t : Tm) : Occ σ v t ↔ v ∈ vs (sub θ t) := by
  constructor
  · intro ho
    induction ho with
    | here t ht => exact (vs_sub t).2 ⟨v, ht, by rw [h.fre v hv]; simp [vs]⟩
    | step t u x hx hs _ ih => exact (vs_sub t).2 ⟨x, hx, by rw [h.bnd x u hs]; exact ih⟩
  · have key : ∀ n (x : ByteArray), r x ≤ n → v ∈ vs (θ x) → v = x ∨ ∃ u, σ x = some u ∧ Occ σ v u := by
      intro n
      induction n with
      | zero =>
        intro x hx hm
        cases hs : σ x with
        | none => rw [h.fre x hs, vs_var rfl] at hm; exact .inl hm
        | some u =>
          rw [h.bnd x u hs] at hm
          obtain ⟨z, hz, _⟩ := (vs_sub u).1 hm
          have := h.rk x u hs z hz; omega
      | succ n ih =>
        intro x hx hm
        cases hs : σ x with
        | none => rw [h.fre x hs, vs_var rfl] at hm; exact .inl hm
        | some u =>
          rw [h.bnd x u hs] at hm
          obtain ⟨z, hz, hzm⟩ := (vs_sub u).1 hm
          have := h.rk x u hs z hz
          rcases ih z (by omega) hzm with rfl | ⟨w, hw, ho⟩
          · exact .inr ⟨u, rfl, .here u hz⟩
          · exact .inr ⟨u, rfl, .step u w z hz hw ho⟩
    intro hm
    obtain ⟨x, hx, hxm⟩ := (vs_sub t).1 hm
    rcases key _ x (Nat.le_refl _) hxm with rfl | ⟨u, hu, ho⟩
    · exact .here t hx
    · exact .step t u x hx hu ho
end Go.Proofs.YtehchnjnbbnkbaaGreat
set_option linter.unusedVariables false
set_option linter.unusedSimpArgs false
namespace Go.Proofs.YtehchnjnbbnkbaaGreat
open Go.Abs
namespace Tm
theorem mat_sort : ∀ (p : Tm) (s : Su) (t : Tm), SortS s → SortS (mat p s t).1 := ind fun p ih s t hs => by
  rw [mat_eq]
  have hL : ∀ (ps : List Tm), (∀ q ∈ ps, ∀ (s : Su) (t : Tm), SortS s → SortS (mat q s t).1) → ∀ (s : Su) (ts : List Tm), SortS s → SortS (matL ps s ts).1 := fun ps => by
    induction ps with
    | nil => intro _ s ts hs; exact hs
    | cons q r ihr =>
      intro h s ts hs
      cases ts with
      | nil => exact hs
      | cons t ts =>
        simp only [matL]
        split
        · exact ihr (fun q hq => h q (List.mem_cons_of_mem _ hq)) _ ts (h q (by simp) s t hs)
        · trivial
  split
  · split
    · exact hs
    · rename_i h; exact withS_sort hs (boundS_false.1 (by simpa using h))
  · split
    · trivial
    · exact hL _ ih s t.args hs
end Tm
open Tm
def SubS (s u : Su) : Prop := ∀ x, boundS s x = true → boundS u x = true ∧ image u x = image s x
theorem SubS.refl (s : Su) : SubS s s := fun x h => ⟨h, rfl⟩
theorem SubS.trans {s u w : Su} (h1 : SubS s u) (h2 : SubS u w) : SubS s w := fun x h => ⟨(h2 x (h1 x h).1).1, (h2 x (h1 x h).1).2.trans (h1 x h).2⟩
theorem bound_withS {s : Su} {v : ByteArray} {t : Tm} {x : ByteArray} : boundS (withS s v t) x = true ↔ x = v ∨ boundS s x = true := by
  rw [boundS_iff, boundS_iff]
  constructor
  · rintro ⟨y, hy, rfl⟩
    rcases withS_mem.1 hy with rfl | h
    · exact .inl rfl
    · exact .inr ⟨y, h, rfl⟩
  · rintro (rfl | ⟨y, hy, rfl⟩)
    · exact ⟨_, withS_mem.2 (.inl rfl), rfl⟩
    · exact ⟨y, withS_mem.2 (.inr hy), rfl⟩
theorem withS_so {s : Su} {v : ByteArray} {t : Tm} (hs : SortS s) (hv : boundS s v = false) : SortS (withS s v t) := withS_sort hs (boundS_false.1 hv)
theorem image_withS {s : Su} {v : ByteArray} {t : Tm} (hs : SortS s) (hv : boundS s v = false) : image (withS s v t) v = t :=
  image_sort (withS_so hs hv) (withS_mem.2 (.inl rfl))
theorem sub_withS {s : Su} {v : ByteArray} {t : Tm} (hs : SortS s) (hv : boundS s v = false) : SubS s (withS s v t) := fun x hx => by
  refine ⟨bound_withS.2 (.inr hx), ?_⟩
  obtain ⟨y, hy, rfl⟩ := boundS_iff.1 hx
  rw [image_sort (withS_so hs hv) (withS_mem.2 (.inr hy)), image_sort hs hy]
theorem app_SubS {s u : Su} (h : SubS s u) (q : Tm) (hq : ∀ x ∈ vs q, boundS s x = true) : app u q = app s q := by
  rw [app_sub, app_sub]; exact sub_congr q fun x hx => (h x (hq x hx)).2
theorem mat_app : ∀ (p : Tm) (s : Su) (t : Tm), SortS s → (mat p s t).2 = true → SubS s (mat p s t).1 ∧ (∀ x ∈ vs p, boundS (mat p s t).1 x = true) ∧ app (mat p s t).1 p = t := ind fun p ih s t hs h => by
  have hL : ∀ (ps : List Tm), (∀ q ∈ ps, ∀ (s : Su) (t : Tm), SortS s → (mat q s t).2 = true → SubS s (mat q s t).1 ∧ (∀ x ∈ vs q, boundS (mat q s t).1 x = true) ∧ app (mat q s t).1 q = t) → ∀ (s : Su) (ts : List Tm), SortS s → ts.length = ps.length → (matL ps s ts).2 = true → SubS s (matL ps s ts).1 ∧ (∀ q ∈ ps, ∀ x ∈ vs q, boundS (matL ps s ts).1 x = true) ∧ ps.map (app (matL ps s ts).1) = ts := fun ps => by
    induction ps with
    | nil =>
      intro _ s ts hs hl _
      exact ⟨SubS.refl _, fun q hq => (by cases hq), (List.eq_nil_of_length_eq_zero hl).symm⟩
    | cons q r ihr =>
      intro hq s ts hs hl h
      cases ts with
      | nil => simp at hl
      | cons t ts =>
        simp only [matL] at h ⊢
        split at h
        · rename_i h1
          rw [if_pos h1]
          obtain ⟨a1, a2, a3⟩ := hq q (by simp) s t hs h1
          obtain ⟨b1, b2, b3⟩ := ihr (fun q' h' => hq q' (List.mem_cons_of_mem _ h')) _ ts (mat_sort q s t hs) (by simpa using hl) h
          refine ⟨a1.trans b1, fun q' h' x hx => ?_, ?_⟩
          · rcases List.mem_cons.1 h' with rfl | h'
            · exact (b1 x (a2 x hx)).1
            · exact b2 q' h' x hx
          · rw [List.map_cons, b3, app_SubS b1 q a2, a3]
        · cases h
  rw [mat_eq] at h ⊢
  by_cases hv : p.var = true
  · rw [if_pos hv] at h ⊢
    by_cases hb : boundS s p.name = true
    · rw [if_pos hb] at h ⊢
      refine ⟨SubS.refl _, fun x hx => ?_, ?_⟩
      · rw [(vs_var hv).1 hx]; exact hb
      · rw [app_eq, if_pos hv]; exact eqB_iff.1 h
    · have hb : boundS s p.name = false := by simpa using hb
      rw [if_neg (by rw [hb]; simp)] at h ⊢
      refine ⟨sub_withS hs hb, fun x hx => ?_, ?_⟩
      · rw [(vs_var hv).1 hx]; exact bound_withS.2 (.inl rfl)
      · rw [app_eq, if_pos hv]; exact image_withS hs hb
  · have hv : p.var = false := by simpa using hv
    rw [if_neg (by rw [hv]; simp)] at h ⊢
    split at h
    · cases h
    · rename_i hc
      rw [if_neg hc]
      simp only [Bool.or_eq_true, Bool.not_eq_true', decide_eq_false_iff_not, not_or, Classical.not_not, Bool.not_eq_true] at hc
      obtain ⟨⟨c1, c2⟩, c3⟩ := hc
      obtain ⟨a1, a2, a3⟩ := hL p.args ih s t.args hs c3 h
      refine ⟨a1, fun x hx => ?_, ?_⟩
      · obtain ⟨q, hq, hx⟩ := (vs_fn hv).1 hx
        exact a2 q hq x hx
      · rw [app_eq, if_neg (by rw [hv]; simp), a3, ← c2]
        exact Tm.ext rfl c1.symm rfl
end Go.Proofs.YtehchnjnbbnkbaaGreat
set_option linter.unusedVariables false
set_option linter.unusedSimpArgs false
namespace Go.Proofs.YtehchnjnbbnkbaaGreat
open Go Go.Abs
theorem set_self (l : List Tm) (i : Nat) (h : i < l.length) : l.set i l[i] = l := by
  apply List.ext_getElem? ; intro k
  rw [List.getElem?_set]
  split
  · rename_i e; subst e; simp [h]
  · rfl
theorem put_at : ∀ (p : List Int) (t s : Tm), t.formed = true → Tm.at_ t p = some s → Tm.put t p s = t
  | [], t, s, _, h => by simp only [Tm.at_] at h; cases h; rfl
  | i :: p, t, s, hf, h => by
    obtain ⟨hi, hx⟩ := Gt.at_cons h
    rw [Tm.formed_eq] at hf
    have hv : t.var = false := by
      cases hv : t.var with
      | false => rfl
      | true =>
        rw [hv] at hf
        have h0 : t.args = [] := by
          have := (Bool.and_eq_true _ _).mp hf
          simpa using this.2
        rw [h0] at hi; simp at hi
    rw [hv] at hf
    have hfa : t.args.all Tm.formed = true := ((Bool.and_eq_true _ _).mp hf).2
    have ih := put_at p _ s (List.all_eq_true.1 hfa _ (List.getElem_mem hi)) hx
    simp only [Tm.put, Gt.getD_get hi]
    rw [ih, set_self _ _ hi]
    exact Tm.ext rfl (by show false = t.var; rw [hv]) rfl
theorem args_formed {t : Tm} (hf : t.formed = true) : ∀ a ∈ t.args, a.formed = true := fun a ha => by
  rw [Tm.formed_eq] at hf
  cases hv : t.var with
  | true =>
    rw [hv] at hf
    have h0 : t.args = [] := by
      have := (Bool.and_eq_true _ _).mp hf
      simpa using this.2
    rw [h0] at ha; cases ha
  | false =>
    rw [hv] at hf
    exact List.all_eq_true.1 ((Bool.and_eq_true _ _).mp hf).2 a ha
theorem at_formed : ∀ (p : List Int) (t s : Tm), t.formed = true → Tm.at_ t p = some s → s.formed = true
  | [], t, s, hf, h => by simp only [Tm.at_] at h; cases h; exact hf
  | i :: p, t, s, hf, h => by
    obtain ⟨hi, hx⟩ := Gt.at_cons h
    exact at_formed p _ s (args_formed hf _ (List.getElem_mem hi)) hx
theorem put_formed : ∀ (p : List Int) (t s x : Tm), t.formed = true → Tm.at_ t p = some s → x.formed = true → (Tm.put t p x).formed = true
  | [], t, s, x, _, _, hx => hx
  | i :: p, t, s, x, hf, h, hx => by
    obtain ⟨hi, hat⟩ := Gt.at_cons h
    have ih := put_formed p _ s x (args_formed hf _ (List.getElem_mem hi)) hat hx
    have hf0 := hf
    rw [Tm.formed_eq] at hf
    have hv : t.var = false := by
      cases hv : t.var with
      | false => rfl
      | true =>
        rw [hv] at hf
        have h0 : t.args = [] := by
          have := (Bool.and_eq_true _ _).mp hf
          simpa using this.2
        rw [h0] at hi; simp at hi
    rw [hv] at hf
    obtain ⟨h1, h2⟩ := (Bool.and_eq_true _ _).mp hf
    simp only [Tm.put, Gt.getD_get hi]
    rw [Tm.formed_eq]
    show (nameOk t.name true && decide ((t.args.set i.toNat (Tm.put t.args[i.toNat] p x)).length ≤ 8) && (t.args.set i.toNat (Tm.put t.args[i.toNat] p x)).all Tm.formed) = true
    rw [List.length_set, Bool.and_eq_true]
    refine ⟨h1, List.all_eq_true.2 fun a ha => ?_⟩
    rcases List.mem_or_eq_of_mem_set ha with ha | rfl
    · exact args_formed hf0 a ha
    · exact ih
namespace Tm
theorem mat_formed : ∀ (p : Tm) (s : Su) (t : Tm), (∀ x ∈ s, x.2.formed = true) → t.formed = true → ∀ x ∈ (mat p s t).1, x.2.formed = true := by
  refine ind fun p ih s t hs ht => ?_
  have hL : ∀ (ps : List Tm), (∀ p ∈ ps, ∀ (s : Su) (t : Tm), (∀ x ∈ s, x.2.formed = true) → t.formed = true → ∀ x ∈ (mat p s t).1, x.2.formed = true) → ∀ (s : Su) (ts : List Tm), (∀ x ∈ s, x.2.formed = true) → (∀ t ∈ ts, t.formed = true) → ∀ x ∈ (matL ps s ts).1, x.2.formed = true := by
    intro ps
    induction ps with
    | nil => intro _ s ts hs _; simpa [matL] using hs
    | cons p r ihr =>
      intro h s ts hs hts
      cases ts with
      | nil => simpa [matL] using hs
      | cons t ts =>
        simp only [matL]
        split
        · exact ihr (fun q hq => h q (List.mem_cons_of_mem _ hq)) _ ts (h p (by simp) s t hs (hts t (by simp))) fun a ha => hts a (List.mem_cons_of_mem _ ha)
        · intro x hx; cases hx
  rw [mat_eq]
  split
  · split
    · exact hs
    · intro x hx
      rcases withS_in hx with h | rfl
      · exact hs x h
      · exact ht
  · split
    · intro x hx; cases hx
    · exact hL p.args ih s t.args hs (args_formed ht)
end Tm
theorem step_down {r : Ru} {t : Tm} {i : Int} {p : List Int} {rk : ByteArray → Int} (hck : t.check = 0) (hr : ∀ x ∈ r, x.1.check = 0 ∧ x.2.check = 0 ∧ Gt rk x.1 x.2) (h : stepErr r t i p = 0) : (stepT r t i p).check = 0 ∧ Gt rk t (stepT r t i p) := by
  have h0 : subErr r t i p = 0 := by
    unfold stepErr at h
    split at h
    · contradiction
    · rename_i h1; exact Decidable.byContradiction h1
  obtain ⟨h1, h2, s, hat, hm⟩ := subErr_zero h0
  have hk : i.toNat < r.length := by omega
  have hrl : rlOf r i = r[i.toNat] := by unfold rlOf; rw [List.getD_eq_getElem?_getD, List.getElem?_eq_getElem hk]; rfl
  have hsb : sbOf t p = s := by unfold sbOf; rw [hat]; rfl
  have hsu : suOf r t i p = (Tm.mat (rlOf r i).1 [] s).1 := by unfold suOf; rw [if_pos h0, hsb]
  obtain ⟨c1, c2, hg⟩ := hr _ (List.getElem_mem hk)
  rw [← hrl] at c1 c2 hg
  have ht := Tm.check_zero.1 hck
  have happ : Tm.app (suOf r t i p) (rlOf r i).1 = s := by rw [hsu]; exact (mat_app _ [] s (by simp [SortS]) hm).2.2
  have hT : stepT r t i p = stepU r t i p := by unfold stepT; rw [if_pos h]
  have hU : stepU r t i p = Tm.put t p (Tm.app (suOf r t i p) (rlOf r i).2) := rfl
  have hfs := at_formed p t s ht.1 hat
  have hfu : ∀ x ∈ suOf r t i p, x.2.formed = true := by rw [hsu]; exact Tm.mat_formed _ [] s (fun x hx => by cases hx) hfs
  have hz := stepT_size h
  refine ⟨Tm.check_zero.2 ⟨?_, hz.1, hz.2⟩, ?_⟩
  · rw [hT, hU]
    exact put_formed p t s _ ht.1 hat (Tm.app_formed hfu _ (Tm.check_zero.1 c2).1)
  · have hd := Gt.put (Gt.app (l := suOf r t i p) hg) p t s hat
    rw [happ, put_at p t s ht.1 hat] at hd
    rw [hT, hU]; exact hd
end Go.Proofs.YtehchnjnbbnkbaaGreat
set_option linter.unusedVariables false
set_option linter.unusedSimpArgs false
namespace Go.Proofs.YtehchnjnbbnkbaaGreat
open Go Go.Abs
theorem after_ok {r : Ru} {rk : ByteArray → Int} (hr : ∀ x ∈ r, x.1.check = 0 ∧ x.2.check = 0 ∧ Gt rk x.1 x.2) : ∀ (l : List Stp) (t : Tm), t.check = 0 → chErr r t l = 0 → ∀ k, k ≤ l.length → (after_ r t (l.take k)).check = 0 ∧ (k < l.length → Gt rk (after_ r t (l.take k)) (after_ r t (l.take (k + 1))))
  | [], t, ht, _, k, hk => by
    have : k = 0 := by simpa using hk
    subst this
    exact ⟨ht, fun h => by simp at h⟩
  | s :: l, t, ht, h, k, hk => by
    unfold chErr at h
    split at h
    · contradiction
    · rename_i h1
      have h1' : stepErr r t s.1 s.2 = 0 := Decidable.byContradiction h1
      obtain ⟨g1, g2⟩ := step_down ht hr h1'
      cases k with
      | zero => exact ⟨ht, fun _ => g2⟩
      | succ k =>
        have := after_ok hr l _ g1 h k (by simpa using hk)
        exact ⟨this.1, fun hlt => this.2 (by simpa using hlt)⟩
theorem l06_PathDecreases_ok (l : Rks) (r : Ru) (t : Tm) (st : List Stp) (hB : ∀ x ∈ r, x.1.size ≤ 2097152 ∧ x.2.size ≤ 2097152) (ht : t.size ≤ small) :
    Fn f_l06_PathDecreases [rksD l, ruD r, .agg [.v .str (.s t.name), .v .bool (.b t.var), .v (.sl t_Term) (.l (Tm.encL t.args)), .v (.sl t_Step) (.l (encSt st))]] (bD true) := fun Q hQ => by
  refine C_l06_PathDecreases _ _ _ _ _ _ _ ?_
  unfold vc_l06_PathDecreases
  have alive : cl f_l06_alive [] [] fun r1 H2 => r1 = (.v .bool (r1.V)) ∧ H2 = [] ∧ True ∧ Q (.v .bool (r1.V)) [] := l06_alive_ok _ ⟨rfl, rfl, trivial, hQ⟩
  refine path_Orients_ok l r (fun x hx => by have := hB x hx; unfold small; omega) _ ⟨rfl, rfl, r05_Terms_ok r t st hB ht _ ⟨rfl, rfl, iff_bne (fun _ => alive) (fun h => iff_bne (fun _ => alive) (fun h2 => ?_))⟩⟩
  have h : orE l r = 0 := h
  have h2 : tmE r t st = 0 := h2
  show jp_l06_PathDecreases_0 Q (encRks l) (V.l (encBs (orB l r))) (V.l (Tm.encL (tmR r t st)))
  have eO : orB l r = ors l r := by unfold orB; rw [if_pos h]
  have eT : tmR r t st = trail r t st := by unfold tmR; rw [if_pos h2]
  rw [eO, eT, jp_l06_PathDecreases_0_s]
  unfold je_l06_PathDecreases_0
  have hrk : rkErr l = 0 := by
    unfold orE at h
    by_cases h3 : rkErr l ≠ 0
    · rw [if_pos h3] at h; exact h
    · exact Decidable.byContradiction h3
  have hsy : sysE r = 0 := by unfold orE at h; rw [if_neg (by simp [hrk])] at h; exact h
  obtain ⟨k1, k2, k3⟩ := sysE_zero hsy
  have hol : (ors l r).length = r.length := by simp [ors]
  show (encBs (ors l r)).length ≤ big → ∃ m0, lp_l06_PathDecreases_0 Q m0 (encRks l) (V.l (Tm.encL (trail r t st))) (V.l (encBs (ors l r))) ((encBs (ors l r)).length : Int) 0
  rw [encBs_length]
  intro hb
  refine range_l06_PathDecreases_0 Q _ _ _ _ hb (fun k => ∀ j (hj : j < (ors l r).length), j < k → (ors l r)[j] = true) (fun k hk hJ K hK => ?_) (fun hJ => ?_) 0 (Nat.zero_le _) (fun j _ h => by omega)
  · refine ⟨by omega, by show (k : Int) < ((encBs (ors l r)).length : Int); rw [encBs_length]; omega, ?_⟩
    show iff (!((((encBs (ors l r)).getD k []).drop 0).headD V.none).bool) _ _
    rw [encBs_getD _ k hk]
    refine iff_not (iff_intro (fun hv => hK fun j hj hjk => ?_) (fun _ => alive))
    rcases Nat.lt_succ_iff_lt_or_eq.1 hjk with h | h
    · exact hJ j hj h
    · subst h; exact hv
  have hcE : t.check = 0 ∧ chErr r t st = 0 ∧ st.length ≤ 4096 := by
    unfold tmE at h2
    split at h2
    · cases h2
    · split at h2
      · contradiction
      · rename_i g1 g2; exact ⟨Decidable.byContradiction g2, h2, by omega⟩
  have hr : ∀ x ∈ r, x.1.check = 0 ∧ x.2.check = 0 ∧ Gt (rankOf l) x.1 x.2 := fun x hx => by
    obtain ⟨j, hj, rfl⟩ := List.mem_iff_getElem.1 hx
    have := hJ j (by omega) (by omega)
    have e : (ors l r)[j]'(by omega) = gtR l (r[j]).1 (r[j]).2 := by simp [ors]
    rw [e] at this
    exact ⟨(k2 _ hx).1, (k2 _ hx).2, gtB_true.1 this⟩
  have hao := after_ok hr st t hcE.1 hcE.2.1
  have htl : (trail r t st).length = st.length + 1 := by simp [trail]
  refine rule_l06_PathDecreases_1 Q (fun a b i => a = encRks l ∧ b = V.l (Tm.encL (trail r t st)) ∧ ∃ k : Nat, i = ((k + 1 : Nat) : Int) ∧ k ≤ st.length) (fun a b i => st.length + 2 - i.toNat) ?_ _ _ _ ⟨rfl, rfl, 0, rfl, Nat.zero_le _⟩
  rintro a b i ⟨rfl, rfl, k, rfl, hk⟩ M ih
  unfold st_l06_PathDecreases_1
  show (Tm.encL (trail r t st)).length ≤ big → _
  intro _
  show iff (decide (((k + 1 : Nat) : Int) < ((Tm.encL (trail r t st)).length : Int))) _ _
  rw [Tm.encL_length, htl]
  refine iff_dec (fun hlt => ?_) (fun _ => alive)
  have hks : k < st.length := by omega
  have hw : IntKind.i64.wrap (((k + 1 : Nat) : Int) - (1 : Int)) = (k : Int) := by rw [wrap_in _ (by omega) (by omega)]; omega
  have hg : ∀ j, j ≤ st.length → (Tm.encL (trail r t st)).getD j [] = (after_ r t (st.take j)).enc := fun j hj => by
    rw [Tm.encL_getD _ j (by omega)]; simp [trail]
  rw [hw]
  refine ⟨by omega, by show (k : Int) < ((Tm.encL (trail r t st)).length : Int); rw [Tm.encL_length]; omega, by omega, by show ((k + 1 : Nat) : Int) < ((Tm.encL (trail r t st)).length : Int); rw [Tm.encL_length]; omega, ?_⟩
  simp only [V.list, Int.toNat_natCast, hg k (by omega), hg (k + 1) (by omega), Tm.enc_eq, List.drop_zero, List.headD_cons, List.tail_cons]
  have c1 := (hao k (by omega)).1
  have c2 := (hao (k + 1) (by omega)).1
  have hgr : gr l (after_ r t (st.take k)) (after_ r t (st.take (k + 1))) = true := gr_true.2 ⟨grErr_zero.2 ⟨hrk, c1, c2⟩, (hao k (by omega)).2 hks⟩
  refine l06_greater_ok l _ _ (by have := (Tm.check_zero.1 c1).2.1; unfold small; omega) (by have := (Tm.check_zero.1 c2).2.1; unfold small; omega) _ ⟨rfl, rfl, ?_⟩
  rw [hgr]
  show lp_l06_PathDecreases_1 Q M _ _ _
  rw [wrap_in _ (by omega) (by omega)]
  exact ih _ _ _ ⟨rfl, rfl, k + 1, by omega, by omega⟩ (by show st.length + 2 - (((k + 1 : Nat) : Int) + 1).toNat < st.length + 2 - ((k + 1 : Nat) : Int).toNat; omega)
end Go.Proofs.YtehchnjnbbnkbaaGreat
