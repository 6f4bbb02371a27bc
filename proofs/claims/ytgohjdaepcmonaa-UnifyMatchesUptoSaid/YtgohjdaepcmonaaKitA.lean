import Derived.Test.YtgohjdaepcmonaaT
import Derived.IntWalk
set_option linter.unusedVariables false
set_option linter.unusedSimpArgs false
namespace Go.Proofs.Ytgohjdaepcmonaa
open Go.Abs
abbrev iD (n : Int) : D := .v (.int .i64) (.i n)
abbrev bD (b : Bool) : D := .v .bool (.b b)
abbrev sD (s : ByteArray) : D := .v .str (.s s)
abbrev uD (n : Int) : D := .v (.int .u8) (.i n)
def Fn (f : FuncId) (args : List D) (r : D) : Prop := ∀ Q : D → Heap → Prop, Q r [] → cl f args [] Q
theorem Fn.use {f : FuncId} {args : List D} {r : D} (h : Fn f args r) {Q : D → Heap → Prop} (hq : Q r []) : cl f args [] Q := h Q hq
theorem Fn.here {f : FuncId} {args : List D} {r r' : D} (h : Fn f args r) (e : r' = r) : cl f args [] (fun x H' => x = r' ∧ H' = []) := h _ ⟨e.symm, rfl⟩
theorem iff_intro {b : Bool} {p q : Prop} (h1 : b = true → p) (h2 : b = false → q) : iff b p q := by
  cases b with
  | true => exact h1 rfl
  | false => exact h2 rfl
theorem iff_dec {c : Prop} [Decidable c] {p q : Prop} (h1 : c → p) (h2 : ¬ c → q) : iff (decide c) p q := by
  by_cases h : c
  · exact iff_yes (decide_eq_true h) (h1 h)
  · exact iff_no (decide_eq_false h) (h2 h)
theorem iff_beq {α : Type} [BEq α] [LawfulBEq α] {a b : α} {p q : Prop} (h1 : a = b → p) (h2 : a ≠ b → q) : iff (a == b) p q := by
  by_cases h : a = b
  · exact iff_yes (by simp [h]) (h1 h)
  · exact iff_no (by simp [h]) (h2 h)
theorem iff_bne {α : Type} [BEq α] [LawfulBEq α] {a b : α} {p q : Prop} (h1 : a ≠ b → p) (h2 : a = b → q) : iff (a != b) p q := by
  by_cases h : a = b
  · exact iff_no (by simp [h]) (h2 h)
  · exact iff_yes (by simp [h]) (h1 h)
theorem iff_not {b : Bool} {p q : Prop} (h : iff b q p) : iff (!b) p q := by cases b <;> exact h
theorem wrap_in (n : Int) (h1 : -9223372036854775808 ≤ n) (h2 : n ≤ 9223372036854775807) : IntKind.i64.wrap n = n := IntWalk.i64_in n ⟨h1, h2⟩
theorem wrap_u64 (n : Int) (h1 : 0 ≤ n) (h2 : n ≤ 18446744073709551615) : IntKind.u64.wrap n = n := by
  simp only [IntKind.wrap, IntKind.signed, IntKind.bits, Bool.false_and, Bool.false_eq_true, if_false]; omega
theorem big_eq : big = 9223372036854775807 := rfl
theorem ba_toList (s : ByteArray) : s.toList = s.data.toList := by
  have key : ∀ (n i : Nat) (r : List UInt8), s.size - i = n → i ≤ s.size → ByteArray.toList.loop s i r = r.reverse ++ s.data.toList.drop i := by
    intro n
    induction n with
    | zero =>
      intro i r h1 h2
      unfold ByteArray.toList.loop
      have : ¬ i < s.size := by omega
      rw [if_neg this]
      have h3 : s.data.toList.length = s.size := by simp
      simp [List.drop_eq_nil_of_le (by omega : s.data.toList.length ≤ i)]
    | succ n ih =>
      intro i r h1 h2
      unfold ByteArray.toList.loop
      have hi : i < s.size := by omega
      rw [if_pos hi, ih (i + 1) _ (by omega) (by omega)]
      have h3 : i < s.data.toList.length := by simpa using hi
      rw [List.drop_eq_getElem_cons h3]
      have : s.get! i = s.data.toList[i] := by
        show s.data[i]! = _
        rw [getElem!_pos s.data i (by simpa using hi)]
        simp
      simp [this]
  have := key s.size 0 [] (by omega) (by omega)
  simpa [ByteArray.toList] using this
theorem ba_ext {a b : ByteArray} (h : a.data.toList = b.data.toList) : a = b := by
  cases a; cases b; simp at h; exact congrArg _ h
theorem ba_eq_iff {a b : ByteArray} : a.data.toList = b.data.toList ↔ a = b := ⟨ba_ext, fun h => h ▸ rfl⟩
theorem ba_beq (a b : ByteArray) : (a.toList == b.toList) = decide (a = b) := by
  rw [ba_toList, ba_toList, Bool.eq_iff_iff, beq_iff_eq, ba_eq_iff, decide_eq_true_iff]
theorem ba_size (s : ByteArray) : s.data.toList.length = s.size := by simp
theorem ba_nil (s : ByteArray) : (s = ByteArray.mk #[]) ↔ s.size = 0 := by
  constructor
  · rintro rfl; rfl
  · intro h
    apply ba_ext
    apply List.eq_nil_of_length_eq_zero
    rw [ba_size]; exact h
abbrev cmpN (a b : ByteArray) : Int := Lib.compareBytes a.data.toList b.data.toList
theorem cmp_self : ∀ l : List UInt8, Lib.compareBytes l l = 0
  | [] => rfl
  | a :: l => by simp [Lib.compareBytes, cmp_self l]
theorem u8_lt (a b : UInt8) : a < b ↔ a.toNat < b.toNat := UInt8.lt_iff_toNat_lt
theorem cmp_cases : ∀ (l m : List UInt8), (Lib.compareBytes l m = -1 ∧ Lib.compareBytes m l = 1) ∨ (Lib.compareBytes l m = 0 ∧ l = m) ∨ (Lib.compareBytes l m = 1 ∧ Lib.compareBytes m l = -1)
  | [], [] => by simp [Lib.compareBytes]
  | [], _ :: _ => by simp [Lib.compareBytes]
  | _ :: _, [] => by simp [Lib.compareBytes]
  | a :: l, b :: m => by
    simp only [Lib.compareBytes]
    by_cases h1 : a < b
    · have h2 : ¬ b < a := by rw [u8_lt] at *; omega
      simp [h1, h2]
    · by_cases h2 : b < a
      · simp [h1, h2]
      · have h3 : a = b := by
          apply UInt8.toNat_inj.1; rw [u8_lt] at *; omega
        subst h3
        simp only [if_neg h1]
        rcases cmp_cases l m with h | ⟨h, h'⟩ | h
        · exact .inl h
        · exact .inr (.inl ⟨h, by rw [h']⟩)
        · exact .inr (.inr h)
theorem cmp_trans : ∀ (l m n : List UInt8), Lib.compareBytes l m = -1 → Lib.compareBytes m n = -1 → Lib.compareBytes l n = -1
  | [], [], n, h, _ => by simp [Lib.compareBytes] at h
  | [], _ :: _, [], _, h => by simp [Lib.compareBytes] at h
  | [], _ :: _, _ :: _, _, _ => by simp [Lib.compareBytes]
  | _ :: _, [], _, h, _ => by simp [Lib.compareBytes] at h
  | _ :: _, _ :: _, [], _, h => by simp [Lib.compareBytes] at h
  | a :: l, b :: m, c :: n, h1, h2 => by
    simp only [Lib.compareBytes] at *
    by_cases hab : a < b
    · by_cases hbc : b < c
      · have : a < c := by rw [u8_lt] at *; omega
        simp [this]
      · rw [if_neg hbc] at h2
        by_cases hcb : c < b
        · simp [hcb] at h2
        · have : a < c := by rw [u8_lt] at *; omega
          simp [this]
    · rw [if_neg hab] at h1
      by_cases hba : b < a
      · simp [hba] at h1
      · rw [if_neg hba] at h1
        have he : a = b := by apply UInt8.toNat_inj.1; rw [u8_lt] at *; omega
        subst he
        by_cases hbc : a < c
        · simp [hbc]
        · rw [if_neg hbc] at h2
          by_cases hcb : c < a
          · simp [hcb] at h2
          · rw [if_neg hcb] at h2
            rw [if_neg hbc, if_neg hcb]
            exact cmp_trans l m n h1 h2
theorem cmpN_cases (a b : ByteArray) : (cmpN a b = -1 ∧ cmpN b a = 1) ∨ (cmpN a b = 0 ∧ a = b) ∨ (cmpN a b = 1 ∧ cmpN b a = -1) := by
  rcases cmp_cases a.data.toList b.data.toList with h | ⟨h1, h2⟩ | h
  · exact .inl h
  · exact .inr (.inl ⟨h1, ba_ext h2⟩)
  · exact .inr (.inr h)
theorem cmpN_self (a : ByteArray) : cmpN a a = 0 := cmp_self _
theorem cmpN_zero {a b : ByteArray} : cmpN a b = 0 ↔ a = b := by
  rcases cmpN_cases a b with h | h | h
  · constructor
    · omega
    · rintro rfl; have := cmpN_self a; omega
  · exact ⟨fun _ => h.2, fun _ => h.1⟩
  · constructor
    · omega
    · rintro rfl; have := cmpN_self a; omega
theorem cmpN_trans {a b c : ByteArray} (h1 : cmpN a b = -1) (h2 : cmpN b c = -1) : cmpN a c = -1 := cmp_trans _ _ _ h1 h2
def letterB (c : Int) : Bool := decide (65 ≤ c ∧ c ≤ 90 ∨ 97 ≤ c ∧ c ≤ 122 ∨ 48 ≤ c ∧ c ≤ 57 ∨ c = 95 ∨ c = 39)
def lettersL (l : List UInt8) : Bool := l.all fun c => letterB (c.toNat : Int)
def markedL (l : List UInt8) : Bool := decide (l.getLast? = some 35)
def nameOk (s : ByteArray) (m : Bool) : Bool :=
  decide (s.size ≤ 24) && (if m && markedL s.data.toList then decide (1 < s.size) && lettersL s.data.toList.dropLast else decide (0 < s.size) && lettersL s.data.toList)
theorem extract_list (s : ByteArray) (i j : Nat) : (s.extract i j).data.toList = (s.data.toList.take j).drop i := by
  simp [ByteArray.data_extract, Array.toList_extract, List.extract_eq_take_drop, List.drop_take]
end Go.Proofs.Ytgohjdaepcmonaa
