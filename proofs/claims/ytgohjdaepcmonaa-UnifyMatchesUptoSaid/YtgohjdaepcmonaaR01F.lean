import Derived.Test.YtgohjdaepcmonaaR01D
set_option linter.unusedVariables false
set_option linter.unusedSimpArgs false
namespace Go.Proofs.Ytgohjdaepcmonaa
open Go.Abs
def encN (l : List ByteArray) : List (List V) := l.map fun s => [.s s]
abbrev nsD (l : List ByteArray) : D := .v (.sl t_string) (.l (encN l))
def hasN (l : List ByteArray) (x : ByteArray) : Bool := l.any fun y => decide (y = x)
theorem hasN_iff {l : List ByteArray} {x : ByteArray} : hasN l x = true ↔ x ∈ l := by
  unfold hasN; rw [List.any_eq_true]
  constructor
  · rintro ⟨y, hy, h⟩
    rw [decide_eq_true_iff] at h; exact h ▸ hy
  · exact fun h => ⟨x, h, by simp⟩
theorem hasN_false {l : List ByteArray} {x : ByteArray} : hasN l x = false ↔ x ∉ l := by rw [← hasN_iff, Bool.not_eq_true]
def insN (l : List ByteArray) (s : ByteArray) : List ByteArray := match l with
  | [] => [s]
  | x :: r => if cmpN x s = -1 then x :: insN r s else if x = s then x :: r else s :: x :: r
namespace Tm
mutual
def collect : Tm → List ByteArray → List ByteArray | mk n v xs, l => collectL xs (if v then insN l n else l)
def collectL : List Tm → List ByteArray → List ByteArray | [], l => l | t :: r, l => collectL r (collect t l)
end
def vars (l : List Tm) : List ByteArray := collectL l []
end Tm
open Classical in
noncomputable def sameS (l m : Su) : Bool := decide (l = m)
theorem sameS_iff {l m : Su} : sameS l m = true ↔ l = m := by unfold sameS; simp
theorem sameS_false {l m : Su} : sameS l m = false ↔ l ≠ m := by rw [← Bool.not_eq_true, sameS_iff]
theorem r01_SameSubst_ok (l m : Su) : Fn f_r01_SameSubst [suD l, suD m] (bD (sameS l m)) := fun Q hQ => by
  refine C_r01_SameSubst _ _ _ fun hb hb2 => ?_
  rw [encS_length l, encS_length m]
  rw [encS_length] at hb hb2
  have bad : l ≠ m → Q (bD false) [] := fun h => by rw [sameS_false.2 h] at hQ; exact hQ
  refine iff_bne (fun h => ⟨trivial, bad fun e => h (by rw [e])⟩) (fun h hb => ?_)
  have he : l.length = m.length := by omega
  refine range_r01_SameSubst_0 Q _ _ _ (by omega) (fun k => l.take k = m.take k) (fun k hk hJ K hK => ?_) (fun hJ => ?_) 0 (Nat.zero_le _) rfl
  · have hk2 : k < m.length := by omega
    simp only [encS_getD _ k hk, encS_getD _ k hk2, Tm.enc_eq, List.drop_zero, List.drop_succ_cons, List.headD_cons, List.tail_cons]
    rw [encS_length l, encS_length m]
    refine ⟨by omega, by omega, by omega, by omega, ?_⟩
    show iff (!((l[k]).1.toList == (m[k]).1.toList)) _ _
    rw [ba_beq]
    have hne : l[k] ≠ m[k] → l ≠ m := fun h e => h (by subst e; rfl)
    refine iff_not (iff_dec (fun h1 => ⟨by omega, by omega, by omega, by omega, r01_Equal_ok _ _ _ ⟨rfl, rfl, iff_not (iff_intro (fun h2 => hK ?_) (fun h2 => ⟨trivial, bad (hne fun e => ?_)⟩))⟩⟩) (fun h1 => ⟨trivial, bad (hne fun e => h1 (by rw [e]))⟩))
    · have h2 : Tm.eqB (l[k]).2 (m[k]).2 = true := h2
      rw [Tm.eqB_iff] at h2
      rw [List.take_succ_eq_append_getElem hk, List.take_succ_eq_append_getElem hk2, hJ, Prod.ext h1 h2]
    · have h2 : Tm.eqB (l[k]).2 (m[k]).2 = false := h2
      rw [Tm.eqB_false] at h2
      exact h2 (by rw [e])
  · rw [List.take_length, he, List.take_length] at hJ
    rw [sameS_iff.2 hJ] at hQ
    exact ⟨trivial, hQ⟩
abbrev Ru := List (Tm × Tm)
def encR (x : Tm × Tm) : List V := x.1.enc ++ x.2.enc
def encRs (l : Ru) : List (List V) := l.map encR
abbrev ruD (l : Ru) : D := .v (.sl t_Rule) (.l (encRs l))
theorem encRs_length (l : Ru) : (encRs l).length = l.length := by simp [encRs]
theorem encRs_getD (l : Ru) (k : Nat) (h : k < l.length) : (encRs l).getD k [] = [.s (l[k]).1.name, .b (l[k]).1.var, .l (Tm.encL (l[k]).1.args), .s (l[k]).2.name, .b (l[k]).2.var, .l (Tm.encL (l[k]).2.args)] := by
  rw [encRs, List.getD_eq_getElem?_getD, List.getElem?_map, List.getElem?_eq_getElem h]
  simp [encR, Tm.enc_eq]
def rulesL : Ru → Int
  | [] => 0
  | x :: r => if Tm.checkAll [x.1, x.2] ≠ 0 then Tm.checkAll [x.1, x.2] else rulesL r
def rules (l : Ru) : Int := if l.length > 64 then 3 else rulesL l
theorem rulesL_take {l : Ru} : ∀ {k : Nat} (hk : k < l.length), (∀ i (h : i < k), Tm.checkAll [(l[i]'(by omega)).1, (l[i]'(by omega)).2] = 0) → Tm.checkAll [(l[k]).1, (l[k]).2] ≠ 0 → rulesL l = Tm.checkAll [(l[k]).1, (l[k]).2] := by
  induction l with
  | nil => intro k hk; simp at hk
  | cons x r ih =>
    intro k hk h hn
    cases k with
    | zero => simp only [List.getElem_cons_zero] at hn ⊢; rw [rulesL, if_pos hn]
    | succ k =>
      have h0 := h 0 (by omega)
      simp only [List.getElem_cons_zero] at h0
      simp only [List.getElem_cons_succ] at hn ⊢
      rw [rulesL, if_neg (by simp [h0])]
      exact ih (by simpa using hk) (fun i hi => by have := h (i + 1) (by omega); simpa using this) hn
theorem rulesL_all {l : Ru} (h : ∀ i (h : i < l.length), Tm.checkAll [(l[i]).1, (l[i]).2] = 0) : rulesL l = 0 := by
  induction l with
  | nil => rfl
  | cons x r ih =>
    have h0 := h 0 (by simp)
    simp only [List.getElem_cons_zero] at h0
    rw [rulesL, if_neg (by simp [h0])]
    exact ih fun i hi => by have := h (i + 1) (by simpa using hi); simpa using this
end Go.Proofs.Ytgohjdaepcmonaa
