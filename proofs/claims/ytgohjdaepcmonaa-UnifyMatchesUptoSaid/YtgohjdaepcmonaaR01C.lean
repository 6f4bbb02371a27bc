import Derived.Test.YtgohjdaepcmonaaAbsK
import Derived.Test.YtgohjdaepcmonaaR01B
set_option linter.unusedVariables false
set_option linter.unusedSimpArgs false
namespace Go.Proofs.Ytgohjdaepcmonaa
open Go.Abs
theorem Fn.as {f : FuncId} {args : List D} {r : D} (h : ∀ Q : D → Heap → Prop, (∀ r0, As r0 r → Q r0 []) → cl f args [] Q) : Fn f args r := fun Q hQ =>
  ACalls.as (h _ fun r0 h0 => ⟨r, h0, hQ⟩)
abbrev Su := List (ByteArray × Tm)
def encB (x : ByteArray × Tm) : List V := .s x.1 :: x.2.enc
def encS (l : Su) : List (List V) := l.map encB
abbrev suD (l : Su) : D := .v (.sl t_Bind) (.l (encS l))
theorem encS_length (l : Su) : (encS l).length = l.length := by simp [encS]
theorem encS_getD (l : Su) (k : Nat) (h : k < l.length) : (encS l).getD k [] = .s (l[k]).1 :: (l[k]).2.enc := by
  rw [encS, List.getD_eq_getElem?_getD, List.getElem?_map, List.getElem?_eq_getElem h]; rfl
namespace Tm
def image (l : Su) (x : ByteArray) : Tm := match l with
  | [] => mk x true []
  | (y, t) :: r => if y = x then t else image r x
mutual
def app (l : Su) : Tm → Tm | mk n v xs => if v then image l n else mk n false (appL l xs)
def appL (l : Su) : List Tm → List Tm | [] => [] | t :: r => app l t :: appL l r
end
def fits (l : Su) (t : Tm) : Bool := decide ((app l t).size ≤ 4000) && decide ((app l t).depth ≤ 200)
theorem image_take {l : Su} {x : ByteArray} {k : Nat} (hk : k < l.length) (h : ∀ i (hi : i < k), (l[i]'(by omega)).1 ≠ x) (he : (l[k]).1 = x) : image l x = (l[k]).2 := by
  induction l generalizing k with
  | nil => simp at hk
  | cons y r ih =>
    cases k with
    | zero => simp only [List.getElem_cons_zero] at he ⊢; simp only [image]; rw [if_pos he]
    | succ k =>
      have h0 := h 0 (by omega)
      simp only [List.getElem_cons_zero] at h0
      simp only [image]
      rw [if_neg h0]
      simp only [List.getElem_cons_succ] at he ⊢
      exact ih (by simpa using hk) (fun i hi => by have := h (i + 1) (by omega); simpa using this) he
theorem image_none {l : Su} {x : ByteArray} (h : ∀ i (hi : i < l.length), (l[i]).1 ≠ x) : image l x = mk x true [] := by
  induction l with
  | nil => rfl
  | cons y r ih =>
    have h0 := h 0 (by simp)
    simp only [List.getElem_cons_zero] at h0
    simp only [image]
    rw [if_neg h0]
    exact ih fun i hi => by have := h (i + 1) (by simpa using hi); simpa using this
end Tm
theorem r01_Image_ok (l : Su) (x : ByteArray) : Fn f_r01_Image [suD l, sD x] (tD (Tm.image l x)) := Fn.as fun Q hQ => by
  refine C_r01_Image _ _ _ fun hb => ?_
  have hl := encS_length l
  rw [hl] at hb ⊢
  refine range_r01_Image_0 Q _ _ _ _ _ hb (fun k => ∀ i (hi : i < k) (h : i < l.length), (l[i]).1 ≠ x) (fun k hk hJ K hK => ?_) (fun hJ => ?_) 0 (Nat.zero_le _) (fun i hi => by omega)
  · simp only [encS_getD _ k hk, Tm.enc_eq, List.drop_zero, List.headD_cons, List.tail_cons, V.str]
    refine ⟨by omega, by omega, ?_⟩
    rw [ba_beq]
    refine iff_dec (fun h => ⟨⟨trivial, trivial, trivial, trivial⟩, ?_⟩) (fun h => hK ?_)
    · rw [Tm.image_take hk (fun i hi => hJ i hi _) h] at hQ
      exact hQ _ (.refl _)
    · intro i hi h6
      rcases Nat.lt_succ_iff_lt_or_eq.1 hi with h8 | rfl
      · exact hJ i h8 h6
      · exact h
  · refine ⟨⟨trivial, trivial, trivial, trivial⟩, ?_⟩
    rw [Tm.image_none fun i hi => hJ i hi hi] at hQ
    exact hQ _ (.last3 _ _ _)
end Go.Proofs.Ytgohjdaepcmonaa
