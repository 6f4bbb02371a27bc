/-
  CONTRACTS of the reference's substitutions and positions.
-/
import Derived.Test.YtehchnjnbbnkbaaAbsK
import Derived.Test.YtehchnjnbbnkbaaR01B
set_option linter.unusedVariables false
set_option linter.unusedSimpArgs false
namespace Go.Proofs.Ytehchnjnbbnkbaa
open Go.Abs

theorem Fn.as {f : FuncId} {args : List D} {r : D} (h : ∀ Q : D → Heap → Prop, (∀ r0, As r0 r → Q r0 []) → cl f args [] Q) : Fn f args r := fun Q hQ =>
  ACalls.as (h _ fun r0 h0 => ⟨r, h0, hQ⟩)

/-! Substitutions -/
abbrev Su := List (ByteArray × Tm)
def encB (x : ByteArray × Tm) : List V := .s x.1 :: x.2.enc
def encS (l : Su) : List (List V) := l.map encB
abbrev suD (l : Su) : D := .v (.sl t_Bind) (.l (encS l))
theorem encS_length (l : Su) : (encS l).length = l.length := by simp [encS]
theorem encS_getD (l : Su) (k : Nat) (h : k < l.length) : (encS l).getD k [] = .s (l[k]).1 :: (l[k]).2.enc := by
  rw [encS, List.getD_eq_getElem?_getD, List.getElem?_map, List.getElem?_eq_getElem h]; rfl

namespace Tm
/-- The image of a variable. -/
def image (l : Su) (x : ByteArray) : Tm := match l with
  | [] => mk x true []
  | (y, t) :: r => if y = x then t else image r x
mutual
def app (l : Su) : Tm → Tm | mk n v xs => if v then image l n else mk n false (appL l xs)
def appL (l : Su) : List Tm → List Tm | [] => [] | t :: r => app l t :: appL l r
end
theorem app_eq (l : Su) : ∀ t : Tm, app l t = if t.var then image l t.name else mk t.name false (t.args.map (app l)) := by
  have : ∀ xs, appL l xs = xs.map (app l) := by
    intro xs
    induction xs with
    | nil => rfl
    | cons t r ih => simp [appL, ih]
  intro t
  cases t with
  | mk n v xs =>
    show (if v then image l n else mk n false (appL l xs)) = _
    rw [this]
    rfl
def fits (l : Su) (t : Tm) : Bool := decide ((app l t).size ≤ 4000) && decide ((app l t).depth ≤ 200)
theorem image_take {l : Su} {x : ByteArray} {k : Nat} (hk : k < l.length) (h : ∀ i (hi : i < k), (l[i]'(by omega)).1 ≠ x) (he : (l[k]).1 = x) : image l x = (l[k]).2 := by
  induction l generalizing k with
  | nil => simp at hk
  | cons y r ih =>
    cases k with
    | zero => simp only [List.getElem_cons_zero] at he ⊢; simp only [image]; rw [if_pos he]
    | succ k =>
      have h0 := h 0 (by omega)
      simp only [List.getElem_cons_zero] at h0
      simp only [image]
      rw [if_neg h0]
      simp only [List.getElem_cons_succ] at he ⊢
      exact ih (by simpa using hk) (fun i hi => by have := h (i + 1) (by omega); simpa using this) he
theorem image_none {l : Su} {x : ByteArray} (h : ∀ i (hi : i < l.length), (l[i]).1 ≠ x) : image l x = mk x true [] := by
  induction l with
  | nil => rfl
  | cons y r ih =>
    have h0 := h 0 (by simp)
    simp only [List.getElem_cons_zero] at h0
    simp only [image]
    rw [if_neg h0]
    exact ih fun i hi => by have := h (i + 1) (by simpa using hi); simpa using this
end Tm

theorem r01_Image_ok (l : Su) (x : ByteArray) : Fn f_r01_Image [suD l, sD x] (tD (Tm.image l x)) := Fn.as fun Q hQ => by
  refine C_r01_Image _ _ _ fun hb => ?_
  have hl := encS_length l
  rw [hl] at hb ⊢
  refine range_r01_Image_0 Q _ _ _ _ _ hb (fun k => ∀ i (hi : i < k) (h : i < l.length), (l[i]).1 ≠ x) (fun k hk hJ K hK => ?_) (fun hJ => ?_) 0 (Nat.zero_le _) (fun i hi => by omega)
  · simp only [encS_getD _ k hk, Tm.enc_eq, List.drop_zero, List.headD_cons, List.tail_cons, V.str]
    refine ⟨by omega, by omega, ?_⟩
    rw [ba_beq]
    refine iff_dec (fun h => ⟨⟨trivial, trivial, trivial, trivial⟩, ?_⟩) (fun h => hK ?_)
    · rw [Tm.image_take hk (fun i hi => hJ i hi _) h] at hQ
      exact hQ _ (.refl _)
    · intro i hi h6
      rcases Nat.lt_succ_iff_lt_or_eq.1 hi with h8 | rfl
      · exact hJ i h8 h6
      · exact h
  · refine ⟨⟨trivial, trivial, trivial, trivial⟩, ?_⟩
    rw [Tm.image_none fun i hi => hJ i hi hi] at hQ
    exact hQ _ (.last3 _ _ _)

theorem r01_Apply_ok (l : Su) : ∀ t : Tm, t.size ≤ lim → Fn f_r01_Apply [suD l, tD t] (tD (Tm.app l t)) := Tm.ind fun t ih hB Q hQ => by
  refine C_r01_Apply _ _ _ _ _ ?_
  unfold vc_r01_Apply
  have ha := Tm.app_eq l t
  refine iff_intro (fun h => ?_) (fun h hb => ?_)
  · rw [h, if_pos rfl] at ha
    rw [ha] at hQ
    exact r01_Image_ok l _ _ ⟨rfl, rfl, ⟨trivial, trivial, trivial, trivial⟩, hQ⟩
  · rw [h, if_neg (by simp)] at ha
    have hl := Tm.encL_length t.args
    rw [hl] at hb ⊢
    have hsz := Tm.size_eq t
    have hls := Tm.length_sizeL t.args
    refine range_r01_Apply_0 Q _ _ _ _ _ _ _ hb (fun k n y => n = k ∧ y = Tm.encL ((t.args.take k).map (Tm.app l))) (fun k n y hk hJ K hK => ?_) (fun n y hJ => ?_) 0 0 _ (Nat.zero_le _) ⟨rfl, rfl⟩
    · simp only [Tm.encL_getD _ k hk, Tm.enc_eq, List.drop_zero, List.headD_cons, List.tail_cons]
      obtain ⟨rfl, rfl⟩ := hJ
      have hm := Tm.size_mem (List.getElem_mem hk)
      refine ⟨by omega, by omega, tD (Tm.app l (t.args[n])), (ih _ (List.getElem_mem hk) (by omega)).here rfl, ?_, ?_, hK _ _ ⟨?_, ?_⟩⟩
      · rw [Tm.encL_length, List.length_map, List.length_take]; omega
      · show n + 1 ≤ lim; omega
      · rfl
      · rw [List.take_succ_eq_append_getElem hk, List.map_append, Tm.encL_eq, Tm.encL_eq, List.map_append]
        congr 1
        simp only [List.map_cons, List.map_nil]
        rw [Tm.enc_eq]
        rfl
    · obtain ⟨rfl, rfl⟩ := hJ
      rw [List.take_length]
      refine ⟨⟨trivial, trivial, ?_, trivial⟩, ?_⟩
      · rw [Tm.encL_length, List.length_map]
      · rw [ha] at hQ; exact hQ

theorem r01_Grown_ok (l : Su) : ∀ t : Tm, (Tm.app l t).size ≤ small → Fn f_r01_Grown [suD l, tD t] (.tup [iD (Tm.app l t).size, iD (Tm.app l t).depth]) := Tm.ind fun t ih hB Q hQ => by
  refine C_r01_Grown _ _ _ _ _ ?_
  unfold vc_r01_Grown
  have ha := Tm.app_eq l t
  refine iff_intro (fun h => ?_) (fun h hb => ?_)
  · rw [h, if_pos rfl] at ha
    rw [ha] at hQ hB
    exact r01_Image_ok l _ _ ⟨rfl, rfl, iD (Tm.image l t.name).size, (r01_Size_ok _ hB).here rfl, r01_Depth_ok _ hB _ ⟨rfl, rfl, ⟨trivial, trivial, trivial⟩, hQ⟩⟩
  · rw [h, if_neg (by simp)] at ha
    have hl := Tm.encL_length t.args
    rw [hl] at hb ⊢
    have hs : (Tm.app l t).size = 1 + Tm.sizeL (t.args.map (Tm.app l)) := by rw [ha, Tm.size_eq]; rfl
    have hd : (Tm.app l t).depth = Tm.depthL (t.args.map (Tm.app l)) + 1 := by rw [ha, Tm.depth_eq]; rfl
    have hds := Tm.depth_le_size (Tm.app l t)
    rw [small_eq] at hB
    rw [hs, hd] at hQ
    rw [hs] at hB hds
    rw [hd] at hds
    refine range_r01_Grown_0 Q _ _ _ hb (fun k n d => n = ((1 + Tm.sizeL ((t.args.map (Tm.app l)).take k) : Nat) : Int) ∧ d = (Tm.depthL ((t.args.map (Tm.app l)).take k) : Int)) (fun k n d hk hJ K hK => ?_) (fun n d hJ => ?_) 0 1 0 (Nat.zero_le _) ⟨rfl, rfl⟩
    · simp only [Tm.encL_getD _ k hk, Tm.enc_eq, List.drop_zero, List.headD_cons, List.tail_cons]
      have hk' : k < (t.args.map (Tm.app l)).length := by simpa using hk
      have hm := Tm.sizeL_mem (List.getElem_mem hk')
      have h1 := Tm.sizeL_take _ k hk'
      have h2 := Tm.sizeL_take_le (t.args.map (Tm.app l)) (k + 1)
      have h3 := Tm.depthL_take _ k hk'
      rw [List.getElem_map] at hm h1 h3
      refine ⟨by omega, by omega, ih _ (List.getElem_mem hk) (by rw [small_eq]; omega) _ ⟨rfl, rfl, hK _ _ ⟨?_, ?_⟩⟩⟩
      · rw [hJ.1]
        show IntKind.i64.wrap (_ + ((Tm.app l (t.args[k])).size : Int)) = _
        rw [wrap_in _ (by omega) (by omega)]
        omega
      · rw [hJ.2]
        show (if ((Tm.app l (t.args[k])).depth : Int) > _ then ((Tm.app l (t.args[k])).depth : Int) else _) = _
        rw [h3]
        split <;> omega
    · rw [List.take_of_length_le (by simp)] at hJ
      obtain ⟨rfl, rfl⟩ := hJ
      rw [wrap_in _ (by omega) (by omega)]
      exact ⟨⟨trivial, trivial, trivial⟩, hQ⟩

theorem r01_Fits_ok (l : Su) (t : Tm) (hB : (Tm.app l t).size ≤ small) : Fn f_r01_Fits [suD l, tD t] (bD (Tm.fits l t)) := fun Q hQ => by
  refine C_r01_Fits _ _ _ _ _ ?_
  unfold vc_r01_Fits
  refine r01_Grown_ok l t hB _ ⟨rfl, rfl, iff_dec (fun h => ⟨trivial, ?_⟩) (fun h => ⟨trivial, ?_⟩)⟩
  · have h : ((Tm.app l t).size : Int) ≤ 4000 := h
    unfold Tm.fits at hQ
    rw [decide_eq_true (show (Tm.app l t).size ≤ 4000 by omega), Bool.true_and] at hQ
    show Q (bD (decide (((Tm.app l t).depth : Int) ≤ 200))) []
    have e : decide (((Tm.app l t).depth : Int) ≤ 200) = decide ((Tm.app l t).depth ≤ 200) := by
      rw [Bool.eq_iff_iff]; simp only [decide_eq_true_iff]; omega
    rw [e]; exact hQ
  · have h : ¬ ((Tm.app l t).size : Int) ≤ 4000 := h
    unfold Tm.fits at hQ
    rw [decide_eq_false (show ¬ (Tm.app l t).size ≤ 4000 by omega), Bool.false_and] at hQ
    exact hQ
end Go.Proofs.Ytehchnjnbbnkbaa
