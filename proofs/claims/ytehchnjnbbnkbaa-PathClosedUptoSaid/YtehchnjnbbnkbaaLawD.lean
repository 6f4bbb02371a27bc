/-
  CONTRACTS: the law PathClosed.
-/
import Derived.Test.YtehchnjnbbnkbaaLawB
import Derived.Test.YtehchnjnbbnkbaaLpoB
set_option linter.unusedVariables false
set_option linter.unusedSimpArgs false
namespace Go.Proofs.Ytehchnjnbbnkbaa
open Go.Abs

namespace Tm
theorem image_mem (l : Su) (x : ByteArray) : image l x = mk x true [] ∨ ∃ y ∈ l, image l x = y.2 := by
  induction l with
  | nil => exact .inl rfl
  | cons y r ih =>
    simp only [image]
    by_cases h : y.1 = x
    · rw [if_pos h]; exact .inr ⟨y, by simp, rfl⟩
    · rw [if_neg h]
      rcases ih with h2 | ⟨z, h3, h4⟩
      · exact .inl h2
      · exact .inr ⟨z, by simp [h3], h4⟩
theorem sizeL_map_le {f : Tm → Tm} {M : Nat} : ∀ {l : List Tm}, (∀ a ∈ l, (f a).size ≤ a.size * M) → sizeL (l.map f) ≤ sizeL l * M
  | [], _ => by simp [sizeL]
  | t :: r, h => by
    have h1 := h t (by simp)
    have h2 := sizeL_map_le (l := r) fun a ha => h a (by simp [ha])
    simp only [List.map_cons, sizeL, Nat.add_mul]; omega
theorem app_size {l : Su} {M : Nat} (hM : 1 ≤ M) (h : ∀ x ∈ l, x.2.size ≤ M) : ∀ t : Tm, (app l t).size ≤ t.size * M := ind fun t ih => by
  rw [app_eq]
  have hp : M ≤ t.size * M := Nat.le_mul_of_pos_left M (size_pos t)
  split
  · rcases image_mem l t.name with h2 | ⟨y, hy, h2⟩
    · rw [h2]; simp [size, sizeL]; omega
    · rw [h2]; exact Nat.le_trans (h y hy) hp
  · have := sizeL_map_le ih
    rw [size_eq t, Nat.add_mul]
    show 1 + sizeL (t.args.map (app l)) ≤ _
    omega
theorem app_formed {l : Su} (h : ∀ x ∈ l, x.2.formed = true) : ∀ t : Tm, t.formed = true → (app l t).formed = true := ind fun t ih ht => by
  rw [app_eq]
  have ht' := ht
  rw [formed_eq] at ht'
  split
  · rename_i hv
    rw [hv, if_pos rfl, Bool.and_eq_true] at ht'
    rcases image_mem l t.name with h2 | ⟨y, hy, h2⟩
    · rw [h2, formed_eq]
      show (if true then nameOk t.name false && List.isEmpty ([] : List Tm) else _) = true
      rw [if_pos rfl, ht'.1]; rfl
    · rw [h2]; exact h y hy
  · rename_i hv
    rw [if_neg hv] at ht'
    simp only [Bool.and_eq_true] at ht'
    rw [formed_eq]
    simp only [name, var, args, Bool.false_eq_true, if_false, Bool.and_eq_true, List.length_map]
    refine ⟨⟨ht'.1.1, ht'.1.2⟩, ?_⟩
    rw [List.all_eq_true]
    intro x hx
    obtain ⟨a, ha, rfl⟩ := List.mem_map.1 hx
    exact ih a ha (List.all_eq_true.1 ht'.2 a ha)
theorem sizeL_set : ∀ {l : List Tm} {i : Nat} (h : i < l.length) (x : Tm), sizeL (l.set i x) + (l[i]).size = sizeL l + x.size
  | t :: r, 0, _, x => by simp only [List.set_cons_zero, sizeL, List.getElem_cons_zero]; omega
  | t :: r, i + 1, h, x => by
    have := sizeL_set (l := r) (i := i) (by simpa using h) x
    simp only [List.set_cons_succ, sizeL, List.getElem_cons_succ]; omega
theorem put_size (u : Tm) : ∀ (p : List Int) (t x : Tm), at_ t p = some x → (put t p u).size ≤ t.size + u.size
  | [], t, x, _ => by simp only [put]; omega
  | i :: p, t, x, h => by
    obtain ⟨hi, h2⟩ := Gt.at_cons h
    have ih := put_size u p _ _ h2
    simp only [put, Gt.getD_get hi]
    have := sizeL_set hi (put t.args[i.toNat] p u)
    rw [size_eq t]
    show 1 + sizeL (t.args.set i.toNat _) ≤ _
    omega
end Tm
theorem Tm.at_check : ∀ (p : List Int) (c x : Tm), c.formed = true → Tm.at_ c p = some x → x.formed = true ∧ x.size ≤ c.size ∧ x.depth ≤ c.depth
  | [], c, x, hf, h => by simp only [Tm.at_] at h; obtain rfl := Option.some.inj h; exact ⟨hf, Nat.le_refl _, Nat.le_refl _⟩
  | i :: p, c, x, hf, h => by
    obtain ⟨hi, h2⟩ := Gt.at_cons h
    have hm := List.getElem_mem hi
    have hf2 : (c.args[i.toNat]).formed = true := by
      rw [Tm.formed_eq] at hf
      split at hf
      · simp only [Bool.and_eq_true, List.isEmpty_iff] at hf
        rw [hf.2] at hi; simp at hi
      · simp only [Bool.and_eq_true] at hf
        exact List.all_eq_true.1 hf.2 _ hm
    obtain ⟨k1, k2, k3⟩ := Tm.at_check p _ x hf2 h2
    have h3 := Tm.size_mem hm
    have h4 := Tm.depthL_mem hm
    have h5 := Tm.depth_eq c
    exact ⟨k1, by omega, by omega⟩
theorem suErr_zero {l : Su} (h : suErr l = 0) : ∀ x ∈ l, x.2.check = 0 := by
  unfold suErr at h
  split at h
  · rw [Tm.checkAll_zero] at h
    exact fun x hx => h _ (List.mem_map_of_mem hx)
  · cases h

/-- Two terms; a substitution, a term, a position. -/
abbrev t2D (s t : Tm) : D := .agg [.v .str (.s s.name), .v .bool (.b s.var), .v (.sl t_Term) (.l (Tm.encL s.args)), .v .str (.s t.name), .v .bool (.b t.var), .v (.sl t_Term) (.l (Tm.encL t.args))]
abbrev arD (su : Su) (c : Tm) (p : List Int) : D := .agg [.v (.sl t_Bind) (.l (encS su)), .v .str (.s c.name), .v .bool (.b c.var), .v (.sl t_Term) (.l (Tm.encL c.args)), .v (.sl t_int) (.l (encP p))]
theorem l06_PathClosed_ok (l : Rks) (s t : Tm) (su : Su) (c : Tm) (p : List Int) (hs : s.size ≤ 1048576) (ht : t.size ≤ 1048576) (hsu : ∀ x ∈ su, x.2.size ≤ 1048576) (hc : c.size ≤ 1048576) :
    Fn f_l06_PathClosed [rksD l, t2D s t, arD su c p] (bD true) := fun Q hQ => by
  refine C_l06_PathClosed _ _ _ _ _ _ _ _ _ _ _ _ _ ?_
  unfold vc_l06_PathClosed
  have hsm := small_eq
  have hlm := lim_eq
  have al : cl f_l06_alive [] [] fun r1 H2 => r1 = (.v .bool (r1.V)) ∧ H2 = [] ∧ True ∧ Q (.v .bool (r1.V)) [] := l06_alive_ok _ ⟨rfl, rfl, trivial, hQ⟩
  have hcl : c.args.length ≤ lim := by have := Tm.length_sizeL c.args; have := Tm.size_eq c; omega
  -- contexts
  have j2 : ∀ x, Tm.at_ c p = some x → gr l s t = true → jp_l06_PathClosed_2 Q (encRks l) (encS su) c.name c.var (Tm.encL c.args) (encP p) s.name s.var (Tm.encL s.args) t.name t.var (Tm.encL t.args) := fun x hx hg => by
    rw [jp_l06_PathClosed_2_s]
    unfold je_l06_PathClosed_2
    have hne : Tm.at_ c p ≠ none := by rw [hx]; simp
    refine ⟨tD (Tm.put c p s), (r01_Put_ok p c s hne hcl (by omega)).here rfl, tD (Tm.put c p t), (r01_Put_ok p c t hne hcl (by omega)).here rfl, ?_⟩
    have z1 := Tm.put_size s p c x hx
    have z2 := Tm.put_size t p c x hx
    show cl f_r01_CheckAll [.v (.sl t_Term) (.l [[V.s (Tm.put c p s).name, V.b (Tm.put c p s).var, V.l (Tm.encL (Tm.put c p s).args)], [V.s (Tm.put c p t).name, V.b (Tm.put c p t).var, V.l (Tm.encL (Tm.put c p t).args)]])] [] _
    rw [enc_two]
    refine r01_CheckAll_ok [Tm.put c p s, Tm.put c p t] (fun y hy => ?_) _ ⟨rfl, rfl, iff_bne (fun _ => al) (fun h => l06_greater_ok l _ _ (by omega) (by omega) _ ⟨rfl, rfl, iff_intro (fun _ => al) (fun h2 => ?_)⟩)⟩
    · rcases List.mem_cons.1 hy with rfl | hy
      · omega
      · rw [List.mem_singleton.1 hy]; omega
    · have h : Tm.checkAll [Tm.put c p s, Tm.put c p t] = 0 := h
      have h2 : gr l (Tm.put c p s) (Tm.put c p t) = false := h2
      rw [gr_true, grErr_zero] at hg
      obtain ⟨k1, k2⟩ := check_two h
      have : gr l (Tm.put c p s) (Tm.put c p t) = true := gr_true.2 ⟨grErr_zero.2 ⟨hg.1.1, k1, k2⟩, hg.2.put p c x hx⟩
      rw [h2] at this; cases this
  have j1 : gr l s t = true → jp_l06_PathClosed_1 Q (encRks l) (encS su) c.name c.var (Tm.encL c.args) (encP p) s.name s.var (Tm.encL s.args) t.name t.var (Tm.encL t.args) := fun hg => by
    rw [jp_l06_PathClosed_1_s]
    unfold je_l06_PathClosed_1
    refine r01_At_ok c p _ ?_
    cases hat : Tm.at_ c p with
    | none => exact ⟨rfl, rfl, al⟩
    | some x => exact ⟨rfl, rfl, iff_no rfl <| r01_Check_ok c (by omega) _ ⟨rfl, rfl, iff_bne (fun _ => al) (fun _ => j2 x hat hg)⟩⟩
  have j0 : jp_l06_PathClosed_0 Q (encRks l) (encS su) c.name c.var (Tm.encL c.args) (encP p) s.name s.var (Tm.encL s.args) t.name t.var (Tm.encL t.args) := by
    rw [jp_l06_PathClosed_0_s]
    unfold je_l06_PathClosed_0
    refine l06_greater_ok l s t (by omega) (by omega) _ ⟨rfl, rfl, iff_not (iff_intro (fun hg => ?_) (fun _ => al))⟩
    have hg : gr l s t = true := hg
    have z1 := Tm.app_size (l := su) (M := 1048576) (by omega) hsu s
    have z2 := Tm.app_size (l := su) (M := 1048576) (by omega) hsu t
    refine ⟨iD (suErr su), (r01_CheckSubst_ok su (fun x hx => by have := hsu x hx; omega)).here rfl, iff_beq (fun h1 => ?_) (fun _ => j1 hg)⟩
    refine ⟨bD (Tm.fits su s), (r01_Fits_ok su s (by omega)).here rfl, iff_intro (fun h2 => ?_) (fun _ => j1 hg)⟩
    refine ⟨bD (Tm.fits su t), (r01_Fits_ok su t (by omega)).here rfl, iff_intro (fun h3 => ?_) (fun _ => j1 hg)⟩
    refine ⟨tD (Tm.app su s), (r01_Apply_ok su s (by omega)).here rfl, tD (Tm.app su t), (r01_Apply_ok su t (by omega)).here rfl, l06_greater_ok l _ _ (by omega) (by omega) _ ⟨rfl, rfl, iff_not (iff_intro (fun _ => j1 hg) (fun h4 => ?_))⟩⟩
    have h1 : suErr su = 0 := h1
    have h2 : Tm.fits su s = true := h2
    have h3 : Tm.fits su t = true := h3
    have h4 : gr l (Tm.app su s) (Tm.app su t) = false := h4
    rw [gr_true, grErr_zero] at hg
    have hfm : ∀ x ∈ su, x.2.formed = true := fun x hx => (Tm.check_zero.1 (suErr_zero h1 x hx)).1
    unfold Tm.fits at h2 h3
    simp only [Bool.and_eq_true, decide_eq_true_iff] at h2 h3
    have : gr l (Tm.app su s) (Tm.app su t) = true := gr_true.2 ⟨grErr_zero.2 ⟨hg.1.1, Tm.check_zero.2 ⟨Tm.app_formed hfm s (Tm.check_zero.1 hg.1.2.1).1, h2⟩, Tm.check_zero.2 ⟨Tm.app_formed hfm t (Tm.check_zero.1 hg.1.2.2).1, h3⟩⟩, hg.2.app⟩
    rw [h4] at this; cases this
  refine r01_At_ok c p _ ?_
  cases hat : Tm.at_ c p with
  | none => exact ⟨rfl, rfl, j0⟩
  | some x =>
    refine ⟨rfl, rfl, fun _ => iff_dec (fun h1 => r06_Check_ok l _ ⟨rfl, rfl, iff_beq (fun h2 => r01_Check_ok c (by omega) _ ⟨rfl, rfl, iff_beq (fun h3 => ?_) (fun _ => j0)⟩) (fun _ => j0)⟩) (fun _ => j0)⟩
    have h2 : rkErr l = 0 := h2
    have h3 : c.check = 0 := h3
    have hp := encP_length p
    have hpn : p ≠ [] := by rintro rfl; rw [hp] at h1; simp at h1
    have hgt := Gt.sub_at (r := rankOf l) p c x hpn (Tm.check_zero.1 h3).1 hat
    have hcz := Tm.check_zero.1 h3
    obtain ⟨y1, y2, y3⟩ := Tm.at_check p c x hcz.1 hat
    have hxc : x.check = 0 ∧ x.size ≤ c.size := ⟨Tm.check_zero.2 ⟨y1, by omega, by omega⟩, y2⟩
    refine l06_greater_ok l c x (by omega) (by omega) _ ⟨rfl, rfl, iff_not (iff_intro (fun _ => j0) (fun h4 => ?_))⟩
    have h4 : gr l c x = false := h4
    have : gr l c x = true := gr_true.2 ⟨grErr_zero.2 ⟨h2, h3, hxc.1⟩, hgt⟩
    rw [h4] at this; cases this
end Go.Proofs.Ytehchnjnbbnkbaa
