import Derived.Test.YtgohjdaepcmonaaR03F
set_option linter.unusedVariables false
set_option linter.unusedSimpArgs false
namespace Go.Proofs.Ytgohjdaepcmonaa
open Go.Abs
theorem l03_variable_ok (s : ByteArray) : Fn f_l03_variable [sD s] (tD (Tm.vr s)) := Fn.as fun Q hQ => by
  refine C_l03_variable _ _ ?_
  exact ⟨⟨trivial, trivial, trivial, trivial⟩, hQ _ (.last3 _ _ _)⟩
theorem l03_symbol_ok (s : ByteArray) (l : List Tm) : Fn f_l03_symbol [sD s, tsD l] (tD (.mk s false l)) := fun Q hQ => by
  refine C_l03_symbol _ _ _ ?_
  exact ⟨⟨trivial, trivial, trivial, trivial⟩, hQ⟩
noncomputable def isB (s : Su) (ok : Bool) (e : Int) (want : Su) (found : Bool) (bad : Int) : Bool :=
  if bad ≠ 0 ∨ found = false then !ok && decide (e = bad) && decide (s.length = 0) else ok && decide (e = 0) && sameS s want
theorem l03_is_ok (s : Su) (ok : Bool) (e : Int) (want : Su) (found : Bool) (bad : Int) : Fn f_l03_is [suD s, bD ok, iD e, suD want, bD found, iD bad] (bD (isB s ok e want found bad)) := fun Q hQ => by
  refine C_l03_is _ _ _ _ _ _ _ ?_
  unfold vc_l03_is
  unfold isB at hQ
  have one : (bad ≠ 0 ∨ found = false) → jp_l03_is_0 Q (encS s) ok e (encS want) bad true := fun h => by
    rw [if_pos h] at hQ
    rw [jp_l03_is_0_s]
    unfold je_l03_is_0
    refine iff_intro (fun _ => ?_) (fun h => by cases h)
    refine iff_not (iff_intro (fun h1 => ⟨trivial, by rw [h1] at hQ; exact hQ⟩) (fun h1 => ?_))
    rw [h1] at hQ
    refine iff_beq (fun h2 hb => ⟨trivial, ?_⟩) (fun h2 => ⟨trivial, ?_⟩)
    · rw [decide_eq_true h2] at hQ
      have e1 : (((encS s).length : Int) == 0) = decide (s.length = 0) := by
        rw [encS_length, Bool.eq_iff_iff, beq_iff_eq, decide_eq_true_iff]; omega
      rw [e1]; exact hQ
    · rw [decide_eq_false h2] at hQ; exact hQ
  have two : ¬ (bad ≠ 0 ∨ found = false) → jp_l03_is_0 Q (encS s) ok e (encS want) bad false := fun h => by
    rw [if_neg h] at hQ
    rw [jp_l03_is_0_s]
    unfold je_l03_is_0
    refine iff_intro (fun h => by cases h) fun _ => iff_intro (fun h1 => ?_) (fun h1 => ⟨trivial, by rw [h1] at hQ; exact hQ⟩)
    rw [h1] at hQ
    refine iff_beq (fun h2 => r01_SameSubst_ok s want _ ⟨rfl, rfl, trivial, ?_⟩) (fun h2 => ⟨trivial, ?_⟩)
    · rw [decide_eq_true h2] at hQ; exact hQ
    · rw [decide_eq_false h2] at hQ; exact hQ
  refine iff_bne (fun h => one (.inl h)) (fun h => ?_)
  cases hf : found with
  | true => exact two (by rw [hf]; simp [h])
  | false => exact one (.inr hf)
end Go.Proofs.Ytgohjdaepcmonaa
set_option linter.unusedVariables false
set_option linter.unusedSimpArgs false
namespace Go.Proofs.Ytgohjdaepcmonaa
open Go.Abs
namespace Ex
abbrev nx : ByteArray := ByteArray.mk #[120]
abbrev ny : ByteArray := ByteArray.mk #[121]
abbrev nz : ByteArray := ByteArray.mk #[122]
abbrev nf : ByteArray := ByteArray.mk #[102]
abbrev ng : ByteArray := ByteArray.mk #[103]
abbrev na : ByteArray := ByteArray.mk #[97]
abbrev nb : ByteArray := ByteArray.mk #[98]
abbrev gz : Tm := .mk ng false [Tm.vr nz]
abbrev gy : Tm := .mk ng false [Tm.vr ny]
abbrev ta : Tm := .mk nf false [Tm.vr nx, gy]
abbrev tb : Tm := .mk nf false [gz, Tm.vr nx]
abbrev s1 : Bd := updB (fun _ => none) nx gz
abbrev s2 : Bd := updB s1 ny (Tm.vr nz)
def th : ByteArray → Tm := fun v => if v = nx then gz else if v = ny then Tm.vr nz else Tm.vr v
def rk : ByteArray → Nat := fun v => if v = nx then 1 else if v = ny then 1 else 0
theorem xy : nx ≠ ny := by decide
theorem xz : nx ≠ nz := by decide
theorem yz : ny ≠ nz := by decide
theorem sl : Sl (fun _ => none) [ta] [tb] (some s2) := by
  refine .args _ s2 ta tb ta tb [] [] _ (.fn _ rfl) (.fn _ rfl) rfl rfl rfl rfl ?_ (.nil _)
  refine .setA _ (Tm.vr nx) gz (Tm.vr nx) gz _ _ _ (.free _ rfl rfl) (.fn _ rfl) rfl (fun h => by cases h.1) (fun h => ?_) ?_
  · cases h with
    | here _ h => simp [Tm.vs, Tm.vsL, Tm.name] at h
    | step _ u x _ h => cases h
  refine .args _ s2 gy (Tm.vr nx) gy gz [] [] _ (.fn _ rfl) (.step _ gz gz rfl (updB_self _ _ _) (.fn _ rfl)) rfl rfl rfl rfl ?_ (.nil _)
  refine .setA _ (Tm.vr ny) (Tm.vr nz) (Tm.vr ny) (Tm.vr nz) [] [] _ (.free _ rfl (updB_ne _ _ xy.symm)) (.free _ rfl (updB_ne _ _ xz.symm)) rfl (fun h => yz h.2) (fun h => ?_) (.nil _)
  cases h with
  | here _ h => exact yz ((Tm.vs_var (t := Tm.vr nz) rfl).1 h)
  | step _ u x hx h =>
    have e := (Tm.vs_var (t := Tm.vr nz) rfl).1 hx
    rw [e] at h
    have h2 : s1 nz = none := updB_ne _ _ xz.symm
    rw [show (Tm.vr nz).name = nz from rfl] at h
    rw [show updB (fun _ => none) (Tm.vr nx).name gz nz = none from h2] at h
    cases h
theorem s2_x : s2 nx = some gz := (updB_ne _ _ xy).trans (updB_self _ _ _)
theorem s2_y : s2 ny = some (Tm.vr nz) := updB_self _ _ _
theorem s2_o {v : ByteArray} (h1 : v ≠ nx) (h2 : v ≠ ny) : s2 v = none := (updB_ne _ _ h2).trans (updB_ne _ _ h1)
theorem s2_cases {v : ByteArray} {t : Tm} (h : s2 v = some t) : (v = nx ∧ t = gz) ∨ (v = ny ∧ t = Tm.vr nz) := by
  by_cases h1 : v = nx
  · subst h1; rw [s2_x] at h; cases h; exact .inl ⟨rfl, rfl⟩
  · by_cases h2 : v = ny
    · subst h2; rw [s2_y] at h; cases h; exact .inr ⟨rfl, rfl⟩
    · rw [s2_o h1 h2] at h; cases h
theorem th_x : th nx = gz := by simp [th]
theorem th_y : th ny = Tm.vr nz := by rw [th, if_neg xy.symm, if_pos rfl]
theorem th_z : th nz = Tm.vr nz := by rw [th, if_neg xz.symm, if_neg yz.symm]
theorem rk_z : rk nz = 0 := by rw [rk, if_neg xz.symm, if_neg yz.symm]
theorem tri : Tri s2 th rk where
  bnd := fun v t h => by
    rcases s2_cases h with ⟨rfl, rfl⟩ | ⟨rfl, rfl⟩
    · rw [th_x, Tm.sub_fn _ rfl]; show gz = Tm.mk ng false [Tm.sub th (Tm.vr nz)]
      rw [Tm.sub_var _ rfl]; show gz = Tm.mk ng false [th nz]; rw [th_z]
    · rw [th_y, Tm.sub_var _ rfl]; exact th_z.symm
  fre := fun v h => by
    by_cases h1 : v = nx
    · subst h1; rw [s2_x] at h; cases h
    · by_cases h2 : v = ny
      · subst h2; rw [s2_y] at h; cases h
      · rw [th, if_neg h1, if_neg h2]
  rk := fun v t h w hw => by
    rcases s2_cases h with ⟨rfl, rfl⟩ | ⟨rfl, rfl⟩
    · have e : w = nz := by simpa [Tm.vs, Tm.vsL] using hw
      rw [e, rk_z]; simp [rk]
    · have e : w = nz := by simpa [Tm.vs, Tm.vsL] using hw
      rw [e, rk_z]; rw [rk, if_neg xy.symm, if_pos rfl]; exact Nat.one_pos
abbrev out : Su := [(nx, gz), (ny, Tm.vr nz)]
theorem ok : UnOk s2 th out where
  sort := ⟨fun y hy => by rw [List.mem_singleton.1 hy]; rfl, fun y hy => (by simp at hy), trivial⟩
  mem := fun y => by
    obtain ⟨v, t⟩ := y
    constructor
    · intro h
      rcases List.mem_cons.1 h with h | h
      · cases h; exact ⟨by rw [s2_x]; simp, th_x.symm⟩
      · cases List.mem_singleton.1 h; exact ⟨by rw [s2_y]; simp, th_y.symm⟩
    · rintro ⟨h1, h2⟩
      cases hs : s2 v with
      | none => exact absurd hs h1
      | some u =>
        simp only at h2
        rcases s2_cases hs with ⟨rfl, rfl⟩ | ⟨rfl, rfl⟩
        · rw [h2, th_x]; simp
        · rw [h2, th_y]; simp
theorem fits (x : ByteArray) (h : s2 x ≠ none) : fitsT (th x) := by
  cases hs : s2 x with
  | none => exact absurd hs h
  | some u =>
    rcases s2_cases hs with ⟨rfl, rfl⟩ | ⟨rfl, rfl⟩
    · rw [th_x]; exact ⟨by decide, by decide⟩
    · rw [th_y]; exact ⟨by decide, by decide⟩
end Ex
theorem ex_rules : rules [(Ex.ta, Ex.tb)] = 0 := by rw [rules_one]; rfl
theorem ex_un : UnAll [(Ex.ta, Ex.tb)] (Ex.out, true, 0) := .inr ⟨ex_rules, .yes _ _ _ _ Ex.sl Ex.tri Ex.fits Ex.ok⟩
theorem ex_match : matchR (.mk Ex.nf false [Tm.vr Ex.nx, Tm.vr Ex.nx]) (.mk Ex.nf false [.mk Ex.na false [], .mk Ex.nb false []]) = ([], false, 0) := by
  unfold matchR
  rfl
theorem l03_alive_ok : Fn f_l03_alive [] (bD true) := fun Q hQ => by
  refine C_l03_alive _ ?_
  unfold vc_l03_alive
  refine l03_variable_ok _ _ ⟨rfl, rfl, ?_⟩
  refine l03_variable_ok _ _ ⟨rfl, rfl, ?_⟩
  refine l03_symbol_ok Ex.ng [Tm.vr Ex.ny] _ ⟨rfl, rfl, ?_⟩
  refine l03_symbol_ok Ex.nf [Tm.vr Ex.nx, Ex.gy] _ ⟨rfl, rfl, ?_⟩
  refine l03_variable_ok _ _ ⟨rfl, rfl, ?_⟩
  refine l03_symbol_ok Ex.ng [Tm.vr Ex.nz] _ ⟨rfl, rfl, ?_⟩
  refine l03_variable_ok _ _ ⟨rfl, rfl, ?_⟩
  refine l03_symbol_ok Ex.nf [Ex.gz, Tm.vr Ex.nx] _ ⟨rfl, rfl, ?_⟩
  refine unify_Unify_ok Ex.ta Ex.tb (by decide) (by decide) ex_un _ ⟨rfl, rfl, ?_⟩
  refine l03_variable_ok _ _ ⟨rfl, rfl, ?_⟩
  refine l03_symbol_ok Ex.ng [Tm.vr Ex.nz] _ ⟨rfl, rfl, ?_⟩
  refine l03_variable_ok _ _ ⟨rfl, rfl, ?_⟩
  refine l03_variable_ok _ _ ⟨rfl, rfl, ?_⟩
  refine l03_variable_ok _ _ ⟨rfl, rfl, ?_⟩
  refine l03_symbol_ok Ex.nf [Tm.vr Ex.nx, Tm.vr Ex.nx] _ ⟨rfl, rfl, ?_⟩
  refine l03_symbol_ok Ex.na [] _ ⟨rfl, rfl, ?_⟩
  refine l03_symbol_ok Ex.nb [] _ ⟨rfl, rfl, ?_⟩
  refine l03_symbol_ok Ex.nf [.mk Ex.na false [], .mk Ex.nb false []] _ ⟨rfl, rfl, ?_⟩
  refine unify_Match_ok (.mk Ex.nf false [Tm.vr Ex.nx, Tm.vr Ex.nx]) (.mk Ex.nf false [.mk Ex.na false [], .mk Ex.nb false []]) ⟨by decide, by decide⟩ ?_ _ ⟨rfl, rfl, ?_⟩
  · have e : (Tm.mat (.mk Ex.nf false [Tm.vr Ex.nx, Tm.vr Ex.nx]) [] (.mk Ex.nf false [.mk Ex.na false [], .mk Ex.nb false []])).1.all (fun y => decide (y.2.size ≤ lim)) = true := rfl
    exact fun y hy => of_decide_eq_true (List.all_eq_true.1 e y hy)
  rw [ex_match]
  refine iff_beq (fun _ => ?_) (fun h => absurd rfl h)
  refine iff_intro (fun _ => ?_) (fun h => by cases h)
  refine r01_SameSubst_ok Ex.out Ex.out _ ⟨rfl, rfl, ?_⟩
  have e1 : sameS Ex.out Ex.out = true := (by unfold sameS; simp)
  rw [e1]
  refine iff_intro (fun _ => ?_) (fun h => by cases h)
  refine iff_beq (fun _ => ⟨trivial, ?_⟩) (fun h => absurd rfl h)
  exact hQ
end Go.Proofs.Ytgohjdaepcmonaa
set_option linter.unusedVariables false
set_option linter.unusedSimpArgs false
namespace Go.Proofs.Ytgohjdaepcmonaa
open Go.Abs
namespace Tm
theorem mat_bnd (N : Nat) : ∀ (p : Tm) (s : Su) (t : Tm), (∀ y ∈ s, y.2.size ≤ N) → t.size ≤ N → ∀ y ∈ (mat p s t).1, y.2.size ≤ N := ind fun p ih s t hs ht => by
  rw [mat_eq]
  have hL : ∀ (ps : List Tm), (∀ q ∈ ps, ∀ (s : Su) (t : Tm), (∀ y ∈ s, y.2.size ≤ N) → t.size ≤ N → ∀ y ∈ (mat q s t).1, y.2.size ≤ N) → ∀ (s : Su) (ts : List Tm), (∀ y ∈ s, y.2.size ≤ N) → (∀ a ∈ ts, a.size ≤ N) → ∀ y ∈ (matL ps s ts).1, y.2.size ≤ N := fun ps => by
    induction ps with
    | nil => intro _ s ts hs _; exact hs
    | cons q r ihr =>
      intro h s ts hs hts
      cases ts with
      | nil => exact hs
      | cons t ts =>
        simp only [matL]
        split
        · exact ihr (fun q hq => h q (List.mem_cons_of_mem _ hq)) _ ts (h q (by simp) s t hs (hts t (by simp))) (fun a ha => hts a (List.mem_cons_of_mem _ ha))
        · intro y hy; simp at hy
  split
  · split
    · exact hs
    · intro y hy
      rcases withS_mem.1 hy with rfl | hy
      · exact ht
      · exact hs y hy
  · split
    · intro y hy; simp at hy
    · exact hL _ ih s t.args hs fun a ha => by have := size_mem ha; omega
end Tm
theorem enc_pair (s t : Tm) : [[V.s s.name, V.b s.var, V.l (Tm.encL s.args)], [V.s t.name, V.b t.var, V.l (Tm.encL t.args)]] = Tm.encL [s, t] := by
  simp [Tm.encL, Tm.enc_eq]
theorem l03_UnifyMatches_ok (p t : Tm) (hp : p.size ≤ 1048576) (ht : t.size ≤ 1048576) : Fn f_l03_UnifyMatches [tD p, tD t] (bD true) := fun Q hQ => by
  have hlim : lim = 549755813888 := rfl
  have hsm : small = 1152921504606846976 := rfl
  refine C_l03_UnifyMatches _ _ _ _ _ _ _ ?_
  unfold vc_l03_UnifyMatches
  refine unify_Match_ok p t ⟨hp, ht⟩ (fun y hy => by have := Tm.mat_bnd 1048576 p [] t (by simp) ht y hy; omega) _ ⟨rfl, rfl, ?_⟩
  rw [enc_pair]
  refine r01_CheckAll_ok [p, t] (fun x hx => ?_) _ ⟨rfl, rfl, ?_⟩
  · rcases List.mem_cons.1 hx with rfl | hx
    · omega
    · rw [List.mem_singleton.1 hx]; omega
  refine iff_bne (fun h => ?_) (fun h => ?_)
  · have h : Tm.checkAll [p, t] ≠ 0 := h
    have em : matchR p t = ([], false, Tm.checkAll [p, t]) := by unfold matchR; rw [if_pos h]
    rw [em]
    refine l03_is_ok [] false (Tm.checkAll [p, t]) [] false (Tm.checkAll [p, t]) _ ⟨rfl, rfl, ?_⟩
    rw [show isB [] false (Tm.checkAll [p, t]) [] false (Tm.checkAll [p, t]) = true by unfold isB; simp]
    exact iff_intro (fun _ => l03_alive_ok _ ⟨rfl, rfl, trivial, hQ⟩) (fun h => by cases h)
  · have h : Tm.checkAll [p, t] = 0 := h
    refine r03_Match_ok p t (by omega) _ ⟨rfl, rfl, ?_⟩
    refine l03_is_ok (matchR p t).1 (matchR p t).2.1 (matchR p t).2.2 (Tm.mat p [] t).1 (Tm.mat p [] t).2 0 _ ⟨rfl, rfl, ?_⟩
    have e : isB (matchR p t).1 (matchR p t).2.1 (matchR p t).2.2 (Tm.mat p [] t).1 (Tm.mat p [] t).2 0 = true := by
      unfold matchR
      rw [if_neg (by simp [h])]
      cases hm : (Tm.mat p [] t).2 with
      | true => simp [isB, sameS]
      | false => simp [isB]
    rw [e]
    exact iff_intro (fun _ => l03_alive_ok _ ⟨rfl, rfl, trivial, hQ⟩) (fun h => by cases h)
end Go.Proofs.Ytgohjdaepcmonaa
