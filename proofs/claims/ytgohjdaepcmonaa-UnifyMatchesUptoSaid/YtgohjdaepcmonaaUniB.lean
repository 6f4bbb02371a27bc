import Derived.Test.YtgohjdaepcmonaaUniA
set_option linter.unusedVariables false
set_option linter.unusedSimpArgs false
namespace Go.Proofs.Ytgohjdaepcmonaa
open Go.Abs
namespace Tm
theorem mat_sort : ∀ (p : Tm) (s : Su) (t : Tm), SortS s → SortS (mat p s t).1 := ind fun p ih s t hs => by
  rw [mat_eq]
  have hL : ∀ (ps : List Tm), (∀ q ∈ ps, ∀ (s : Su) (t : Tm), SortS s → SortS (mat q s t).1) → ∀ (s : Su) (ts : List Tm), SortS s → SortS (matL ps s ts).1 := fun ps => by
    induction ps with
    | nil => intro _ s ts hs; exact hs
    | cons q r ihr =>
      intro h s ts hs
      cases ts with
      | nil => exact hs
      | cons t ts =>
        simp only [matL]
        split
        · exact ihr (fun q hq => h q (List.mem_cons_of_mem _ hq)) _ ts (h q (by simp) s t hs)
        · trivial
  split
  · split
    · exact hs
    · rename_i h; exact withS_sort hs (boundS_false.1 (by simpa using h))
  · split
    · trivial
    · exact hL _ ih s t.args hs
theorem matK_sort (ps : List Tm) (s : Su) (ts : List Tm) (k : Nat) (hs : SortS s) : SortS (matK ps s ts k).1 := by
  have := mat_sort (mk bz false (ps.take k)) s (mk bz false (ts.take (ps.take k).length)) 
  unfold matK
  have hL : ∀ (ps : List Tm) (s : Su) (ts : List Tm), SortS s → SortS (matL ps s ts).1 := fun ps => by
    induction ps with
    | nil => intro s ts hs; exact hs
    | cons q r ihr =>
      intro s ts hs
      cases ts with
      | nil => exact hs
      | cons t ts =>
        simp only [matL]
        split
        · exact ihr _ ts (mat_sort q s t hs)
        · trivial
  exact hL _ s ts hs
end Tm
abbrev mtH (s : Su) : Heap := [.cells [.osl (.own 1) s.length], .row t_Bind (encS s)]
theorem unify_matcher_match_ok : ∀ (p : Tm) (s : Su) (t : Tm), SortS s → s.length + p.size ≤ 1099511627776 → ∀ Q : D → Heap → Prop,
    ((Tm.mat p s t).2 = true → Q (bD true) (mtH (Tm.mat p s t).1)) → ((Tm.mat p s t).2 = false → ∀ s', Q (bD false) (mtH s')) →
    cl f_unify_matcher_match [.ptr (.own 0) 0, tD p, tD t] (mtH s) Q := Tm.ind fun p ih s t hs hB Q hQ1 hQ2 => by
  refine C_unify_matcher_match _ _ _ _ _ _ _ _ _ ?_
  unfold vc_unify_matcher_match
  have hsz := Tm.size_eq p
  have hp := Tm.size_pos p
  rw [Tm.mat_eq] at hQ1 hQ2
  refine iff_intro (fun h => ?_) (fun h => ?_)
  · rw [if_pos h] at hQ1 hQ2
    refine ⟨imD s p.name, term_Image_ok s p.name hs (by omega) _ ⟨rfl, rfl⟩, iff_intro (fun h1 => ?_) (fun h1 => ?_)⟩
    · have h1 : boundS s p.name = true := h1
      rw [if_pos h1] at hQ1 hQ2
      show cl f_term_Equal [tD (if boundS s p.name then Tm.image s p.name else .mk bz false []), tD t] [] _
      rw [if_pos h1]
      refine term_Equal_ok _ _ _ ⟨rfl, rfl, trivial, ?_⟩
      cases h2 : Tm.eqB (Tm.image s p.name) t with
      | true => exact hQ1 h2
      | false => exact hQ2 h2 s
    · have h1 : boundS s p.name = false := h1
      rw [if_neg (by rw [h1]; simp)] at hQ1 hQ2
      refine unify_bind_ok s p.name t hs (by omega) _ ⟨rfl, rfl, trivial, ?_⟩
      have := hQ1 rfl
      simp only [mtH, withS_length] at this
      exact this
  · rw [if_neg (by rw [h]; simp)] at hQ1 hQ2
    have bad : (if t.var || !(decide (t.name = p.name)) || !(decide (t.args.length = p.args.length)) then ([], false) else Tm.matL p.args s t.args) = (([], false) : Su × Bool) → ∀ s', Q (bD false) (mtH s') := fun e => hQ2 (by rw [e])
    refine iff_intro (fun h1 => ⟨trivial, bad (by rw [h1]; rfl) s⟩) (fun h1 => ?_)
    rw [ba_beq]
    refine iff_not (iff_dec (fun h2 hb hb2 => ?_) (fun h2 => ⟨trivial, bad (by rw [h1, decide_eq_false (fun e => h2 e.symm)]; rfl) s⟩))
    have l1 := Tm.encL_length t.args
    have l2 := Tm.encL_length p.args
    rw [l2] at hb
    rw [l1, l2]
    refine iff_bne (fun h3 => ⟨trivial, bad (by rw [h1, decide_eq_true h2.symm, decide_eq_false (show ¬ t.args.length = p.args.length by omega)]; rfl) s⟩) (fun h3 => ?_)
    have h3 : t.args.length = p.args.length := by omega
    rw [h1, decide_eq_true h2.symm, decide_eq_true h3] at hQ1 hQ2 bad
    simp only [Bool.not_true, Bool.or_false, Bool.false_eq_true, if_false] at hQ1 hQ2 bad
    rw [jp_unify_matcher_match_0_s]
    intro _
    rw [l2]
    refine range_unify_matcher_match_0 Q _ _ _ _ _ _ _ hb (fun k n y => n = (Tm.matK p.args s t.args k).1.length ∧ y = encS (Tm.matK p.args s t.args k).1 ∧ (Tm.matK p.args s t.args k).2 = true) (fun k n y hk hJ K hK => ?_) (fun n y hJ => ?_) 0 _ _ (Nat.zero_le _) ⟨rfl, rfl, rfl⟩
    · have hk2 : k < t.args.length := by omega
      obtain ⟨rfl, rfl, hJ⟩ := hJ
      simp only [Tm.encL_getD _ k hk, Tm.encL_getD _ k hk2, Tm.enc_eq, List.drop_zero, List.headD_cons, List.tail_cons]
      have hst := Tm.matL_step k p.args s t.args hk hk2 hJ
      have hlen := Tm.matK_length p.args s t.args k
      have g1 := Tm.sizeL_take _ k hk
      have g2 := Tm.sizeL_take_le p.args (k + 1)
      refine ⟨by omega, by omega, by omega, by omega, ih _ (List.getElem_mem hk) (Tm.matK p.args s t.args k).1 (t.args[k]) (Tm.matK_sort _ _ _ _ hs) (by omega) _ (fun h4 => ⟨rfl, rfl, ?_⟩) (fun h4 s' => ⟨rfl, rfl, ?_⟩)⟩
      · refine hK _ _ ⟨?_, ?_, ?_⟩
        · rw [hst, if_pos h4]; rfl
        · rw [hst, if_pos h4]; rfl
        · rw [hst, if_pos h4]; exact h4
      · exact ⟨trivial, bad (Tm.matK_false (k + 1) _ _ _ hk (by rw [hst, if_neg (by rw [h4]; simp)])) s'⟩
    · obtain ⟨rfl, rfl, hJ⟩ := hJ
      have e : Tm.matK p.args s t.args p.args.length = Tm.matL p.args s t.args := by rw [Tm.matK, List.take_length]
      rw [e] at hJ ⊢
      exact ⟨trivial, hQ1 hJ⟩
theorem unify_Find_ok (p t : Tm) (hB : p.size ≤ 1099511627776) (Q : D → Heap → Prop)
    (hQ1 : (Tm.mat p [] t).2 = true → Q (.tup [suD (Tm.mat p [] t).1, bD true]) []) (hQ2 : (Tm.mat p [] t).2 = false → ∀ s', Q (.tup [suD s', bD false]) []) :
    cl f_unify_Find [tD p, tD t] [] Q := by
  refine C_unify_Find _ _ _ _ _ _ _ ?_
  unfold vc_unify_Find
  refine unify_matcher_match_ok p [] t trivial (by simpa using hB) _ (fun h => ⟨rfl, rfl, ⟨?_, trivial, trivial⟩, hQ1 h⟩) (fun h s' => ⟨rfl, rfl, ⟨?_, trivial, trivial⟩, hQ2 h s'⟩)
  · exact (encS_length _).symm
  · exact (encS_length _).symm
def matchR (p t : Tm) : Su × Bool × Int := if Tm.checkAll [p, t] ≠ 0 then ([], false, Tm.checkAll [p, t]) else if (Tm.mat p [] t).2 then ((Tm.mat p [] t).1, true, 0) else ([], false, 0)
theorem unify_Match_ok (p t : Tm) (hB : p.size ≤ 1048576 ∧ t.size ≤ 1048576) (hS : ∀ y ∈ (Tm.mat p [] t).1, y.2.size ≤ lim) : Fn f_unify_Match [tD p, tD t] (.tup [suD (matchR p t).1, bD (matchR p t).2.1, iD (matchR p t).2.2]) := Fn.as fun Q hQ => by
  refine C_unify_Match _ _ _ _ _ _ _ ?_
  unfold vc_unify_Match
  have hlim : lim = 549755813888 := rfl
  have hsm : small = 1152921504606846976 := rfl
  have nilR : ∀ b e, (matchR p t) = (([], b, e) : Su × Bool × Int) → Q (.tup [.nil, bD b, iD e]) [] := fun b e h => by
    rw [h] at hQ
    refine hQ _ (.tup _ _ rfl fun j => ?_)
    match j with
    | 0 => exact .nil _ _ rfl
    | 1 => exact .refl _
    | 2 => exact .refl _
    | j + 3 => exact .refl _
  rw [show [[V.s p.name, V.b p.var, V.l (Tm.encL p.args)], [V.s t.name, V.b t.var, V.l (Tm.encL t.args)]] = Tm.encL [p, t] by simp [Tm.encL, Tm.enc_eq]]
  refine term_All_ok [p, t] (fun x hx => ?_) _ ⟨rfl, rfl, iff_bne (fun h => ⟨⟨trivial, trivial, trivial, trivial⟩, nilR _ _ ?_⟩) (fun h => ?_)⟩
  · simp only [List.mem_cons, List.not_mem_nil, or_false] at hx
    rcases hx with rfl | rfl <;> omega
  · have h : Tm.checkAll [p, t] ≠ 0 := h
    unfold matchR; rw [if_pos h]
  · have h : ¬ Tm.checkAll [p, t] ≠ 0 := fun h' => h' h
    refine unify_Find_ok p t (by omega) _ (fun h1 => ⟨rfl, rfl, iff_not (iff_intro (fun _ => ?_) (fun h2 => by cases h2))⟩) (fun h1 s' => ⟨rfl, rfl, iff_not (iff_intro (fun h2 => by cases h2) (fun _ => ⟨⟨trivial, trivial, trivial, trivial⟩, nilR _ _ ?_⟩))⟩)
    · have hR : matchR p t = ((Tm.mat p [] t).1, true, 0) := by unfold matchR; rw [if_neg h, if_pos h1]
      rw [hR] at hQ
      have hsl := Tm.mat_length p [] t
      have hl := encS_length (Tm.mat p [] t).1
      generalize hS' : (Tm.mat p [] t).1 = S at *
      show _ ≤ big → ∃ m0, lp_unify_Match_0 Q m0 0 (V.l (encS S)) ((encS S).length : Int) 0 []
      intro hb
      rw [hl]
      have hb' : S.length ≤ big := hl ▸ hb
      simp only [List.length_nil] at hsl
      refine range_unify_Match_0 Q _ _ hb' (fun k n y => n = k ∧ y = encS (S.take k)) (fun k n y hk hJ K hK => ?_) (fun n y hJ => ?_) 0 0 _ (Nat.zero_le _) ⟨rfl, rfl⟩
      · obtain ⟨rfl, rfl⟩ := hJ
        simp only [list_l, encS_getD _ n hk, Tm.enc_eq, List.drop_zero, List.headD_cons, List.tail_cons]
        refine ⟨by omega, by omega, tD (S[n]).2, (term_Own_ok _ (hS _ (List.getElem_mem hk))).here rfl, ?_, ?_, hK _ _ ⟨rfl, ?_⟩⟩
        · rw [encS_length, List.length_take]; omega
        · show n + 1 ≤ lim; omega
        · rw [List.take_succ_eq_append_getElem hk]
          simp only [encS, encB, List.map_append, List.map_cons, List.map_nil, Tm.enc_eq]
          rfl
      · obtain ⟨rfl, rfl⟩ := hJ
        rw [List.take_length]
        exact ⟨⟨hl.symm, trivial, trivial, trivial⟩, hQ _ (.refl _)⟩
    · unfold matchR; rw [if_neg h, if_neg (by rw [h1]; simp)]
end Go.Proofs.Ytgohjdaepcmonaa
