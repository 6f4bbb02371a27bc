/-
  CONTRACTS of the program's comparer: compare and greater.
-/
import Derived.Test.YtehchnjnbbnkbaaNodeC
set_option linter.unusedVariables false
set_option linter.unusedSimpArgs false
namespace Go.Proofs.Ytehchnjnbbnkbaa
open Go.Abs

theorem compare_ok {l : Rks} {A B : List Nd} (hs : Sorted l) (hn : l.length ≤ 256) (hA : Good A) (hB : Good B) (hAB : A.length * B.length ≤ 1000000000)
    (hvA : ∀ x ∈ A, x.tm.var = true → x.tm.args = []) {i k : Nat} (ih : ∀ i' k', i' + k' < i + k → GrtC l A B i' k') {x y : Nd} (hx : A[i]? = some x) (hy : B[k]? = some y)
    (kn sm : List Int) (hkn : Memo (gtR l) A B kn) (hsm : Memo Tm.eqB A B sm) (Q : D → Heap → Prop)
    (hQ : ∀ kn' sm', Memo (gtR l) A B kn' → Memo Tm.eqB A B sm' → Q (bD (gtR l x.tm y.tm)) (hp l A B kn' sm')) :
    cl f_path_comparer_compare [.ptr (.own 0) 0, iD i, iD k] (hp l A B kn sm) Q := by
  have hi := (List.getElem?_eq_some_iff.1 hx).1
  have hk := (List.getElem?_eq_some_iff.1 hy).1
  have yes : Gt (rankOf l) x.tm y.tm → ∀ kn' sm', Memo (gtR l) A B kn' → Memo Tm.eqB A B sm' → Q (bD true) (hp l A B kn' sm') := fun h kn' sm' h1 h2 => by
    have := hQ kn' sm' h1 h2
    rw [show gtR l x.tm y.tm = true from gtB_true.2 h] at this
    exact this
  have no : ¬ Gt (rankOf l) x.tm y.tm → ∀ kn' sm', Memo (gtR l) A B kn' → Memo Tm.eqB A B sm' → Q (bD false) (hp l A B kn' sm') := fun h kn' sm' h1 h2 => by
    have := hQ kn' sm' h1 h2
    rw [show gtR l x.tm y.tm = false from gtB_false.2 h] at this
    exact this
  have hu := Gt.unfold_iff (r := rankOf l) x.tm y.tm
  obtain ⟨hxl, hxf⟩ := hA i x hx
  obtain ⟨hyl, hyf⟩ := hB k y hy
  have hxe := encP_length x.ix
  have hye := encP_length y.ix
  refine C_path_comparer_compare _ _ _ _ _ _ _ _ _ _ _ ?_
  unfold vc_path_comparer_compare
  simp only [Int.toNat_natCast, encN_getD A i x hx, encN_getD B k y hy, List.drop_zero, List.headD_cons, List.tail_cons, V.bool]
  refine ⟨by omega, by rw [encN_length]; omega, encN_length B, by omega, by omega, encN_length B, by omega, ?_⟩
  refine contains_1_ok (vs := x.tm.args.map fun a => Tm.eqB a y.tm || gtR l a y.tm) (by rw [List.length_map]; exact hxl) (fun j h h' => ?_) kn sm hkn hsm _ fun kn1 sm1 hkn1 hsm1 => ⟨rfl, rfl, ?_⟩
  · rw [List.length_map] at h'
    obtain ⟨m, a1, a2, x', a3, a4⟩ := hxf j _ (List.getElem?_eq_getElem h')
    rw [List.getElem?_eq_getElem h] at a1
    rw [Option.some.inj a1, List.getElem_map, ← a4]
    exact compare_1_ok hA hB hAB a3 hy (ih m k (by omega))
  rw [List.any_map]
  refine iff_intro (fun h => ⟨trivial, yes ?_ _ _ hkn1 hsm1⟩) (fun h => ?_)
  · have h : (x.tm.args.any (id ∘ fun a => Tm.eqB a y.tm || gtR l a y.tm)) = true := h
    obtain ⟨a, ha, hp⟩ := List.any_eq_true.1 h
    have hv : x.tm.var = false := by
      cases hv : x.tm.var with
      | false => rfl
      | true => rw [hvA x (List.mem_of_getElem? hx) hv] at ha; cases ha
    have hp : (Tm.eqB a y.tm || gtR l a y.tm) = true := hp
    rw [Bool.or_eq_true] at hp
    rcases hp with hp | hp
    · rw [Tm.eqB_iff] at hp
      exact .arg _ _ hv (hp ▸ ha)
    · exact .sub _ _ a hv ha (gtB_true.1 hp)
  have h : (x.tm.args.any (id ∘ fun a => Tm.eqB a y.tm || gtR l a y.tm)) = false := h
  have hnoarg : ¬ ∃ a ∈ x.tm.args, a = y.tm ∨ Gt (rankOf l) a y.tm := by
    rintro ⟨a, ha, hc⟩
    have h2 := List.any_eq_false.1 h a ha
    apply h2
    show (Tm.eqB a y.tm || gtR l a y.tm) = true
    rw [Bool.or_eq_true]
    rcases hc with hc | hc
    · exact .inl (Tm.eqB_iff.2 hc)
    · exact .inr (gtB_true.2 hc)
  refine iff_intro (fun hv => ⟨trivial, no (fun hg => ?_) _ _ hkn1 hsm1⟩) (fun hv => ?_)
  · have := hg.nonvar
    rw [hv] at this; cases this
  refine iff_intro (fun hw => ⟨trivial, no (fun hg => ?_) _ _ hkn1 hsm1⟩) (fun hw => ?_)
  · rcases hu.1 hg with ⟨_, h | ⟨h, _⟩⟩
    · exact hnoarg h
    · rw [hw] at h; cases h
  -- from here on both are applied symbols
  have j2 : ∀ same : Bool, (same = true → x.tm.name = y.tm.name ∧ x.tm.args.length = y.tm.args.length) → (same = false → rankOf l y.tm.name < rankOf l x.tm.name) →
      jp_path_comparer_compare_2 Q same i (.s x.tm.name) (.b x.tm.var) (.l (Tm.encL x.tm.args)) (.l (encP x.ix)) (.s y.tm.name) (.b y.tm.var) (.l (Tm.encL y.tm.args)) (.l (encP y.ix)) (.l (encRks l)) (.l (encN A)) B.length kn1.length sm1.length (encN B) (encP kn1) (encP sm1) := by
    intro same hsame hprec
    rw [jp_path_comparer_compare_2_s]
    unfold je_path_comparer_compare_2
    refine contains_2_ok (vs := y.tm.args.map fun b => !gtR l x.tm b) (by rw [List.length_map]; exact hyl) (fun j h h' => ?_) kn1 sm1 hkn1 hsm1 _ fun kn2 sm2 hkn2 hsm2 => ⟨rfl, rfl, ?_⟩
    · rw [List.length_map] at h'
      obtain ⟨m, a1, a2, y', a3, a4⟩ := hyf j _ (List.getElem?_eq_getElem h')
      rw [List.getElem?_eq_getElem h] at a1
      rw [Option.some.inj a1, List.getElem_map, ← a4]
      exact compare_2_ok hx a3 (ih i m (by omega))
    rw [List.any_map]
    refine iff_intro (fun h => ⟨trivial, no (fun hg => ?_) _ _ hkn2 hsm2⟩) (fun h => ?_)
    · have h : (y.tm.args.any (id ∘ fun b => !gtR l x.tm b)) = true := h
      obtain ⟨b, hb, hp⟩ := List.any_eq_true.1 h
      have hp : (!gtR l x.tm b) = true := hp
      rw [Bool.not_eq_true'] at hp
      exact gtB_false.1 hp (hg.trans (.arg _ _ hw hb))
    have h : (y.tm.args.any (id ∘ fun b => !gtR l x.tm b)) = false := h
    have hall : ∀ b ∈ y.tm.args, Gt (rankOf l) x.tm b := fun b hb => by
      have := List.any_eq_false.1 h b hb
      have : ¬ (!gtR l x.tm b) = true := this
      rw [Bool.not_eq_true', Bool.not_eq_false] at this
      exact gtB_true.1 this
    refine iff_not (iff_intro (fun h2 hb => ?_) (fun h2 => ⟨trivial, yes (.prec _ _ hv hw (hprec h2) hall) _ _ hkn2 hsm2⟩))
    obtain ⟨hnm, hlen⟩ := hsame h2
    have hb : (encP x.ix).length ≤ big := hb
    show ∃ m0, lp_path_comparer_compare_0 Q m0 ((encP x.ix).length : Int) 0 _ _ _ _ _ _ _ _ _ _ _ _ _ _ _ _
    rw [hxe] at hb ⊢
    have hb' := hb
    rw [big_eq] at hb'
    refine range_path_comparer_compare_0 Q _ _ _ _ _ _ _ _ _ hb (fun j h0_0 h0_1 h0_2n h0_3n h0_4n h1 h2 h3 => ∃ kn sm, h0_0 = .l (encRks l) ∧ h0_1 = .l (encN A) ∧ h0_2n = B.length ∧ h0_3n = kn.length ∧ h0_4n = sm.length ∧ h1 = encN B ∧ h2 = encP kn ∧ h3 = encP sm ∧ Memo (gtR l) A B kn ∧ Memo Tm.eqB A B sm ∧ x.tm.args.take j = y.tm.args.take j)
      (fun j h0_0 h0_1 h0_2n h0_3n h0_4n h1 h2 h3 hj hJ K hK => ?_) (fun h0_0 h0_1 h0_2n h0_3n h0_4n h1 h2 h3 hJ => ?_) 0 _ _ _ _ _ _ _ _ (Nat.zero_le _) ⟨kn2, sm2, rfl, rfl, rfl, rfl, rfl, rfl, rfl, rfl, hkn2, hsm2, rfl⟩
    · obtain ⟨kn3, sm3, rfl, rfl, rfl, rfl, rfl, rfl, rfl, rfl, h1, h2, h3⟩ := hJ
      have hj1 : j < x.tm.args.length := by omega
      have hj2 : j < y.tm.args.length := by omega
      have e1 := List.getElem?_eq_getElem hj1
      have e2 := List.getElem?_eq_getElem hj2
      obtain ⟨m1, a1, a2, x', a3, a4⟩ := hxf j _ e1
      obtain ⟨m2, b1, b2, y', b3, b4⟩ := hyf j _ e2
      simp only [V.list]
      rw [encP_get a1, encP_get b1]
      refine ⟨by omega, by omega, by omega, by omega, equal_ok l A B kn3 hA hB hAB (m1 + 1) m1 m2 x' y' sm3 (by omega) a3 b3 h2 _ fun sm4 g1 => ⟨rfl, rfl, ?_⟩⟩
      refine iff_not (iff_intro (fun h5 => hK _ _ _ _ _ _ _ _ ⟨kn3, sm4, rfl, rfl, rfl, rfl, rfl, rfl, rfl, rfl, h1, g1, ?_⟩) (fun h5 => ⟨by omega, by omega, by omega, by omega, ih m1 m2 (by omega) x' y' kn3 sm4 a3 b3 h1 g1 _ fun kn5 sm5 k1 k2 => ⟨rfl, rfl, trivial, ?_⟩⟩))
      · have h5 : Tm.eqB x'.tm y'.tm = true := h5
        rw [Tm.eqB_iff, a4, b4] at h5
        rw [List.take_succ_eq_append_getElem hj1, List.take_succ_eq_append_getElem hj2, h3, h5]
      · have h5 : Tm.eqB x'.tm y'.tm = false := h5
        rw [Tm.eqB_false, a4, b4] at h5
        show Q (bD (gtR l x'.tm y'.tm)) (hp l A B kn5 sm5)
        rw [a4, b4]
        cases hg : gtR l (x.tm.args[j]) (y.tm.args[j]) with
        | true => exact yes (.lex _ _ _ _ j hv hw hnm hlen hall h3 e1 e2 (gtB_true.1 hg)) _ _ k1 k2
        | false =>
          refine no (fun hgt => ?_) _ _ k1 k2
          rcases hu.1 hgt with ⟨_, h6 | ⟨_, _, h6 | ⟨_, _, i', a, b, h7, h8, h9, h10⟩⟩⟩
          · exact hnoarg h6
          · rw [hnm] at h6; omega
          · rcases Nat.lt_trichotomy i' j with hik | rfl | hik
            · have := congrArg (·[i']?) h3
              simp only [List.getElem?_take, if_pos hik] at this
              rw [h8, h9] at this
              obtain rfl := Option.some.inj this
              exact Gt.irrefl _ h10
            · rw [e1] at h8
              rw [e2] at h9
              obtain rfl := Option.some.inj h8
              obtain rfl := Option.some.inj h9
              exact gtB_false.1 hg h10
            · have := congrArg (·[j]?) h7
              simp only [List.getElem?_take, if_pos hik] at this
              rw [e1, e2] at this
              exact h5 (Option.some.inj this)
    · obtain ⟨kn3, sm3, rfl, rfl, rfl, rfl, rfl, rfl, rfl, rfl, h1, h2, h3⟩ := hJ
      refine ⟨trivial, no (fun hg => ?_) _ _ h1 h2⟩
      rw [hxl, List.take_length, hlen, List.take_length] at h3
      exact Gt.irrefl _ ((Tm.ext hnm (by rw [hv, hw]) h3 : x.tm = y.tm) ▸ hg)
  have j1 : ∀ same : Bool, same = decide (x.tm.name = y.tm.name ∧ x.tm.args.length = y.tm.args.length) →
      jp_path_comparer_compare_1 Q (.s x.tm.name) (.s y.tm.name) same i (.s x.tm.name) (.b x.tm.var) (.l (Tm.encL x.tm.args)) (.l (encP x.ix)) (.s y.tm.name) (.b y.tm.var) (.l (Tm.encL y.tm.args)) (.l (encP y.ix)) (.l (encRks l)) (.l (encN A)) B.length kn1.length sm1.length (encN B) (encP kn1) (encP sm1) := by
    rintro _ rfl
    rw [jp_path_comparer_compare_1_s]
    unfold je_path_comparer_compare_1
    refine iff_not (iff_dec (fun h2 => j2 _ (fun _ => h2) (fun h3 => by rw [decide_eq_true h2] at h3; cases h3)) (fun h2 => ?_))
    refine ⟨rkD (ofR l x.tm.name), (path_Of_ok l _ hs hn).here rfl, rkD (ofR l y.tm.name), (path_Of_ok l _ hs hn).here rfl, ?_⟩
    show iff (decide ((ofR l x.tm.name).rank ≤ (ofR l y.tm.name).rank)) _ _
    rw [ofR_rank, ofR_rank]
    refine iff_dec (fun h3 => ⟨trivial, no (fun hg => ?_) _ _ hkn1 hsm1⟩) (fun h3 => j2 _ (fun h4 => absurd (of_decide_eq_true h4) h2) (fun _ => by omega))
    rcases hu.1 hg with ⟨_, h6 | ⟨_, _, h6 | ⟨h7, h8, _⟩⟩⟩
    · exact hnoarg h6
    · omega
    · exact h2 ⟨h7, h8⟩
  rw [jp_path_comparer_compare_0_s]
  unfold je_path_comparer_compare_0
  simp only [V.str, V.list]
  rw [ba_beq]
  refine iff_dec (fun h2 _ _ => j1 _ ?_) (fun h2 => j1 _ ?_)
  · rw [Bool.eq_iff_iff, decide_eq_true_iff, beq_iff_eq]
    constructor
    · intro h3; exact ⟨h2, by omega⟩
    · intro h3; omega
  · rw [decide_eq_false (fun h3 => h2 h3.1)]

theorem greater_ok {l : Rks} {A B : List Nd} (hs : Sorted l) (hn : l.length ≤ 256) (hA : Good A) (hB : Good B) (hAB : A.length * B.length ≤ 1000000000)
    (hvA : ∀ x ∈ A, x.tm.var = true → x.tm.args = []) : ∀ (N i k : Nat), i + k < N → GrtC l A B i k := by
  intro N
  induction N with
  | zero => intro i k h; omega
  | succ N ih =>
  intro i k hN x y kn sm hx hy hkn hsm Q hQ
  have hi := (List.getElem?_eq_some_iff.1 hx).1
  have hk := (List.getElem?_eq_some_iff.1 hy).1
  have hlt := cell_lt hi hk
  have hsl := hkn.1
  refine C_path_comparer_greater _ _ _ _ _ _ _ _ _ _ _ ?_
  unfold vc_path_comparer_greater
  refine ⟨encN_length B, fun hb => ?_⟩
  rw [big_eq] at hb
  rw [at_eq (by omega)]
  have fin : ∀ kn' sm', Memo (gtR l) A B kn' → Memo Tm.eqB A B sm' → (∃ v, kn'[i * B.length + k]? = some v ∧ v ≠ 0) → jp_path_comparer_greater_0 Q ((i * B.length + k : Nat) : Int) (.l (encRks l)) (.l (encN A)) B.length kn'.length sm'.length (encN B) (encP kn') (encP sm') := fun kn' sm' hm' hm2 hv => by
    rw [jp_path_comparer_greater_0_s]
    unfold je_path_comparer_greater_0
    have hl' := hm'.1
    refine ⟨encP_length _, by omega, by omega, encP_length _, by omega, trivial, ?_⟩
    obtain ⟨v, h1, h2⟩ := hm'.2 i k x y hx hy
    obtain ⟨v', h3, h4⟩ := hv
    rw [h1] at h3
    obtain rfl := Option.some.inj h3
    rw [Int.toNat_natCast, encP_get h1]
    have hq := hQ kn' sm' hm' hm2
    have e : (v == 1) = gtR l x.tm y.tm := by
      rcases h2 with h2 | h2
      · exact absurd h2 h4
      · subst h2
        cases gtR l x.tm y.tm <;> rfl
    show Q (bD (v == 1)) _
    rw [e]
    exact hq
  obtain ⟨v0, hv0, hv0'⟩ := hkn.2 i k x y hx hy
  refine ⟨encP_length _, by omega, by omega, encP_length _, by omega, ?_⟩
  rw [Int.toNat_natCast, encP_get hv0]
  refine iff_beq (fun h0 => ?_) (fun h0 => fin kn sm hkn hsm ⟨v0, hv0, h0⟩)
  refine compare_ok hs hn hA hB hAB hvA (fun i' k' h => ih i' k' (by omega)) hx hy kn sm hkn hsm _ fun kn1 sm1 h1 h2 => ⟨rfl, rfl, ?_⟩
  have hl1 := h1.1
  have hj : i * B.length + k < kn1.length := by omega
  show (encP kn1).length = kn1.length ∧ 0 ≤ ((i * B.length + k : Nat) : Int) ∧ ((i * B.length + k : Nat) : Int) < (kn1.length : Int) ∧ (encP kn1).length = kn1.length ∧ i * B.length + k < kn1.length ∧
    iff (gtR l x.tm y.tm) (((encP kn1).set (i * B.length + k) (setV ((encP kn1).getD (i * B.length + k) []) 0 [V.i 2])).length = kn1.length ∧ 0 ≤ ((i * B.length + k : Nat) : Int) ∧ ((i * B.length + k : Nat) : Int) < (kn1.length : Int) ∧ ((encP kn1).set (i * B.length + k) (setV ((encP kn1).getD (i * B.length + k) []) 0 [V.i 2])).length = kn1.length ∧ i * B.length + k < kn1.length ∧
      jp_path_comparer_greater_0 Q ((i * B.length + k : Nat) : Int) (.l (encRks l)) (.l (encN A)) B.length kn1.length sm1.length (encN B) (((encP kn1).set (i * B.length + k) (setV ((encP kn1).getD (i * B.length + k) []) 0 [V.i 2])).set (i * B.length + k) (setV (((encP kn1).set (i * B.length + k) (setV ((encP kn1).getD (i * B.length + k) []) 0 [V.i 2])).getD (i * B.length + k) []) 0 [V.i 1])) (encP sm1))
    (jp_path_comparer_greater_0 Q ((i * B.length + k : Nat) : Int) (.l (encRks l)) (.l (encN A)) B.length kn1.length sm1.length (encN B) ((encP kn1).set (i * B.length + k) (setV ((encP kn1).getD (i * B.length + k) []) 0 [V.i 2])) (encP sm1))
  rw [encP_set _ _ _ hj]
  have hj2 : i * B.length + k < (kn1.set (i * B.length + k) 2).length := by rw [List.length_set]; exact hj
  rw [encP_set _ _ _ hj2, List.set_set]
  have e2 : (encP (kn1.set (i * B.length + k) 2)).length = kn1.length := by rw [encP_length, List.length_set]
  refine ⟨encP_length _, by omega, by omega, encP_length _, hj, iff_intro (fun h => ⟨e2, by omega, by omega, e2, hj, ?_⟩) (fun h => ?_)⟩
  · have := fin (kn1.set (i * B.length + k) 1) sm1 (h1.set hx hy (by rw [h]; rfl)) h2 ⟨1, by rw [List.getElem?_set_self hj], by omega⟩
    rw [List.length_set] at this
    exact this
  · have := fin (kn1.set (i * B.length + k) 2) sm1 (h1.set hx hy (by rw [h]; rfl)) h2 ⟨2, by rw [List.getElem?_set_self hj], by omega⟩
    rw [List.length_set] at this
    exact this
end Go.Proofs.Ytehchnjnbbnkbaa
