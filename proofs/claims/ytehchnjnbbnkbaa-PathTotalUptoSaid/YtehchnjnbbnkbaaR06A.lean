/-
  CONTRACTS of the reference's precedences and path order.
-/
import Derived.Test.YtehchnjnbbnkbaaR01D
import Derived.Test.YtehchnjnbbnkbaaLpo
set_option linter.unusedVariables false
set_option linter.unusedSimpArgs false
namespace Go.Proofs.Ytehchnjnbbnkbaa
open Go.Abs

structure Rk where
  name : ByteArray
  rank : Int
  weight : Int
abbrev Rks := List Rk
def encRk (x : Rk) : List V := [.s x.name, .i x.rank, .i x.weight]
def encRks (l : Rks) : List (List V) := l.map encRk
abbrev rkD (x : Rk) : D := .agg [sD x.name, iD x.rank, iD x.weight]
abbrev rksD (l : Rks) : D := .v (.sl t_Rank) (.l (encRks l))
theorem encRks_length (l : Rks) : (encRks l).length = l.length := by simp [encRks]
theorem encRks_getD (l : Rks) (k : Nat) (h : k < l.length) : (encRks l).getD k [] = [.s (l[k]).name, .i (l[k]).rank, .i (l[k]).weight] := by
  rw [encRks, List.getD_eq_getElem?_getD, List.getElem?_map, List.getElem?_eq_getElem h]; rfl
def rkNames (l : Rks) : List ByteArray := l.map (·.name)
theorem rkNames_getD (l : Rks) (k : Nat) (h : k < l.length) : (rkNames l).getD k bz = (l[k]).name := by
  rw [rkNames, List.getD_eq_getElem?_getD, List.getElem?_map, List.getElem?_eq_getElem h]; rfl
def listedErr (l : Rks) : Int := if l.length > 256 then 3 else if namesOk true (rkNames l) then 0 else 4
def rkBad (x : Rk) : Bool := decide (x.rank < 0 ∨ x.rank > 1000 ∨ x.weight ≠ 0)
def rkErr (l : Rks) : Int := if listedErr l ≠ 0 then listedErr l else if l.any rkBad then 2 else 0
def entry (l : Rks) (x : ByteArray) : Rk := (l.find? fun y => decide (y.name = x)).getD ⟨x, 0, 0⟩
def rankOf (l : Rks) (x : ByteArray) : Int := (entry l x).rank

theorem r06_Listed_ok (l : Rks) : Fn f_r06_Listed [rksD l] (iD (listedErr l)) := fun Q hQ => by
  refine C_r06_Listed _ _ ?_
  unfold vc_r06_Listed
  intro hb
  have hl := encRks_length l
  have hl2 : (rkNames l).length = l.length := by simp [rkNames]
  rw [hl] at hb ⊢
  rw [big_eq] at hb
  unfold listedErr at hQ
  refine iff_dec (fun h => ⟨trivial, ?_⟩) (fun h _ => ?_)
  · rw [if_pos (by omega)] at hQ; exact hQ
  rw [if_neg (by omega)] at hQ
  have bad : namesOk true (rkNames l) = false → Q (iD 4) [] := fun h => by rw [h] at hQ; exact hQ
  refine range_r06_Listed_0 Q _ _ _ (by rw [big_eq]; exact hb) (fun k => ∀ i, i < k → nameAt true (rkNames l) i = true) (fun k hk hJ K hK => ?_) (fun hJ => ⟨trivial, ?_⟩) 0 (Nat.zero_le _) (fun i hi => by omega)
  · simp only [encRks_getD _ k hk, List.drop_zero, List.headD_cons, List.tail_cons]
    have hn := rkNames_getD l k hk
    refine ⟨by omega, by omega, bD (nameOk (l[k]).name true), (r01_IsName_ok _ _).here rfl, ?_⟩
    have next : nameAt true (rkNames l) k = true → ∀ i, i < k + 1 → nameAt true (rkNames l) i = true := fun h i hi => by
      rcases Nat.lt_succ_iff_lt_or_eq.1 hi with h8 | rfl
      · exact hJ i h8
      · exact h
    refine iff_not (iff_intro (fun h => iff_dec (fun h0 => ?_) (fun h0 => hK (next ?_))) (fun h => ⟨trivial, bad (namesOk_not (k := k) (by omega) ?_)⟩))
    · have h : nameOk (l[k]).name true = true := h
      have hk1 : k - 1 < l.length := by omega
      have hp := rkNames_getD l (k - 1) hk1
      rw [wrap_in _ (by omega) (by omega)]
      have e1 : ((k : Int) - 1).toNat = k - 1 := by omega
      rw [e1]
      simp only [encRks_getD _ (k - 1) hk1, List.drop_zero, List.headD_cons, List.tail_cons]
      have hk0 : ¬ k = 0 := by omega
      refine ⟨by omega, by omega, r01_CompareNames_ok _ _ _ ⟨rfl, rfl, iff_dec (fun h2 => ⟨trivial, bad (namesOk_not (k := k) (by omega) ?_)⟩) (fun h2 => hK (next ?_))⟩⟩
      · have h2 : cmpN (l[k-1]).name (l[k]).name ≥ 0 := h2
        unfold nameAt
        rw [hn, hp, h, Bool.true_and, decide_eq_false hk0, decide_eq_false ((cmpN_lt _ _).1 h2)]; rfl
      · have h2 : ¬ cmpN (l[k-1]).name (l[k]).name ≥ 0 := h2
        unfold nameAt
        rw [hn, hp, h, Bool.true_and, decide_eq_false hk0, decide_eq_true (Classical.byContradiction fun h3 => h2 ((cmpN_lt _ _).2 h3))]; rfl
    · have h : nameOk (l[k]).name true = true := h
      unfold nameAt
      rw [hn, h, decide_eq_true (show k = 0 by omega)]; rfl
    · have h : nameOk (l[k]).name true = false := h
      unfold nameAt
      rw [hn, h]; rfl
  · rw [namesOk_all (fun k hk => hJ k (by omega)), if_pos rfl] at hQ
    exact hQ

theorem r06_Check_ok (l : Rks) : Fn f_r06_Check [rksD l] (iD (rkErr l)) := fun Q hQ => by
  refine C_r06_Check _ _ ?_
  unfold vc_r06_Check
  unfold rkErr at hQ
  have hl := encRks_length l
  refine r06_Listed_ok l _ ⟨rfl, rfl, iff_bne (fun h => ⟨trivial, ?_⟩) (fun h hb => ?_)⟩
  · have h : listedErr l ≠ 0 := h
    rw [if_pos h] at hQ; exact hQ
  · have h : listedErr l = 0 := h
    rw [if_neg (by simp [h])] at hQ
    rw [hl] at hb ⊢
    refine range_r06_Check_0 Q _ _ hb (fun k => (l.take k).any rkBad = false) (fun k hk hJ K hK => ?_) (fun hJ => ⟨trivial, ?_⟩) 0 (Nat.zero_le _) rfl
    · simp only [encRks_getD _ k hk, List.drop_zero, List.headD_cons, List.tail_cons, V.int]
      have bad : rkBad (l[k]) = true → Q (iD 2) [] := fun h => by
        have : l.any rkBad = true := List.any_eq_true.2 ⟨_, List.getElem_mem hk, h⟩
        rw [if_pos this] at hQ; exact hQ
      refine ⟨by omega, by omega, iff_dec (fun h1 => ⟨trivial, bad ?_⟩) (fun h1 => iff_dec (fun h2 => ⟨trivial, bad ?_⟩) (fun h2 => iff_bne (fun h3 => ⟨trivial, bad ?_⟩) (fun h3 => hK ?_)))⟩
      · exact decide_eq_true (.inl h1)
      · exact decide_eq_true (.inr (.inl h2))
      · exact decide_eq_true (.inr (.inr h3))
      · have : rkBad (l[k]) = false := decide_eq_false (by omega)
        rw [List.take_succ_eq_append_getElem hk, List.any_append, hJ, List.any_cons, List.any_nil, this]; rfl
    · rw [List.take_length] at hJ
      rw [hJ] at hQ
      exact hQ

theorem r06_Entry_ok (l : Rks) (x : ByteArray) : Fn f_r06_Entry [rksD l, sD x] (rkD (entry l x)) := fun Q hQ => by
  refine C_r06_Entry _ _ _ fun hb => ?_
  have hl := encRks_length l
  rw [hl] at hb ⊢
  refine range_r06_Entry_0 Q _ _ _ _ _ _ hb (fun k => ∀ y ∈ l.take k, y.name ≠ x) (fun k hk hJ K hK => ?_) (fun hJ => ?_) 0 (Nat.zero_le _) (fun i hi => by simp at hi)
  · simp only [encRks_getD _ k hk, List.drop_zero, List.headD_cons, List.tail_cons, V.str]
    refine ⟨by omega, by omega, ?_⟩
    rw [ba_beq]
    refine iff_dec (fun h => ⟨⟨trivial, trivial, trivial, trivial⟩, ?_⟩) (fun h => hK ?_)
    · have : entry l x = l[k] := by
        unfold entry
        have e : l.find? (fun y => decide (y.name = x)) = some l[k] := by
          rw [List.find?_eq_some_iff_append]
          refine ⟨decide_eq_true h, l.take k, l.drop (k + 1), ?_, fun y hy => ?_⟩
          · rw [← List.drop_eq_getElem_cons hk, List.take_append_drop]
          · simpa using hJ y hy
        rw [e]; rfl
      rw [this] at hQ
      exact hQ
    · intro y hy
      rw [List.take_succ_eq_append_getElem hk] at hy
      rcases List.mem_append.1 hy with hy | hy
      · exact hJ y hy
      · rw [List.mem_singleton.1 hy]; exact h
  · rw [List.take_length] at hJ
    have : entry l x = ⟨x, 0, 0⟩ := by
      unfold entry
      have e : l.find? (fun y => decide (y.name = x)) = none := by
        rw [List.find?_eq_none]
        intro y hy
        simpa using hJ y hy
      rw [e]; rfl
    rw [this] at hQ
    exact ⟨⟨trivial, trivial, trivial, trivial⟩, hQ⟩

theorem r06_Above_ok (l : Rks) (x y : ByteArray) : Fn f_r06_Above [rksD l, sD x, sD y] (bD (decide (rankOf l x > rankOf l y))) := fun Q hQ => by
  refine C_r06_Above _ _ _ _ ?_
  unfold vc_r06_Above
  exact r06_Entry_ok l x _ ⟨rfl, rfl, r06_Entry_ok l y _ ⟨rfl, rfl, trivial, hQ⟩⟩

open Classical in
/-- Is it greater in the path order? -/
noncomputable def gtB (r : ByteArray → Int) (s t : Tm) : Bool := decide (Gt r s t)
theorem gtB_true {r : ByteArray → Int} {s t : Tm} : gtB r s t = true ↔ Gt r s t := by unfold gtB; exact @decide_eq_true_iff _ (Classical.propDecidable _)
theorem gtB_false {r : ByteArray → Int} {s t : Tm} : gtB r s t = false ↔ ¬ Gt r s t := by rw [← gtB_true, Bool.not_eq_true]

theorem r06_Greater_ok (l : Rks) : ∀ (n : Nat) (s t : Tm), s.size + t.size ≤ n → Fn f_r06_Greater [rksD l, tD s, tD t] (bD (gtB (rankOf l) s t)) := by
  intro n
  induction n with
  | zero => intro s t h; have := Tm.size_pos s; omega
  | succ n ih =>
  intro s t hn Q hQ
  have yes : Gt (rankOf l) s t → Q (bD true) [] := fun h => by rw [gtB_true.2 h] at hQ; exact hQ
  have no : ¬ Gt (rankOf l) s t → Q (bD false) [] := fun h => by rw [gtB_false.2 h] at hQ; exact hQ
  have hu := Gt.unfold_iff (r := rankOf l) s t
  refine C_r06_Greater _ _ _ _ _ _ _ _ ?_
  unfold vc_r06_Greater
  have hls := Tm.encL_length s.args
  have hlt := Tm.encL_length t.args
  refine iff_intro (fun hv => ⟨trivial, no fun h => ?_⟩) (fun hv hb => ?_)
  · have := h.nonvar; rw [hv] at this; cases this
  rw [hls] at hb ⊢
  refine range_r06_Greater_0 Q _ _ _ _ _ _ _ _ _ hb (fun k => ∀ a ∈ s.args.take k, a ≠ t ∧ ¬ Gt (rankOf l) a t) (fun k hk hJ K hK => ?_) (fun hJ => ?_) 0 (Nat.zero_le _) (fun i hi => by simp at hi)
  · simp only [Tm.encL_getD _ k hk, Tm.enc_eq, List.drop_zero, List.headD_cons, List.tail_cons]
    have hm := List.getElem_mem hk
    have hsz := Tm.size_mem hm
    refine ⟨by omega, by omega, r01_Equal_ok (s.args[k]) t _ ⟨rfl, rfl, iff_intro (fun h => ⟨trivial, yes ?_⟩) (fun h => ih (s.args[k]) t (by omega) _ ⟨rfl, rfl, iff_intro (fun h2 => ⟨trivial, yes ?_⟩) (fun h2 => hK ?_)⟩)⟩⟩
    · have h : Tm.eqB (s.args[k]) t = true := h
      exact .arg _ _ hv (Tm.eqB_iff.1 h ▸ hm)
    · exact .sub _ _ _ hv hm (gtB_true.1 h2)
    · have h : Tm.eqB (s.args[k]) t = false := h
      intro a ha
      rw [List.take_succ_eq_append_getElem hk] at ha
      rcases List.mem_append.1 ha with ha | ha
      · exact hJ a ha
      · rw [List.mem_singleton.1 ha]; exact ⟨Tm.eqB_false.1 h, gtB_false.1 h2⟩
  · rw [List.take_length] at hJ
    have hnoarg : ¬ ∃ a ∈ s.args, a = t ∨ Gt (rankOf l) a t := by
      rintro ⟨a, ha, h | h⟩
      · exact (hJ a ha).1 h
      · exact (hJ a ha).2 h
    refine iff_intro (fun htv => ⟨trivial, no fun h => ?_⟩) (fun htv => ?_)
    · rcases hu.1 h with ⟨_, h | ⟨h, _⟩⟩
      · exact hnoarg h
      · rw [htv] at h; cases h
    -- the second part, from the join on
    have fin : ∀ (ab : V) (al : Bool), ab = .b (decide (rankOf l s.name > rankOf l t.name)) → al = decide (s.name = t.name ∧ s.args.length = t.args.length) → jp_r06_Greater_0 Q (encRks l) ab al s.name s.var (Tm.encL s.args) t.name t.var (Tm.encL t.args) := by
      rintro _ _ rfl rfl
      have mid : (rankOf l s.name > rankOf l t.name ∨ (s.name = t.name ∧ s.args.length = t.args.length)) → jp_r06_Greater_1 Q (encRks l) (.b (decide (rankOf l s.name > rankOf l t.name))) s.name s.var (Tm.encL s.args) t.name t.var (Tm.encL t.args) := by
        intro hor
        rw [jp_r06_Greater_1_s]
        intro hb2
        rw [hlt] at hb2 ⊢
        refine range_r06_Greater_1 Q _ _ _ _ _ _ _ _ _ _ hb2 (fun k => ∀ b ∈ t.args.take k, Gt (rankOf l) s b) (fun k hk hJ2 K hK => ?_) (fun hJ2 => ?_) 0 (Nat.zero_le _) (fun i hi => by simp at hi)
        · simp only [Tm.encL_getD _ k hk, Tm.enc_eq, List.drop_zero, List.headD_cons, List.tail_cons]
          have hm := List.getElem_mem hk
          have hsz := Tm.size_mem hm
          refine ⟨by omega, by omega, ih s (t.args[k]) (by omega) _ ⟨rfl, rfl, iff_not (iff_intro (fun h => hK ?_) (fun h => ⟨trivial, no fun hg => ?_⟩))⟩⟩
          · intro b hb
            rw [List.take_succ_eq_append_getElem hk] at hb
            rcases List.mem_append.1 hb with hb | hb
            · exact hJ2 b hb
            · rw [List.mem_singleton.1 hb]; exact gtB_true.1 h
          · have h := gtB_false.1 h
            exact h (hg.trans (.arg _ _ htv hm))
        · rw [List.take_length] at hJ2
          refine iff_dec (fun hab => ⟨trivial, yes (.prec _ _ hv htv hab hJ2)⟩) (fun hab hb3 => ?_)
          obtain ⟨hnm, hlen⟩ := hor.resolve_left hab
          rw [hls] at hb3 ⊢
          refine range_r06_Greater_2 Q _ _ _ _ _ _ _ _ hb3 (fun k => s.args.take k = t.args.take k) (fun k hk hJ3 K hK => ?_) (fun hJ3 => ⟨trivial, no fun hg => ?_⟩) 0 (Nat.zero_le _) rfl
          · have hk2 : k < t.args.length := by omega
            simp only [Tm.encL_getD _ k hk, Tm.encL_getD _ k hk2, Tm.enc_eq, List.drop_zero, List.headD_cons, List.tail_cons]
            have hm := List.getElem_mem hk
            have hm2 := List.getElem_mem hk2
            have hsz := Tm.size_mem hm
            have hsz2 := Tm.size_mem hm2
            have e1 := List.getElem?_eq_getElem hk
            have e2 := List.getElem?_eq_getElem hk2
            refine ⟨by omega, by omega, by omega, by omega, r01_Equal_ok (s.args[k]) (t.args[k]) _ ⟨rfl, rfl, iff_not (iff_intro (fun h => hK ?_) (fun h => ⟨by omega, by omega, by omega, by omega, ih (s.args[k]) (t.args[k]) (by omega) _ ⟨rfl, rfl, trivial, ?_⟩⟩))⟩⟩
            · have h : Tm.eqB (s.args[k]) (t.args[k]) = true := h
              rw [List.take_succ_eq_append_getElem hk, List.take_succ_eq_append_getElem hk2, hJ3, Tm.eqB_iff.1 h]
            · have h : Tm.eqB (s.args[k]) (t.args[k]) = false := h
              have hne := Tm.eqB_false.1 h
              show Q (bD (gtB (rankOf l) (s.args[k]) (t.args[k]))) []
              cases hg : gtB (rankOf l) (s.args[k]) (t.args[k]) with
              | true => exact yes (.lex _ _ _ _ k hv htv hnm hlen hJ2 hJ3 e1 e2 (gtB_true.1 hg))
              | false =>
                refine no fun hgt => ?_
                rcases hu.1 hgt with ⟨_, h5 | ⟨_, _, h6 | ⟨_, _, i, a, b, h7, h8, h9, h10⟩⟩⟩
                · exact hnoarg h5
                · exact hab h6
                · rcases Nat.lt_trichotomy i k with hik | rfl | hik
                  · have := congrArg (·[i]?) hJ3
                    simp only [List.getElem?_take, if_pos hik] at this
                    rw [h8, h9] at this
                    obtain rfl := Option.some.inj this
                    exact Gt.irrefl _ h10
                  · rw [e1] at h8
                    rw [e2] at h9
                    obtain rfl := Option.some.inj h8
                    obtain rfl := Option.some.inj h9
                    exact gtB_false.1 hg h10
                  · have := congrArg (·[k]?) h7
                    simp only [List.getElem?_take, if_pos hik] at this
                    rw [e1, e2] at this
                    exact hne (Option.some.inj this)
          · rw [List.take_length, hlen, List.take_length] at hJ3
            exact Gt.irrefl _ ((Tm.ext hnm (by rw [hv, htv]) hJ3 : s = t) ▸ hg)
      rw [jp_r06_Greater_0_s]
      unfold je_r06_Greater_0
      refine iff_not (iff_dec (fun hab => mid (.inl hab)) (fun hab => iff_not (iff_dec (fun hal => mid (.inr hal)) (fun hal => ⟨trivial, no fun hgt => ?_⟩))))
      rcases hu.1 hgt with ⟨_, h5 | ⟨_, _, h6 | ⟨h7, h8, _⟩⟩⟩
      · exact hnoarg h5
      · exact hab h6
      · exact hal ⟨h7, h8⟩
    refine r06_Above_ok l s.name t.name _ ⟨rfl, rfl, ?_⟩
    rw [ba_beq]
    refine iff_dec (fun h _ hb2 => fin _ _ rfl ?_) (fun h => fin _ _ rfl ?_)
    · rw [hls, hlt]
      rw [Bool.eq_iff_iff, decide_eq_true_iff, beq_iff_eq]
      constructor
      · intro h2; exact ⟨h, by omega⟩
      · intro h2; omega
    · rw [decide_eq_false (fun h2 => h h2.1)]
end Go.Proofs.Ytehchnjnbbnkbaa
