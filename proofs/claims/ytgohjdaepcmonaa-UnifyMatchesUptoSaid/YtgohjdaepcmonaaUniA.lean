import Derived.Test.YtgohjdaepcmonaaR03A
import Derived.Test.YtgohjdaepcmonaaTermA
import Derived.Test.YtgohjdaepcmonaaInsC
set_option linter.unusedVariables false
set_option linter.unusedSimpArgs false
namespace Go.Proofs.Ytgohjdaepcmonaa
open Go.Abs
theorem mid_eq2 (lo hi : Nat) (h : lo + hi ≤ 4611686018427387904) : IntKind.i64.wrap ((IntKind.u64.wrap (IntKind.i64.wrap ((lo : Int) + (hi : Int)))).fdiv (2 ^ (min ((1 : Int)).toNat IntKind.u64.bits))) = (((lo + hi) / 2 : Nat) : Int) := by
  rw [wrap_in ((lo : Int) + (hi : Int)) (by omega) (by omega), wrap_u64 _ (by omega) (by omega)]
  have e : (2 : Int) ^ (min ((1 : Int)).toNat IntKind.u64.bits) = 2 := rfl
  rw [e, Int.fdiv_eq_ediv_of_nonneg _ (by omega), wrap_in _ (by omega) (by omega)]
  omega
theorem bytealg_CompareString_ok (a b : ByteArray) : Fn f_bytealg_CompareString [sD a, sD b] (iD (cmpN a b)) := fun Q hQ => by
  refine C_bytealg_CompareString _ _ _ ?_
  exact ⟨trivial, hQ⟩
theorem strings_Compare_ok (a b : ByteArray) : Fn f_strings_Compare [sD a, sD b] (iD (cmpN a b)) := fun Q hQ => by
  refine C_strings_Compare _ _ _ ?_
  unfold vc_strings_Compare
  exact bytealg_CompareString_ok a b _ ⟨rfl, rfl, trivial, hQ⟩
abbrev biD (x : ByteArray × Tm) : D := .agg [sD x.1, sD x.2.name, bD x.2.var, .v (.sl t_Term) (.l (Tm.encL x.2.args))]
theorem term_Image_1_ok (x : ByteArray × Tm) (b : ByteArray) : Fn f_term_Image_1 [biD x, sD b] (iD (cmpN x.1 b)) := fun Q hQ => by
  refine C_term_Image_1 _ _ _ _ _ _ ?_
  unfold vc_term_Image_1
  exact strings_Compare_ok _ b _ ⟨rfl, rfl, trivial, hQ⟩
theorem unify_bind_1_ok (x : ByteArray × Tm) (b : ByteArray) : Fn f_unify_bind_1 [biD x, sD b] (iD (cmpN x.1 b)) := fun Q hQ => by
  refine C_unify_bind_1 _ _ _ _ _ _ ?_
  unfold vc_unify_bind_1
  exact strings_Compare_ok _ b _ ⟨rfl, rfl, trivial, hQ⟩
structure Place (l : Su) (x : ByteArray) (k : Nat) : Prop where
  le : k ≤ l.length
  lo : ∀ i (h : i < l.length), i < k → cmpN (l[i]).1 x = -1
  hi : ∀ h : k < l.length, cmpN (l[k]).1 x ≠ -1
theorem Place.bound {l : Su} {x : ByteArray} {k : Nat} (h : Place l x k) (hs : SortS l) : boundS l x = true ↔ ∃ h : k < l.length, (l[k]).1 = x := by
  rw [boundS_iff]
  constructor
  · rintro ⟨y, hy, rfl⟩
    obtain ⟨j, hj, rfl⟩ := List.mem_iff_getElem.1 hy
    have hjk : j = k := by
      rcases Nat.lt_trichotomy j k with h1 | h1 | h1
      · have := h.lo j hj h1; rw [cmpN_self] at this; omega
      · exact h1
      · exact absurd (hs.lt k j (by omega) hj h1) (h.hi (by omega))
    subst hjk; exact ⟨hj, rfl⟩
  · rintro ⟨h1, h2⟩
    exact ⟨_, List.getElem_mem h1, h2⟩
theorem bs_image (l : Su) (x : ByteArray) (hs : SortS l) (hn : l.length ≤ 2305843009213693952) (Q : D → Heap → Prop)
    (hQ : ∀ k, Place l x k → Q (.tup [iD k, bD (boundS l x)]) [.row t_Bind (encS l)]) :
    cl f_slices_BinarySearchFunc_Bind_string [.osl (.own 0) l.length, sD x, .fn f_term_Image_1 []] [.row t_Bind (encS l)] Q := by
  refine C_slices_BinarySearchFunc_Bind_string_termImage1 _ _ _ _ ⟨encS_length l, fun hb => ?_⟩
  have hl := encS_length l
  refine rule_slices_BinarySearchFunc_Bind_string_termImage1_0 Q (fun x0 x1 x8 x9 x10 h0 => (x0 = l.length ∧ h0 = encS l) ∧ x1 = x ∧ x8 = (l.length : Int) ∧ ∃ lo hi : Nat, x9 = lo ∧ x10 = hi ∧ lo ≤ hi ∧ hi ≤ l.length ∧ (∀ k (h : k < l.length), k < lo → cmpN (l[k]).1 x = -1) ∧ (∀ k (h : k < l.length), hi ≤ k → cmpN (l[k]).1 x ≠ -1)) (fun _ x1 x8 x9 x10 _ => (x10 - x9).toNat) (fun x0 x1 x8 x9 x10 h0 hI m0 hK => ?_) _ _ _ _ _ _ ⟨⟨rfl, rfl⟩, rfl, rfl, 0, l.length, rfl, rfl, Nat.zero_le _, Nat.le_refl _, fun k _ h => by omega, fun k h h' => by omega⟩
  obtain ⟨⟨e0, e00⟩, e1, e8, lo, hi, e9, e10, h1, h2, h3, h4⟩ := hI
  rw [e9, e10] at hK
  rw [e0, e00, e1, e8, e9, e10]
  unfold st_slices_BinarySearchFunc_Bind_string_termImage1_0
  rw [mid_eq2 lo hi (by omega)]
  refine iff_dec (fun h => ?_) (fun h => ?_)
  · have hm : (lo + hi) / 2 < l.length := by omega
    rw [Int.toNat_natCast]
    simp only [encS_getD _ _ hm, Tm.enc_eq, List.drop_zero, List.headD_cons, List.tail_cons]
    refine ⟨by omega, hl, by omega, by omega, hl, hm, term_Image_1_ok (l[(lo + hi) / 2]) x _ ⟨rfl, rfl, iff_dec (fun h5 => ?_) (fun h5 => ?_)⟩⟩
    · have h5 : cmpN (l[(lo + hi) / 2]).1 x < 0 := h5
      rw [wrap_in _ (by omega) (by omega)]
      refine hK _ _ _ _ _ _ ⟨⟨rfl, rfl⟩, rfl, rfl, (lo + hi) / 2 + 1, hi, by omega, rfl, by omega, h2, fun k hk hlt => ?_, h4⟩ (by omega)
      have h6 : cmpN (l[(lo + hi) / 2]).1 x = -1 := by rcases cmpN_cases (l[(lo + hi) / 2]).1 x with h | h | h <;> omega
      rcases Nat.lt_succ_iff_lt_or_eq.1 hlt with h8 | h8
      · exact cmpN_trans (hs.lt k _ hk hm h8) h6
      · subst h8; exact h6
    · have h5 : ¬ cmpN (l[(lo + hi) / 2]).1 x < 0 := h5
      refine hK _ _ _ _ _ _ ⟨⟨rfl, rfl⟩, rfl, rfl, lo, (lo + hi) / 2, rfl, rfl, by omega, by omega, h3, fun k hk hle he => ?_⟩ (by omega)
      rcases Nat.lt_or_eq_of_le hle with h8 | h8
      · have := cmpN_trans (hs.lt _ k hm hk h8) he
        omega
      · subst h8; omega
  · have e : lo = hi := by omega
    subst e
    have hp : Place l x lo := ⟨h2, h3, fun h => h4 lo h (Nat.le_refl _)⟩
    have hQ := hQ lo hp
    refine iff_dec (fun h5 => ?_) (fun h5 => ⟨⟨trivial, trivial, trivial⟩, ?_⟩)
    · have hlo : lo < l.length := by omega
      rw [Int.toNat_natCast]
      simp only [encS_getD _ _ hlo, Tm.enc_eq, List.drop_zero, List.headD_cons, List.tail_cons]
      refine ⟨hl, by omega, by omega, hl, hlo, term_Image_1_ok (l[lo]) x _ ⟨rfl, rfl, ⟨trivial, trivial, trivial⟩, ?_⟩⟩
      have e : boundS l x = (cmpN (l[lo]).1 x == 0) := by
        rw [Bool.eq_iff_iff, hp.bound hs, beq_iff_eq, cmpN_zero]
        exact ⟨fun ⟨_, h⟩ => h, fun h => ⟨hlo, h⟩⟩
      rw [e] at hQ
      exact hQ
    · have e : boundS l x = false := by
        rw [← Bool.not_eq_true, hp.bound hs]
        rintro ⟨h, _⟩; omega
      rw [e] at hQ
      exact hQ
theorem bs_bind (l : Su) (x : ByteArray) (hs : SortS l) (hn : l.length ≤ 2305843009213693952) (Q : D → Heap → Prop)
    (hQ : ∀ k, Place l x k → Q (.tup [iD k, bD (boundS l x)]) [.row t_Bind (encS l)]) :
    cl f_slices_BinarySearchFunc_Bind_string [.osl (.own 0) l.length, sD x, .fn f_unify_bind_1 []] [.row t_Bind (encS l)] Q := by
  refine C_slices_BinarySearchFunc_Bind_string_unifybind1 _ _ _ _ ⟨encS_length l, fun hb => ?_⟩
  have hl := encS_length l
  refine rule_slices_BinarySearchFunc_Bind_string_unifybind1_0 Q (fun x0 x1 x8 x9 x10 h0 => (x0 = l.length ∧ h0 = encS l) ∧ x1 = x ∧ x8 = (l.length : Int) ∧ ∃ lo hi : Nat, x9 = lo ∧ x10 = hi ∧ lo ≤ hi ∧ hi ≤ l.length ∧ (∀ k (h : k < l.length), k < lo → cmpN (l[k]).1 x = -1) ∧ (∀ k (h : k < l.length), hi ≤ k → cmpN (l[k]).1 x ≠ -1)) (fun _ x1 x8 x9 x10 _ => (x10 - x9).toNat) (fun x0 x1 x8 x9 x10 h0 hI m0 hK => ?_) _ _ _ _ _ _ ⟨⟨rfl, rfl⟩, rfl, rfl, 0, l.length, rfl, rfl, Nat.zero_le _, Nat.le_refl _, fun k _ h => by omega, fun k h h' => by omega⟩
  obtain ⟨⟨e0, e00⟩, e1, e8, lo, hi, e9, e10, h1, h2, h3, h4⟩ := hI
  rw [e9, e10] at hK
  rw [e0, e00, e1, e8, e9, e10]
  unfold st_slices_BinarySearchFunc_Bind_string_unifybind1_0
  rw [mid_eq2 lo hi (by omega)]
  refine iff_dec (fun h => ?_) (fun h => ?_)
  · have hm : (lo + hi) / 2 < l.length := by omega
    rw [Int.toNat_natCast]
    simp only [encS_getD _ _ hm, Tm.enc_eq, List.drop_zero, List.headD_cons, List.tail_cons]
    refine ⟨by omega, hl, by omega, by omega, hl, hm, unify_bind_1_ok (l[(lo + hi) / 2]) x _ ⟨rfl, rfl, iff_dec (fun h5 => ?_) (fun h5 => ?_)⟩⟩
    · have h5 : cmpN (l[(lo + hi) / 2]).1 x < 0 := h5
      rw [wrap_in _ (by omega) (by omega)]
      refine hK _ _ _ _ _ _ ⟨⟨rfl, rfl⟩, rfl, rfl, (lo + hi) / 2 + 1, hi, by omega, rfl, by omega, h2, fun k hk hlt => ?_, h4⟩ (by omega)
      have h6 : cmpN (l[(lo + hi) / 2]).1 x = -1 := by rcases cmpN_cases (l[(lo + hi) / 2]).1 x with h | h | h <;> omega
      rcases Nat.lt_succ_iff_lt_or_eq.1 hlt with h8 | h8
      · exact cmpN_trans (hs.lt k _ hk hm h8) h6
      · subst h8; exact h6
    · have h5 : ¬ cmpN (l[(lo + hi) / 2]).1 x < 0 := h5
      refine hK _ _ _ _ _ _ ⟨⟨rfl, rfl⟩, rfl, rfl, lo, (lo + hi) / 2, rfl, rfl, by omega, by omega, h3, fun k hk hle he => ?_⟩ (by omega)
      rcases Nat.lt_or_eq_of_le hle with h8 | h8
      · have := cmpN_trans (hs.lt _ k hm hk h8) he
        omega
      · subst h8; omega
  · have e : lo = hi := by omega
    subst e
    have hp : Place l x lo := ⟨h2, h3, fun h => h4 lo h (Nat.le_refl _)⟩
    have hQ := hQ lo hp
    refine iff_dec (fun h5 => ?_) (fun h5 => ⟨⟨trivial, trivial, trivial⟩, ?_⟩)
    · have hlo : lo < l.length := by omega
      rw [Int.toNat_natCast]
      simp only [encS_getD _ _ hlo, Tm.enc_eq, List.drop_zero, List.headD_cons, List.tail_cons]
      refine ⟨hl, by omega, by omega, hl, hlo, unify_bind_1_ok (l[lo]) x _ ⟨rfl, rfl, ⟨trivial, trivial, trivial⟩, ?_⟩⟩
      have e : boundS l x = (cmpN (l[lo]).1 x == 0) := by
        rw [Bool.eq_iff_iff, hp.bound hs, beq_iff_eq, cmpN_zero]
        exact ⟨fun ⟨_, h⟩ => h, fun h => ⟨hlo, h⟩⟩
      rw [e] at hQ
      exact hQ
    · have e : boundS l x = false := by
        rw [← Bool.not_eq_true, hp.bound hs]
        rintro ⟨h, _⟩; omega
      rw [e] at hQ
      exact hQ
theorem unify_bind_ok (l : Su) (v : ByteArray) (t : Tm) (hs : SortS l) (hn : l.length ≤ 1099511627776) (Q : D → Heap → Prop) (hQ : Q (.osl (.own 0) (l.length + 1)) [.row t_Bind (encS (withS l v t))]) :
    cl f_unify_bind [.osl (.own 0) l.length, sD v, tD t] [.row t_Bind (encS l)] Q := by
  refine C_unify_bind _ _ _ _ _ _ _ ?_
  unfold vc_unify_bind
  refine bs_bind l v hs (by omega) _ fun k hp => ⟨rfl, rfl, ?_⟩
  refine insert_ok (encS l) [V.s v, V.s t.name, V.b t.var, V.l (Tm.encL t.args)] (V.i k) l.length k (encS_length l) hp.le rfl hn rfl ⟨rfl, rfl, trivial, ?_⟩
  have e : (encS l).take k ++ [V.s v, V.s t.name, V.b t.var, V.l (Tm.encL t.args)] :: (encS l).drop k = encS (withS l v t) := by
    rw [encS_withS v t k l hp.le hp.lo hp.hi, Tm.enc_eq]
  show Q (.osl (.own 0) (l.length + 1)) [.row 48 ((encS l).take k ++ [V.s v, V.s t.name, V.b t.var, V.l (Tm.encL t.args)] :: (encS l).drop k)]
  rw [e]; exact hQ
abbrev imD (l : Su) (x : ByteArray) : D := .tup [tD (if boundS l x then Tm.image l x else .mk bz false []), bD (boundS l x)]
theorem term_Image_ok (l : Su) (x : ByteArray) (hs : SortS l) (hn : l.length ≤ 1099511627776) (Q : D → Heap → Prop) (hQ : Q (imD l x) [.row t_Bind (encS l)]) :
    cl f_term_Image [.osl (.own 0) l.length, sD x] [.row t_Bind (encS l)] Q := by
  refine ACalls.as ?_
  refine C_term_Image _ _ _ _ ?_
  unfold vc_term_Image
  have hl := encS_length l
  refine bs_image l x hs (by omega) _ fun k hp => ⟨rfl, rfl, ?_⟩
  refine iff_not (iff_intro (fun h => ?_) (fun h => ?_))
  · have h : boundS l x = true := h
    obtain ⟨hk, hx⟩ := (hp.bound hs).1 h
    show (encS l).length = l.length ∧ 0 ≤ (k : Int) ∧ (k : Int) < (l.length : Int) ∧ (encS l).length = l.length ∧ ((k : Int)).toNat < l.length ∧ (encS l).length = l.length ∧ ((k : Int)).toNat < l.length ∧ _ ∧ _
    refine ⟨hl, by omega, by omega, hl, by omega, hl, by omega, ⟨⟨trivial, trivial, trivial, trivial⟩, trivial, trivial⟩, imD l x, ?_, hQ⟩
    have him : Tm.image l x = (l[k]).2 := by
      have := image_sort hs (List.getElem_mem hk)
      rwa [hx] at this
    unfold imD
    rw [h, if_pos rfl, him]
    have : (encS l).getD ((k : Int)).toNat [] = [V.s (l[k]).1, V.s (l[k]).2.name, V.b (l[k]).2.var, V.l (Tm.encL (l[k]).2.args)] := by
      rw [Int.toNat_natCast, encS_getD l k hk, Tm.enc_eq]
    show As (.tup [.agg [.v .str (((((encS l).getD ((k : Int)).toNat []).drop 1).headD V.none)), .v .bool (((((encS l).getD ((k : Int)).toNat []).drop 1).tail).headD V.none), .v (.sl t_Term) ((((((encS l).getD ((k : Int)).toNat []).drop 1).tail).tail).headD V.none)], .v .bool (V.b true)]) _
    rw [this]
    exact .refl _
  · have h : boundS l x = false := h
    refine ⟨⟨⟨trivial, trivial, trivial, trivial⟩, trivial, trivial⟩, imD l x, ?_, hQ⟩
    unfold imD
    rw [h, if_neg (by simp)]
    exact As.pair (.last3 _ _ _) (.refl _)
theorem slices_EqualFunc_ok (l m : List Tm) (ih : ∀ a ∈ l, ∀ b, Fn f_term_Equal [tD a, tD b] (bD (Tm.eqB a b))) : Fn f_slices_EqualFunc_Term_Term [tsD l, tsD m, .fn f_term_Equal []] (bD (decide (l.length = m.length) && decide (Tm.cmpL l m = 0))) := fun Q hQ => by
  refine C_slices_EqualFunc_Term_Term_termEqual _ _ _ fun hb hb2 => ?_
  have l1 := Tm.encL_length l
  have l2 := Tm.encL_length m
  rw [l1, l2]
  rw [l1] at hb
  refine iff_bne (fun h => ⟨trivial, ?_⟩) (fun h hb => ?_)
  · rw [decide_eq_false (show ¬ l.length = m.length by omega), Bool.false_and] at hQ; exact hQ
  · have he : l.length = m.length := by omega
    rw [decide_eq_true he, Bool.true_and] at hQ
    have key : ∀ {l m : List Tm}, l.length = m.length → (Tm.cmpL l m = 0 ↔ l = m) := fun h => Tm.cmpL_zero h fun a _ b => Tm.cmp_zero
    refine range_slices_EqualFunc_Term_Term_termEqual_0 Q _ _ _ hb (fun k => l.take k = m.take k) (fun k hk hJ K hK => ?_) (fun hJ => ?_) 0 (Nat.zero_le _) rfl
    · have hk2 : k < m.length := by omega
      simp only [Tm.encL_getD _ k hk, Tm.encL_getD _ k hk2, Tm.enc_eq, List.drop_zero, List.headD_cons, List.tail_cons]
      refine ⟨by omega, by omega, by omega, by omega, ih _ (List.getElem_mem hk) (m[k]) _ ⟨rfl, rfl, iff_not (iff_intro (fun h2 => hK ?_) (fun h2 => ⟨trivial, ?_⟩))⟩⟩
      · have h2 : Tm.eqB l[k] m[k] = true := h2
        rw [Tm.eqB_iff] at h2
        rw [List.take_succ_eq_append_getElem hk, List.take_succ_eq_append_getElem hk2, hJ, h2]
      · have h2 : Tm.eqB l[k] m[k] = false := h2
        rw [Tm.eqB_false] at h2
        rw [decide_eq_false fun h3 => h2 (by rw [key he] at h3; subst h3; rfl)] at hQ
        exact hQ
    · rw [List.take_length, he, List.take_length] at hJ
      rw [decide_eq_true ((key he).2 hJ)] at hQ
      exact ⟨trivial, hQ⟩
theorem term_Equal_ok : ∀ (a b : Tm), Fn f_term_Equal [tD a, tD b] (bD (Tm.eqB a b)) := Tm.ind fun a ih b Q hQ => by
  refine C_term_Equal _ _ _ _ _ _ _ ?_
  unfold vc_term_Equal
  have bad : a ≠ b → Q (bD false) [] := fun h => by rw [Tm.eqB_false.2 h] at hQ; exact hQ
  rw [ba_beq]
  refine iff_dec (fun h1 => iff_beq (fun h2 => slices_EqualFunc_ok a.args b.args ih _ ⟨rfl, rfl, trivial, ?_⟩) (fun h2 => ⟨trivial, bad fun e => h2 (by rw [e])⟩)) (fun h1 => ⟨trivial, bad fun e => h1 (by rw [e])⟩)
  have e : Tm.eqB a b = (decide (a.args.length = b.args.length) && decide (Tm.cmpL a.args b.args = 0)) := by
    rw [Bool.eq_iff_iff, Tm.eqB_iff, Bool.and_eq_true, decide_eq_true_iff, decide_eq_true_iff]
    constructor
    · rintro rfl; exact ⟨rfl, (Tm.cmpL_zero rfl fun a _ b => Tm.cmp_zero).2 rfl⟩
    · rintro ⟨h3, h4⟩; exact Tm.ext h1 h2 ((Tm.cmpL_zero h3 fun a _ b => Tm.cmp_zero).1 h4)
  rw [e] at hQ
  exact hQ
theorem term_Own_ok : ∀ t : Tm, t.size ≤ lim → Fn f_term_Own [tD t] (tD t) := Tm.ind fun t ih hB Q hQ => by
  refine C_term_Own _ _ _ _ fun hb => ?_
  have hl := Tm.encL_length t.args
  rw [hl] at hb ⊢
  have hsz := Tm.size_eq t
  have hls := Tm.length_sizeL t.args
  refine range_term_Own_0 Q _ _ _ _ _ _ hb (fun k n y => n = k ∧ y = Tm.encL (t.args.take k)) (fun k n y hk hJ K hK => ?_) (fun n y hJ => ?_) 0 0 _ (Nat.zero_le _) ⟨rfl, rfl⟩
  · simp only [Tm.encL_getD _ k hk, Tm.enc_eq, List.drop_zero, List.headD_cons, List.tail_cons]
    obtain ⟨rfl, rfl⟩ := hJ
    have hm := Tm.size_mem (List.getElem_mem hk)
    refine ⟨by omega, by omega, tD (t.args[n]), (ih _ (List.getElem_mem hk) (by omega)).here rfl, ?_, ?_, hK _ _ ⟨rfl, ?_⟩⟩
    · rw [Tm.encL_length, List.length_take]; omega
    · show n + 1 ≤ lim; omega
    · rw [List.take_succ_eq_append_getElem hk, Tm.encL_eq, Tm.encL_eq, List.map_append]
      congr 1
      simp only [List.map_cons, List.map_nil]
      rw [Tm.enc_eq]
      rfl
  · obtain ⟨rfl, rfl⟩ := hJ
    rw [List.take_length]
    exact ⟨⟨trivial, trivial, hl.symm, trivial⟩, hQ⟩
end Go.Proofs.Ytgohjdaepcmonaa
