import Derived.Test.YtgohjdaepcmonaaR01F
set_option linter.unusedVariables false
set_option linter.unusedSimpArgs false
namespace Go.Proofs.Ytgohjdaepcmonaa
open Go.Abs
def boundS (l : Su) (x : ByteArray) : Bool := hasN (suNames l) x
theorem boundS_iff {l : Su} {x : ByteArray} : boundS l x = true ↔ ∃ y ∈ l, y.1 = x := by
  unfold boundS; rw [hasN_iff]; simp [suNames]
theorem boundS_false {l : Su} {x : ByteArray} : boundS l x = false ↔ ∀ y ∈ l, y.1 ≠ x := by
  rw [← Bool.not_eq_true, boundS_iff]
  exact ⟨fun h y hy e => h ⟨y, hy, e⟩, fun h ⟨y, hy, e⟩ => h y hy e⟩
def withS (l : Su) (v : ByteArray) (t : Tm) : Su := match l with
  | [] => [(v, t)]
  | x :: r => if cmpN x.1 v = -1 then x :: withS r v t else (v, t) :: x :: r
theorem withS_at (v : ByteArray) (t : Tm) : ∀ (k : Nat) (l : Su), k ≤ l.length → (∀ i (h : i < l.length), i < k → cmpN (l[i]).1 v = -1) → (∀ h : k < l.length, cmpN (l[k]).1 v ≠ -1) → withS l v t = l.take k ++ (v, t) :: l.drop k
  | 0, [], _, _, _ => rfl
  | 0, x :: r, _, _, h => by
    have := h (by simp)
    simp only [List.getElem_cons_zero] at this
    rw [withS, if_neg this]; rfl
  | k + 1, [], h, _, _ => by simp at h
  | k + 1, x :: r, h, hc, hn => by
    have h0 := hc 0 (by simp) (by omega)
    simp only [List.getElem_cons_zero] at h0
    rw [withS, if_pos h0, List.take_succ_cons, List.drop_succ_cons, List.cons_append, withS_at v t k r (by simpa using h) (fun i hi hk => by
      have := hc (i + 1) (by simpa using hi) (by omega); simpa using this) (fun h1 => by have := hn (by simpa using h1); simpa using this)]
theorem withS_length (l : Su) (v : ByteArray) (t : Tm) : (withS l v t).length = l.length + 1 := by
  induction l with
  | nil => rfl
  | cons x r ih => unfold withS; split <;> simp_all
theorem withS_mem {l : Su} {v : ByteArray} {t : Tm} {y : ByteArray × Tm} : y ∈ withS l v t ↔ y = (v, t) ∨ y ∈ l := by
  induction l with
  | nil => simp [withS]
  | cons x r ih =>
    unfold withS
    split
    · rw [List.mem_cons, ih, List.mem_cons]
      constructor
      · rintro (h | h | h)
        · exact .inr (.inl h)
        · exact .inl h
        · exact .inr (.inr h)
      · rintro (h | h | h)
        · exact .inr (.inl h)
        · exact .inl h
        · exact .inr (.inr h)
    · simp
def SortS : Su → Prop
  | [] => True
  | x :: r => (∀ y ∈ r, cmpN x.1 y.1 = -1) ∧ SortS r
theorem SortS.lt : ∀ {l : Su}, SortS l → ∀ i j (hi : i < l.length) (hj : j < l.length), i < j → cmpN (l[i]).1 (l[j]).1 = -1
  | [], _, i, _, hi, _, _ => by simp at hi
  | x :: r, h, i, j, hi, hj, hij => by
    cases j with
    | zero => omega
    | succ j =>
      simp only [List.getElem_cons_succ]
      cases i with
      | zero => exact h.1 _ (List.getElem_mem _)
      | succ i => simp only [List.getElem_cons_succ]; exact SortS.lt h.2 i j (by simpa using hi) (by simpa using hj) (by omega)
theorem withS_sort {v : ByteArray} {t : Tm} : ∀ {l : Su}, SortS l → (∀ y ∈ l, y.1 ≠ v) → SortS (withS l v t)
  | [], _, _ => ⟨fun y hy => by simp at hy, trivial⟩
  | x :: r, h, hn => by
    unfold withS
    split
    · rename_i hx
      refine ⟨fun y hy => ?_, withS_sort h.2 fun y hy => hn y (List.mem_cons_of_mem _ hy)⟩
      rcases withS_mem.1 hy with rfl | hy
      · exact hx
      · exact h.1 y hy
    · rename_i hx
      have hvx : cmpN v x.1 = -1 := by
        rcases cmpN_cases x.1 v with g | g | g
        · exact absurd g.1 hx
        · exact absurd g.2 (hn x (by simp))
        · exact g.2
      refine ⟨fun y hy => ?_, h⟩
      rcases List.mem_cons.1 hy with rfl | hy
      · exact hvx
      · exact cmpN_trans hvx (h.1 y hy)
theorem image_sort {l : Su} (h : SortS l) {y : ByteArray × Tm} (hy : y ∈ l) : Tm.image l y.1 = y.2 := by
  induction l with
  | nil => simp at hy
  | cons x r ih =>
    rcases List.mem_cons.1 hy with rfl | hy
    · rw [Tm.image, if_pos rfl]
    · have hne : x.1 ≠ y.1 := fun e => by
        have := h.1 y hy
        rw [e, cmpN_self] at this; omega
      rw [Tm.image, if_neg hne]; exact ih h.2 hy
theorem encS_take (l : Su) (k : Nat) : encS (l.take k) = (encS l).take k := by simp [encS, List.map_take]
theorem encS_drop (l : Su) (k : Nat) : encS (l.drop k) = (encS l).drop k := by simp [encS, List.map_drop]
theorem encS_withS (v : ByteArray) (t : Tm) (k : Nat) (l : Su) (h1 : k ≤ l.length) (h2 : ∀ i (h : i < l.length), i < k → cmpN (l[i]).1 v = -1) (h3 : ∀ h : k < l.length, cmpN (l[k]).1 v ≠ -1) :
    encS (withS l v t) = (encS l).take k ++ (V.s v :: t.enc) :: (encS l).drop k := by
  rw [withS_at v t k l h1 h2 h3]; simp [encS, encB, List.map_take, List.map_drop]
theorem r03_Bound_ok (l : Su) (x : ByteArray) : Fn f_r03_Bound [suD l, sD x] (bD (boundS l x)) := fun Q hQ => by
  refine C_r03_Bound _ _ _ fun hb => ?_
  have hl := encS_length l
  rw [hl] at hb ⊢
  refine range_r03_Bound_0 Q _ _ _ hb (fun k => ∀ i (h : i < l.length), i < k → (l[i]).1 ≠ x) (fun k hk hJ K hK => ?_) (fun hJ => ?_) 0 (Nat.zero_le _) (fun i _ h => by omega)
  · simp only [encS_getD _ k hk, List.drop_zero, List.headD_cons, V.str]
    refine ⟨by omega, by omega, ?_⟩
    rw [ba_beq]
    refine iff_dec (fun h => ⟨trivial, ?_⟩) (fun h => hK fun i hi hik => ?_)
    · rw [boundS_iff.2 ⟨_, List.getElem_mem hk, h⟩] at hQ; exact hQ
    · rcases Nat.lt_succ_iff_lt_or_eq.1 hik with h8 | h8
      · exact hJ i hi h8
      · subst h8; exact h
  · rw [boundS_false.2 fun y hy => by
      obtain ⟨k, hk, rfl⟩ := List.mem_iff_getElem.1 hy
      exact hJ k hk hk] at hQ
    exact ⟨trivial, hQ⟩
theorem r03_with_ok (l : Su) (v : ByteArray) (t : Tm) (hB : l.length + 1 ≤ lim) : Fn f_r03_with [suD l, sD v, tD t] (suD (withS l v t)) := fun Q hQ => by
  refine C_r03_with _ _ _ _ _ _ ?_
  unfold vc_r03_with
  have hl := encS_length l
  have hlim : lim = 549755813888 := rfl
  refine rule_r03_with_0 Q (fun x0 x1 x7 y0 y1 y2 => x0 = encS l ∧ x1 = v ∧ (y0 = t.name ∧ y1 = t.var ∧ y2 = Tm.encL t.args) ∧ ∃ k : Nat, x7 = k ∧ k ≤ l.length ∧ ∀ i (h : i < l.length), i < k → cmpN (l[i]).1 v = -1) (fun x0 x1 x7 _ _ _ => l.length - x7.toNat) ?_ _ _ _ _ _ _ ⟨rfl, rfl, ⟨rfl, rfl, rfl⟩, 0, rfl, Nat.zero_le _, fun i _ h => by omega⟩
  intro x0 x1 x7 y0 y1 y2 hI m0 ih
  obtain ⟨e0, e1, ⟨e2, e3, e4⟩, k, e5, hk, hJ⟩ := hI
  rw [e5] at ih
  rw [e0, e1, e2, e3, e4, e5]
  unfold st_r03_with_0
  intro hb
  have t1 : ((encS l).take ((k : Nat) : Int).toNat).drop (0 : Int).toNat = encS (l.take k) := by simp [encS_take]
  have t2 : ((encS l).take (((encS l).length : Int)).toNat).drop ((k : Nat) : Int).toNat = encS (l.drop k) := by simp [encS_drop]
  have l1 : (encS (l.take k)).length = k := by rw [encS_length, List.length_take]; omega
  have l2 : (encS (l.drop k)).length = l.length - k := by rw [encS_length, List.length_drop]
  rw [t1, t2, l1, l2, hl]
  simp only [List.nil_append, List.length_nil, List.length_append, List.length_cons, l1, l2]
  have fin : ∀ _ : Unit, (∀ h : k < l.length, cmpN (l[k]).1 v ≠ -1) → Q (.v (.sl t_Bind) (V.l (encS (l.take k) ++ [[V.s v, V.s t.name, V.b t.var, V.l (Tm.encL t.args)]] ++ encS (l.drop k)))) [] := fun _ h => by
    have e := encS_withS v t k l hk hJ h
    have e2 : encS (l.take k) ++ [[V.s v, V.s t.name, V.b t.var, V.l (Tm.encL t.args)]] ++ encS (l.drop k) = encS (withS l v t) := by
      rw [e, encS_take, encS_drop, Tm.enc_eq]; simp
    rw [e2]; exact hQ
  refine iff_dec (fun h => ?_) (fun h => ?_)
  · have hk' : k < l.length := by omega
    have hx := encS_getD l k hk'
    simp only [Int.toNat_natCast, hx, List.drop_zero, List.headD_cons]
    refine ⟨by omega, by omega, r01_CompareNames_ok _ _ _ ⟨rfl, rfl, iff_dec (fun h2 => ?_) (fun h2 => ?_)⟩⟩
    · have h2 : cmpN (l[k]).1 v < 0 := h2
      have hm : cmpN (l[k]).1 v = -1 := by rcases cmpN_cases (l[k]).1 v with h | h | h <;> omega
      rw [wrap_in _ (by omega) (by omega)]
      refine ih _ _ _ _ _ _ ⟨rfl, rfl, ⟨rfl, rfl, rfl⟩, k + 1, by omega, by omega, fun i hi hik => ?_⟩ (by omega)
      rcases Nat.lt_succ_iff_lt_or_eq.1 hik with h | h
      · exact hJ i hi h
      · subst h; exact hm
    · have h2 : ¬ cmpN (l[k]).1 v < 0 := h2
      have h2' : cmpN (l[k]).1 v ≠ -1 := by omega
      exact ⟨by omega, by omega, by omega, trivial, by omega, by omega, by omega, by omega, by omega, by omega, by omega, by omega, by omega, fin () fun _ => h2'⟩
  · exact ⟨by omega, by omega, by omega, trivial, by omega, by omega, by omega, by omega, by omega, by omega, by omega, by omega, by omega, fin () fun h4 => absurd h4 (by omega)⟩
namespace Tm
mutual
def mat : Tm → Su → Tm → Su × Bool
  | mk n v xs, s, t => if v then (if boundS s n then (s, eqB (image s n) t) else (withS s n t, true)) else
      if t.var || !(decide (t.name = n)) || !(decide (t.args.length = xs.length)) then ([], false) else matL xs s t.args
def matL : List Tm → Su → List Tm → Su × Bool
  | [], s, _ => (s, true)
  | p :: r, s, ts => match ts with
    | [] => (s, true)
    | t :: ts => if (mat p s t).2 then matL r (mat p s t).1 ts else ([], false)
end
theorem mat_eq : ∀ (p : Tm) (s : Su) (t : Tm), mat p s t = if p.var then (if boundS s p.name then (s, eqB (image s p.name) t) else (withS s p.name t, true)) else
      if t.var || !(decide (t.name = p.name)) || !(decide (t.args.length = p.args.length)) then ([], false) else matL p.args s t.args
  | mk _ _ _, _, _ => rfl
theorem matL_length : ∀ (ps : List Tm), (∀ p ∈ ps, ∀ (s : Su) (t : Tm), (mat p s t).1.length ≤ s.length + p.size) → ∀ (s : Su) (ts : List Tm), (matL ps s ts).1.length ≤ s.length + sizeL ps
  | [], _, s, ts => by simp [matL, sizeL]
  | p :: r, h, s, [] => by simp [matL]
  | p :: r, h, s, t :: ts => by
    have h1 := h p (by simp) s t
    have h2 := matL_length r (fun q hq => h q (List.mem_cons_of_mem _ hq)) (mat p s t).1 ts
    simp only [matL, sizeL]
    split
    · omega
    · simp
theorem mat_length : ∀ (p : Tm) (s : Su) (t : Tm), (mat p s t).1.length ≤ s.length + p.size := ind fun p ih s t => by
  rw [mat_eq]
  have h := matL_length p.args ih s t.args
  have hz := size_eq p
  split
  · split
    · show s.length ≤ _; omega
    · show (withS s p.name t).length ≤ _
      rw [withS_length]; have := size_pos p; omega
  · split
    · simp
    · omega
def matK (ps : List Tm) (s : Su) (ts : List Tm) (k : Nat) : Su × Bool := matL (ps.take k) s ts
theorem matL_step : ∀ (k : Nat) (ps : List Tm) (s : Su) (ts : List Tm) (h1 : k < ps.length) (h2 : k < ts.length), (matK ps s ts k).2 = true → matK ps s ts (k + 1) = if (mat ps[k] (matK ps s ts k).1 ts[k]).2 then mat ps[k] (matK ps s ts k).1 ts[k] else ([], false)
  | 0, p :: r, s, t :: ts, _, _, _ => by
    simp only [matK, List.take_succ_cons, List.take_zero, matL, List.getElem_cons_zero]
    split
    · rename_i h; rw [← h]
    · rfl
  | k + 1, p :: r, s, t :: ts, h1, h2, h => by
    simp only [matK, List.take_succ_cons, matL, List.getElem_cons_succ] at h ⊢
    split
    · rename_i hm
      rw [if_pos hm] at h
      have := matL_step k r (mat p s t).1 ts (by simpa using h1) (by simpa using h2) h
      exact this
    · rename_i hm
      rw [if_neg hm] at h; cases h
theorem matK_false : ∀ (k : Nat) (ps : List Tm) (s : Su) (ts : List Tm), k ≤ ps.length → (matK ps s ts k).2 = false → matL ps s ts = ([], false)
  | 0, ps, s, ts, _, h => by simp [matK, matL] at h
  | k + 1, p :: r, s, [], hk, h => by simp [matK, matL] at h
  | k + 1, p :: r, s, t :: ts, hk, h => by
    simp only [matK, List.take_succ_cons, matL] at h ⊢
    split
    · rename_i hm
      rw [if_pos hm] at h
      exact matK_false k r _ ts (by simpa using hk) h
    · rfl
theorem matK_length (ps : List Tm) (s : Su) (ts : List Tm) (k : Nat) : (matK ps s ts k).1.length ≤ s.length + sizeL (ps.take k) := matL_length _ (fun p _ => mat_length p) s ts
end Tm
theorem r03_match_ok : ∀ (p : Tm) (s : Su) (t : Tm), s.length + p.size ≤ lim → Fn f_r03_match [suD s, tD p, tD t] (.tup [suD (Tm.mat p s t).1, bD (Tm.mat p s t).2]) := Tm.ind fun p ih s t hB => Fn.as fun Q hQ => by
  refine C_r03_match _ _ _ _ _ _ _ _ ?_
  unfold vc_r03_match
  have hlim : lim = 549755813888 := rfl
  have hsz := Tm.size_eq p
  have hp := Tm.size_pos p
  rw [Tm.mat_eq] at hQ
  have bad : (if p.var then (if boundS s p.name then (s, Tm.eqB (Tm.image s p.name) t) else (withS s p.name t, true)) else
      if t.var || !(decide (t.name = p.name)) || !(decide (t.args.length = p.args.length)) then ([], false) else Tm.matL p.args s t.args) = (([], false) : Su × Bool) → Q (.tup [.nil, .v .bool (V.b false)]) [] := fun h => by
    rw [h] at hQ
    refine hQ _ (.tup _ _ rfl fun j => ?_)
    match j with
    | 0 => exact .nil _ _ rfl
    | 1 => exact .refl _
    | j + 2 => exact .refl _
  refine iff_intro (fun h => ?_) (fun h => ?_)
  · rw [if_pos h] at hQ
    refine r03_Bound_ok s p.name _ ⟨rfl, rfl, iff_intro (fun h1 => ?_) (fun h1 => ?_)⟩
    · have h1 : boundS s p.name = true := h1
      rw [if_pos h1] at hQ
      exact ⟨tD (Tm.image s p.name), (r01_Image_ok s p.name).here rfl, r01_Equal_ok _ _ _ ⟨rfl, rfl, ⟨trivial, trivial, trivial⟩, hQ _ (.refl _)⟩⟩
    · have h1 : boundS s p.name = false := h1
      rw [if_neg (by rw [h1]; simp)] at hQ
      exact r03_with_ok s p.name t (by omega) _ ⟨rfl, rfl, ⟨trivial, trivial, trivial⟩, hQ _ (.refl _)⟩
  · rw [if_neg (by rw [h]; simp)] at hQ bad
    refine iff_intro (fun h1 => ⟨⟨trivial, trivial, trivial⟩, bad (by rw [h1]; rfl)⟩) (fun h1 => ?_)
    rw [ba_beq]
    refine iff_not (iff_dec (fun h2 hb hb2 => ?_) (fun h2 => ⟨⟨trivial, trivial, trivial⟩, bad (by rw [h1, decide_eq_false h2]; rfl)⟩))
    have l1 := Tm.encL_length t.args
    have l2 := Tm.encL_length p.args
    rw [l1, l2]
    rw [l1] at hb
    refine iff_bne (fun h3 => ⟨⟨trivial, trivial, trivial⟩, bad (by rw [h1, decide_eq_true h2, decide_eq_false (show ¬ t.args.length = p.args.length by omega)]; rfl)⟩) (fun h3 => ?_)
    have h3 : t.args.length = p.args.length := by omega
    rw [h1, decide_eq_true h2, decide_eq_true h3] at hQ bad
    simp only [Bool.not_true, Bool.or_false, Bool.false_eq_true, if_false] at hQ bad
    rw [jp_r03_match_0_s]
    intro _
    rw [l1]
    refine range_r03_match_0 Q _ _ _ _ _ _ _ hb (fun k y => y = .l (encS (Tm.matK p.args s t.args k).1) ∧ (Tm.matK p.args s t.args k).2 = true) (fun k y hk hJ K hK => ?_) (fun y hJ => ?_) 0 _ (Nat.zero_le _) ⟨rfl, rfl⟩
    · have hk2 : k < p.args.length := by omega
      obtain ⟨rfl, hJ⟩ := hJ
      simp only [Tm.encL_getD _ k hk, Tm.encL_getD _ k hk2, Tm.enc_eq, List.drop_zero, List.headD_cons, List.tail_cons]
      have hst := Tm.matL_step k p.args s t.args hk2 hk hJ
      have hlen := Tm.matK_length p.args s t.args k
      have g1 := Tm.sizeL_take _ k hk2
      have g2 := Tm.sizeL_take_le p.args (k + 1)
      refine ⟨by omega, by omega, by omega, by omega, .tup [suD _, bD _], (ih _ (List.getElem_mem hk2) (Tm.matK p.args s t.args k).1 (t.args[k]) (by omega)).here rfl, ?_⟩
      refine iff_not (iff_intro (fun h4 => hK _ ⟨?_, ?_⟩) (fun h4 => ⟨⟨trivial, trivial, trivial⟩, bad ?_⟩))
      · have h4 : (Tm.mat (p.args[k]) (Tm.matK p.args s t.args k).1 (t.args[k])).2 = true := h4
        rw [hst, if_pos h4]; rfl
      · have h4 : (Tm.mat (p.args[k]) (Tm.matK p.args s t.args k).1 (t.args[k])).2 = true := h4
        rw [hst, if_pos h4]; exact h4
      · have h4 : (Tm.mat (p.args[k]) (Tm.matK p.args s t.args k).1 (t.args[k])).2 = false := h4
        exact Tm.matK_false (k + 1) _ _ _ hk2 (by rw [hst, if_neg (by rw [h4]; simp)])
    · obtain ⟨rfl, hJ⟩ := hJ
      have e : Tm.matK p.args s t.args t.args.length = Tm.matL p.args s t.args := by rw [Tm.matK, h3, List.take_length]
      rw [e] at hJ ⊢
      rw [hJ] at hQ
      exact ⟨⟨trivial, trivial, trivial⟩, hQ _ (.refl _)⟩
theorem r03_Match_ok (p t : Tm) (hB : p.size ≤ lim) : Fn f_r03_Match [tD p, tD t] (.tup [suD (Tm.mat p [] t).1, bD (Tm.mat p [] t).2]) := fun Q hQ => by
  refine C_r03_Match _ _ _ _ _ _ _ ?_
  unfold vc_r03_Match
  exact r03_match_ok p [] t (by simpa using hB) _ ⟨rfl, rfl, ⟨trivial, trivial, trivial⟩, hQ⟩
end Go.Proofs.Ytgohjdaepcmonaa
