/-
  Texts R01F, VarZ, SysA, SysB, SymA, SymB, SymC, R01E, Lpo, R06A, PathA, NodeA, NodeB, NodeC, NodeD, LawA, LawB, LawO of this proof, joined.
-/
import Derived.Test.YtehchnjnbbnkbaaGreatP11
set_option linter.unusedVariables false
set_option linter.unusedSimpArgs false
namespace Go.Proofs.YtehchnjnbbnkbaaGreat
open Go.Abs
def encN (l : List ByteArray) : List (List V) := l.map fun s => [.s s]
abbrev nsD (l : List ByteArray) : D := .v (.sl t_string) (.l (encN l))
theorem encN_length (l : List ByteArray) : (encN l).length = l.length := by simp [encN]
theorem encN_getD (l : List ByteArray) (k : Nat) (h : k < l.length) : (encN l).getD k [] = [.s l[k]] := by
  rw [encN, List.getD_eq_getElem?_getD, List.getElem?_map, List.getElem?_eq_getElem h]; rfl
theorem encN_take (l : List ByteArray) (k : Nat) : encN (l.take k) = (encN l).take k := by simp [encN, List.map_take]
theorem encN_drop (l : List ByteArray) (k : Nat) : encN (l.drop k) = (encN l).drop k := by simp [encN, List.map_drop]
def hasN (l : List ByteArray) (x : ByteArray) : Bool := l.any fun y => decide (y = x)
theorem hasN_iff {l : List ByteArray} {x : ByteArray} : hasN l x = true ↔ x ∈ l := by
  unfold hasN; rw [List.any_eq_true]
  constructor
  · rintro ⟨y, hy, h⟩
    rw [decide_eq_true_iff] at h; exact h ▸ hy
  · exact fun h => ⟨x, h, by simp⟩
theorem hasN_false {l : List ByteArray} {x : ByteArray} : hasN l x = false ↔ x ∉ l := by rw [← hasN_iff, Bool.not_eq_true]
def insN (l : List ByteArray) (s : ByteArray) : List ByteArray := match l with
  | [] => [s]
  | x :: r => if cmpN x s = -1 then x :: insN r s else if x = s then x :: r else s :: x :: r
theorem insN_at (s : ByteArray) : ∀ (k : Nat) (l : List ByteArray), k ≤ l.length → (∀ i (h : i < l.length), i < k → cmpN l[i] s = -1) → insN l s = l.take k ++ insN (l.drop k) s
  | 0, l, _, _ => by simp
  | k + 1, [], h, _ => by simp at h
  | k + 1, x :: r, h, hc => by
    have h0 := hc 0 (by simp) (by omega)
    simp only [List.getElem_cons_zero] at h0
    rw [insN, if_pos h0, List.take_succ_cons, List.drop_succ_cons, List.cons_append, insN_at s k r (by simpa using h) fun i hi hk => by
      have := hc (i + 1) (by simpa using hi) (by omega); simpa using this]
theorem insN_length (l : List ByteArray) (s : ByteArray) : (insN l s).length ≤ l.length + 1 := by
  induction l with
  | nil => simp [insN]
  | cons x r ih => unfold insN; split <;> (try split) <;> simp <;> omega
theorem r01_Insert_ok (l : List ByteArray) (s : ByteArray) (hB : l.length + 1 ≤ lim) : Fn f_r01_Insert [nsD l, sD s] (nsD (insN l s)) := fun Q hQ => by
  refine C_r01_Insert _ _ _ ?_
  unfold vc_r01_Insert
  have hl := encN_length l
  have hlim : lim = 549755813888 := rfl
  have here : ∀ k : Nat, k ≤ l.length → (∀ i (h : i < l.length), i < k → cmpN l[i] s = -1) → (∀ h : k < l.length, cmpN l[k] s ≠ -1 ∧ l[k] ≠ s) → jp_r01_Insert_0 Q (encN l) s k := fun k hk hJ hne => by
    rw [jp_r01_Insert_0_s]
    unfold je_r01_Insert_0
    have e : insN l s = l.take k ++ s :: l.drop k := by
      rw [insN_at s k l hk hJ]
      congr 1
      cases hd : l.drop k with
      | nil => rfl
      | cons x r =>
        have hk' : k < l.length := by
          rcases Nat.lt_or_ge k l.length with h | h
          · exact h
          · rw [List.drop_eq_nil_of_le h] at hd; cases hd
        have hx : x = l[k] := by
          rw [List.drop_eq_getElem_cons hk'] at hd; cases hd; rfl
        obtain ⟨g1, g2⟩ := hne hk'
        rw [insN, if_neg (hx ▸ g1), if_neg (hx ▸ g2)]
    have t1 : ((encN l).take ((k : Nat) : Int).toNat).drop (0 : Int).toNat = encN (l.take k) := by simp [encN_take]
    have t2 : ((encN l).take (((encN l).length : Int)).toNat).drop ((k : Nat) : Int).toNat = encN (l.drop k) := by simp [encN_drop]
    have l1 : (encN (l.take k)).length = k := by rw [encN_length, List.length_take]; omega
    have l2 : (encN (l.drop k)).length = l.length - k := by rw [encN_length, List.length_drop]
    rw [t1, t2, l1, l2]
    simp only [List.nil_append, List.length_nil, List.length_append, List.length_cons, l1, l2]
    refine ⟨by omega, by omega, by omega, trivial, by omega, by omega, by omega, by omega, by omega, by omega, by omega, by omega, by omega, ?_⟩
    have e2 : encN (l.take k) ++ [[V.s s]] ++ encN (l.drop k) = encN (insN l s) := by rw [e]; simp [encN]
    rw [e2]; exact hQ
  refine rule_r01_Insert_0 Q (fun x0 x1 x5 => x0 = encN l ∧ x1 = s ∧ ∃ k : Nat, x5 = k ∧ k ≤ l.length ∧ ∀ i (h : i < l.length), i < k → cmpN l[i] s = -1) (fun x0 x1 x5 => l.length - x5.toNat) ?_ _ _ _ ⟨rfl, rfl, 0, rfl, Nat.zero_le _, fun i _ h => by omega⟩
  intro x0 x1 x5 hI m0 ih
  obtain ⟨e0, e1, k, e5, hk, hJ⟩ := hI
  rw [e5] at ih
  rw [e0, e1, e5]
  unfold st_r01_Insert_0
  intro hb
  rw [hl]
  refine iff_dec (fun h => ?_) (fun h _ => ?_)
  · have hk' : k < l.length := by omega
    have hx := encN_getD l k hk'
    simp only [Int.toNat_natCast, hx, List.drop_zero, List.headD_cons]
    refine ⟨by omega, by omega, r01_CompareNames_ok _ _ _ ⟨rfl, rfl, iff_dec (fun h2 => ?_) (fun h2 hb2 => iff_dec (fun _ => ⟨by omega, by omega, ?_⟩) (fun h3 => by omega))⟩⟩
    · have h2 : cmpN l[k] s < 0 := h2
      have hm : cmpN l[k] s = -1 := by rcases cmpN_cases l[k] s with h | h | h <;> omega
      rw [wrap_in _ (by omega) (by omega)]
      refine ih _ _ _ ⟨rfl, rfl, k + 1, by omega, by omega, fun i hi hik => ?_⟩ (by omega)
      rcases Nat.lt_succ_iff_lt_or_eq.1 hik with h | h
      · exact hJ i hi h
      · subst h; exact hm
    · have h2 : ¬ cmpN l[k] s < 0 := h2
      show iff (l[k].toList == s.toList) _ _
      rw [ba_beq]
      refine iff_dec (fun h4 => ⟨trivial, ?_⟩) (fun h4 => here k hk hJ fun _ => ⟨by omega, h4⟩)
      have e : insN l s = l := by
        rw [insN_at s k l hk hJ, List.drop_eq_getElem_cons hk', insN, if_neg (by omega), if_pos h4]
        rw [← List.drop_eq_getElem_cons hk', List.take_append_drop]
      rw [e] at hQ
      exact hQ
  · refine iff_dec (fun h3 => by omega) (fun h3 => here k hk hJ fun h4 => by omega)
namespace Tm
mutual
def collect : Tm → List ByteArray → List ByteArray | mk n v xs, l => collectL xs (if v then insN l n else l)
def collectL : List Tm → List ByteArray → List ByteArray | [], l => l | t :: r, l => collectL r (collect t l)
end
theorem collect_eq : ∀ (t : Tm) (l : List ByteArray), collect t l = collectL t.args (if t.var then insN l t.name else l) | mk _ _ _, _ => rfl
theorem collectL_append : ∀ (a b : List Tm) (l : List ByteArray), collectL (a ++ b) l = collectL b (collectL a l)
  | [], _, _ => rfl
  | t :: r, b, l => by rw [List.cons_append, collectL, collectL, collectL_append r b]
theorem collectL_take (a : List Tm) (k : Nat) (h : k < a.length) (l : List ByteArray) : collectL (a.take (k + 1)) l = collect a[k] (collectL (a.take k) l) := by
  rw [List.take_succ_eq_append_getElem h, collectL_append]; rfl
theorem collectL_length : ∀ (a : List Tm), (∀ t ∈ a, ∀ l, (collect t l).length ≤ l.length + t.size) → ∀ l, (collectL a l).length ≤ l.length + sizeL a
  | [], _, l => by simp [collectL, sizeL]
  | t :: r, h, l => by
    have h1 := h t (by simp) l
    have h2 := collectL_length r (fun t ht => h t (List.mem_cons_of_mem _ ht)) (collect t l)
    simp only [collectL, sizeL]; omega
theorem collect_length : ∀ (t : Tm) (l : List ByteArray), (collect t l).length ≤ l.length + t.size := ind fun t ih l => by
  rw [collect_eq, size_eq]
  have h := collectL_length t.args ih (if t.var then insN l t.name else l)
  have h2 := insN_length l t.name
  by_cases hv : t.var = true
  · rw [if_pos hv] at h ⊢; omega
  · rw [if_neg hv] at h ⊢; omega
theorem collectL_len (a : List Tm) (l : List ByteArray) : (collectL a l).length ≤ l.length + sizeL a := collectL_length a (fun t _ => collect_length t) l
def vars (l : List Tm) : List ByteArray := collectL l []
end Tm
theorem r01_collect_ok : ∀ (t : Tm) (l : List ByteArray), l.length + t.size ≤ lim → Fn f_r01_collect [tD t, nsD l] (nsD (Tm.collect t l)) := Tm.ind fun t ih l hB Q hQ => by
  refine C_r01_collect _ _ _ _ _ ?_
  unfold vc_r01_collect
  have hlim : lim = 549755813888 := rfl
  have hsz := Tm.size_eq t
  rw [Tm.collect_eq] at hQ
  have rest : ∀ m : List ByteArray, m.length ≤ l.length + 1 → Q (nsD (Tm.collectL t.args m)) [] → jp_r01_collect_0 Q (.l (encN m)) t.name t.var (Tm.encL t.args) := fun m hm hQ => by
    rw [jp_r01_collect_0_s]
    intro hb
    have hl := Tm.encL_length t.args
    rw [hl] at hb ⊢
    have hls := Tm.length_sizeL t.args
    refine range_r01_collect_0 Q _ _ hb (fun k y => y = .l (encN (Tm.collectL (t.args.take k) m))) (fun k y hk hJ K hK => ?_) (fun y hJ => ?_) 0 _ (Nat.zero_le _) rfl
    · simp only [Tm.encL_getD _ k hk, Tm.enc_eq, List.drop_zero, List.headD_cons, List.tail_cons]
      subst hJ
      have h1 := Tm.collectL_len (t.args.take k) m
      have h2 := Tm.sizeL_take _ k hk
      have h3 := Tm.sizeL_take_le t.args (k + 1)
      exact ⟨by omega, by omega, ih _ (List.getElem_mem hk) _ (by omega) _ ⟨rfl, rfl, hK _ (by rw [Tm.collectL_take _ k hk]; rfl)⟩⟩
    · subst hJ
      rw [List.take_length]
      exact ⟨trivial, hQ⟩
  refine iff_intro (fun h => ?_) (fun h => ?_)
  · rw [if_pos h] at hQ
    exact r01_Insert_ok l _ (by have := Tm.size_pos t; omega) _ ⟨rfl, rfl, rest _ (insN_length _ _) hQ⟩
  · rw [if_neg (by rw [h]; simp)] at hQ
    exact rest l (by omega) hQ
theorem r01_Vars_ok (l : List Tm) (hB : Tm.sizeL l ≤ lim) : Fn f_r01_Vars [tsD l] (nsD (Tm.vars l)) := fun Q hQ => by
  refine C_r01_Vars _ _ fun hb => ?_
  have hl := Tm.encL_length l
  rw [hl] at hb ⊢
  have hlim : lim = 549755813888 := rfl
  have hls := Tm.length_sizeL l
  refine range_r01_Vars_0 Q _ _ hb (fun k y => y = .l (encN (Tm.collectL (l.take k) []))) (fun k y hk hJ K hK => ?_) (fun y hJ => ?_) 0 _ (Nat.zero_le _) rfl
  · simp only [Tm.encL_getD _ k hk, Tm.enc_eq, List.drop_zero, List.headD_cons, List.tail_cons]
    subst hJ
    have h1 := Tm.collectL_len (l.take k) []
    have h2 := Tm.sizeL_take _ k hk
    have h3 := Tm.sizeL_take_le l (k + 1)
    simp only [List.length_nil] at h1
    exact ⟨by omega, by omega, r01_collect_ok _ _ (by omega) _ ⟨rfl, rfl, hK _ (by rw [Tm.collectL_take _ k hk]; rfl)⟩⟩
  · subst hJ
    rw [List.take_length]
    exact ⟨trivial, hQ⟩
open Classical in
noncomputable def sameS (l m : Su) : Bool := decide (l = m)
abbrev Ru := List (Tm × Tm)
def encR (x : Tm × Tm) : List V := x.1.enc ++ x.2.enc
def encRs (l : Ru) : List (List V) := l.map encR
abbrev ruD (l : Ru) : D := .v (.sl t_Rule) (.l (encRs l))
theorem encRs_length (l : Ru) : (encRs l).length = l.length := by simp [encRs]
theorem encRs_getD (l : Ru) (k : Nat) (h : k < l.length) : (encRs l).getD k [] = [.s (l[k]).1.name, .b (l[k]).1.var, .l (Tm.encL (l[k]).1.args), .s (l[k]).2.name, .b (l[k]).2.var, .l (Tm.encL (l[k]).2.args)] := by
  rw [encRs, List.getD_eq_getElem?_getD, List.getElem?_map, List.getElem?_eq_getElem h]
  simp [encR, Tm.enc_eq]
def rulesL : Ru → Int
  | [] => 0
  | x :: r => if Tm.checkAll [x.1, x.2] ≠ 0 then Tm.checkAll [x.1, x.2] else rulesL r
def rules (l : Ru) : Int := if l.length > 64 then 3 else rulesL l
theorem rulesL_take {l : Ru} : ∀ {k : Nat} (hk : k < l.length), (∀ i (h : i < k), Tm.checkAll [(l[i]'(by omega)).1, (l[i]'(by omega)).2] = 0) → Tm.checkAll [(l[k]).1, (l[k]).2] ≠ 0 → rulesL l = Tm.checkAll [(l[k]).1, (l[k]).2] := by
  induction l with
  | nil => intro k hk; simp at hk
  | cons x r ih =>
    intro k hk h hn
    cases k with
    | zero => simp only [List.getElem_cons_zero] at hn ⊢; rw [rulesL, if_pos hn]
    | succ k =>
      have h0 := h 0 (by omega)
      simp only [List.getElem_cons_zero] at h0
      simp only [List.getElem_cons_succ] at hn ⊢
      rw [rulesL, if_neg (by simp [h0])]
      exact ih (by simpa using hk) (fun i hi => by have := h (i + 1) (by omega); simpa using this) hn
theorem rulesL_all {l : Ru} (h : ∀ i (h : i < l.length), Tm.checkAll [(l[i]).1, (l[i]).2] = 0) : rulesL l = 0 := by
  induction l with
  | nil => rfl
  | cons x r ih =>
    have h0 := h 0 (by simp)
    simp only [List.getElem_cons_zero] at h0
    rw [rulesL, if_neg (by simp [h0])]
    exact ih fun i hi => by have := h (i + 1) (by simpa using hi); simpa using this
theorem r01_Rules_ok (l : Ru) (hB : ∀ x ∈ l, x.1.size ≤ small ∧ x.2.size ≤ small) : Fn f_r01_Rules [ruD l] (iD (rules l)) := fun Q hQ => by
  refine C_r01_Rules _ _ fun hb => ?_
  have hl := encRs_length l
  rw [hl] at hb ⊢
  unfold rules at hQ
  refine iff_dec (fun h => ⟨trivial, ?_⟩) (fun h hb => ?_)
  · rw [if_pos (by omega)] at hQ; exact hQ
  · rw [if_neg (by omega)] at hQ
    refine range_r01_Rules_0 Q _ _ hb (fun k => ∀ i (h : i < l.length), i < k → Tm.checkAll [(l[i]).1, (l[i]).2] = 0) (fun k hk hJ K hK => ?_) (fun hJ => ?_) 0 (Nat.zero_le _) (fun i _ h => by omega)
    · simp only [encRs_getD _ k hk, List.drop_zero, List.headD_cons, List.tail_cons]
      have hm := hB _ (List.getElem_mem hk)
      rw [show [[V.s (l[k]).1.name, V.b (l[k]).1.var, V.l (Tm.encL (l[k]).1.args)], [V.s (l[k]).2.name, V.b (l[k]).2.var, V.l (Tm.encL (l[k]).2.args)]] = Tm.encL [(l[k]).1, (l[k]).2] by simp [Tm.encL, Tm.enc_eq]]
      refine ⟨by omega, by omega, r01_CheckAll_ok [(l[k]).1, (l[k]).2] (fun t ht => ?_) _ ⟨rfl, rfl, iff_bne (fun h2 => ⟨trivial, ?_⟩) (fun h2 => hK fun i hi hik => ?_)⟩⟩
      · simp only [List.mem_cons, List.not_mem_nil, or_false] at ht
        rcases ht with rfl | rfl
        · exact hm.1
        · exact hm.2
      · have h2 : Tm.checkAll [(l[k]).1, (l[k]).2] ≠ 0 := h2
        rw [rulesL_take hk (fun i hi => hJ i (by omega) hi) h2] at hQ
        exact hQ
      · rcases Nat.lt_succ_iff_lt_or_eq.1 hik with h8 | h8
        · exact hJ i hi h8
        · subst h8; exact h2
    · rw [rulesL_all fun i hi => hJ i hi hi] at hQ
      exact ⟨trivial, hQ⟩
end Go.Proofs.YtehchnjnbbnkbaaGreat
set_option linter.unusedVariables false
set_option linter.unusedSimpArgs false
namespace Go.Proofs.YtehchnjnbbnkbaaGreat
open Go Go.Abs
theorem keyEqS (a c : ByteArray) (r : List V) : keyEq [.str] [V.s a] (V.s c :: r) = decide (a = c) := by
  have e : keyEq [.str] [V.s a] (V.s c :: r) = (match a.toList == c.toList with | true => true | false => false) := rfl
  rw [e, ba_beq]; cases decide (a = c) <;> rfl
def keysB (l : List ByteArray) : LL := l.map fun x => [V.s x, V.b true]
def addN (l : List ByteArray) (x : ByteArray) : List ByteArray := if hasN l x then l else l ++ [x]
theorem addN_in {l : List ByteArray} {x : ByteArray} (h : x ∈ l) : addN l x = l := by unfold addN; rw [if_pos (hasN_iff.2 h)]
theorem addN_out {l : List ByteArray} {x : ByteArray} (h : x ∉ l) : addN l x = l ++ [x] := by unfold addN; rw [hasN_false.2 h]; rfl
theorem mem_addN {l : List ByteArray} {x y : ByteArray} : y ∈ addN l x ↔ y ∈ l ∨ y = x := by
  by_cases h : x ∈ l
  · rw [addN_in h]
    exact ⟨.inl, fun h' => h'.elim id fun e => e ▸ h⟩
  · rw [addN_out h]; simp
theorem nodup_addN {l : List ByteArray} {x : ByteArray} (h : l.Nodup) : (addN l x).Nodup := by
  by_cases hx : x ∈ l
  · rw [addN_in hx]; exact h
  · rw [addN_out hx]
    exact List.nodup_append.2 ⟨h, by simp, fun a ha b hb => by simp at hb; rintro rfl; exact hx (hb ▸ ha)⟩
theorem mset_keysB (x : ByteArray) : ∀ l : List ByteArray, mset [.str] [V.s x] [V.b true] (keysB l) = keysB (addN l x)
  | [] => rfl
  | y :: l => by
    have e : keysB (y :: l) = [V.s y, V.b true] :: keysB l := rfl
    rw [e, mset, keyEqS]
    by_cases h : x = y
    · subst h
      rw [decide_eq_true rfl, addN_in (by simp)]; rfl
    · rw [decide_eq_false h]
      show _ :: mset _ _ _ (keysB l) = _
      rw [mset_keysB x l]
      by_cases hx : x ∈ l
      · rw [addN_in hx, addN_in (by simp [hx])]; rfl
      · rw [addN_out hx, addN_out (by simp [h, hx])]; rfl
def varsIn (l : List Tm) : List ByteArray := (l.filter Tm.var).map Tm.name
theorem varsIn_append (l r : List Tm) : varsIn (l ++ r) = varsIn l ++ varsIn r := by simp [varsIn]
def sortW (ks : List ByteArray) : List ByteArray := (sortL (ks.map fun x => x.data.toList)).map byL
theorem mem_sortW {ks : List ByteArray} {x : ByteArray} : x ∈ sortW ks ↔ x ∈ ks := by
  unfold sortW sortL
  simp only [List.mem_map, List.mem_mergeSort]
  constructor
  · rintro ⟨_, ⟨y, hy, rfl⟩, rfl⟩
    rw [byL_data]; exact hy
  · intro h
    exact ⟨_, ⟨x, h, rfl⟩, byL_data x⟩
theorem term_Walk_ok (t : Tm) {Q : D → Heap → Prop} (hQ : Q (.fn f_term_Walk_1 [.elt t_Term t.enc 0]) []) : cl f_term_Walk [tD t] [] Q := by
  refine C_term_Walk _ _ _ _ ⟨trivial, ?_⟩
  rw [Tm.enc_eq] at hQ
  exact hQ
theorem nodup_inj {ks : List ByteArray} (h : ks.Nodup) : ∀ {a b : Nat} (ha : a < ks.length) (hb : b < ks.length), ks[a] = ks[b] → a = b := by
  intro a b ha hb he
  rcases Nat.lt_trichotomy a b with hab | hab | hab
  · exact absurd he (List.pairwise_iff_getElem.1 h a b ha hb hab)
  · exact hab
  · exact absurd he.symm (List.pairwise_iff_getElem.1 h b a hb ha hab)
theorem preL_length : ∀ l : List Tm, (Tm.preL l).length = Tm.sizeL l := by
  have h : ∀ t : Tm, t.pre.length = t.size := Tm.ind fun t ih => by
    rw [Tm.pre_eq, Tm.size_eq, List.length_cons]
    have : ∀ l : List Tm, (∀ a ∈ l, a.pre.length = a.size) → (Tm.preL l).length = Tm.sizeL l := by
      intro l hl
      induction l with
      | nil => rfl
      | cons a r ihr => simp only [Tm.preL, Tm.sizeL, List.length_append]; rw [hl a (by simp), ihr fun b hb => hl b (by simp [hb])]
    rw [this _ ih]; omega
  intro l
  induction l with
  | nil => rfl
  | cons a r ihr => simp only [Tm.preL, Tm.sizeL, List.length_append]; rw [h a, ihr]
theorem pre_length (t : Tm) : t.pre.length = t.size := by rw [Tm.pre_eq, Tm.size_eq, List.length_cons, preL_length]; omega
theorem preL_append (l r : List Tm) : Tm.preL (l ++ r) = Tm.preL l ++ Tm.preL r := by simp [Tm.preL_eq]
theorem keysB_getD (ks : List ByteArray) (j : Nat) (hj : j < ks.length) : (keysB ks).getD j [] = [V.s (ks.getD j ByteArray.empty), V.b true] := by
  unfold keysB
  rw [List.getD_eq_getElem?_getD, List.getElem?_map, List.getD_eq_getElem?_getD, List.getElem?_eq_getElem hj]; rfl
theorem VarsOf_ok (l : List Tm) (hs : Tm.sizeL l ≤ 274877906944) {Q : D → Heap → Prop}
    (hQ : ∀ ks : List ByteArray, ks.Nodup → (∀ x, x ∈ ks ↔ x ∈ varsIn (Tm.preL l)) → Q (.v (.sl t_string) (.l ((sortW ks).map fun x => [.s x]))) []) : cl f_term_VarsOf [.v (.sl t_Term) (.l (Tm.encL l))] [] Q := by
  refine C_term_VarsOf _ _ fun _ => ?_
  have hll : l.length ≤ 274877906944 := Nat.le_trans (Tm.length_sizeL l) hs
  have last : ∀ (ks : List ByteArray), ks.Nodup → ks.length ≤ Tm.sizeL l → (∀ x, x ∈ ks ↔ x ∈ varsIn (Tm.preL l)) → ∃ m2, lp_term_VarsOf_2 Q m2 0 (keysB ks) (keysB ks).length [] [] := by
    intro ks hnd hkl hmem
    refine rule_term_VarsOf_2 Q (fun n y m s row => y = keysB ks ∧ m = ks.length ∧ n = s.length ∧ s.Nodup ∧ (∀ j ∈ s, j < ks.length) ∧ s.length ≤ ks.length ∧ row = (s.reverse.map fun j => [V.s (ks.getD j ByteArray.empty)]))
      (fun n y m s row => ks.length - s.length) ?_ 0 (keysB ks) (keysB ks).length [] [] ⟨rfl, by simp [keysB], rfl, List.nodup_nil, by simp, by simp, rfl⟩
    rintro n y m s row ⟨rfl, rfl, rfl, hsn, hsl, hle, rfl⟩ M ih
    refine ⟨by simp [keysB], fun hall => ?_, fun j hj hjs hlt => ⟨by simp [keysB], by simp, ?_, ?_⟩⟩
    · have e : (s.reverse.map fun j => [V.s (ks.getD j ByteArray.empty)]) = (s.reverse.map fun j => ks.getD j ByteArray.empty).map fun x => [V.s x] := by rw [List.map_map]; rfl
      rw [e]
      refine slices_Sort_ok (s.reverse.map fun j => ks.getD j ByteArray.empty) s.length (by simp) (by unfold lim; omega) ⟨rfl, rfl, ?_, ?_⟩
      · show s.length = (List.map _ _).length
        rw [List.length_map, sort_len]; simp
      · have := hQ (s.reverse.map fun j => ks.getD j ByteArray.empty) ?_ ?_
        · have e2 : ((sortW (s.reverse.map fun j => ks.getD j ByteArray.empty)).map fun x => [V.s x]) = (sortL ((s.reverse.map fun j => ks.getD j ByteArray.empty).map fun x => x.data.toList)).map fun x => [V.s (byL x)] := by
            unfold sortW; rw [List.map_map]; rfl
          rw [e2] at this
          exact this
        · refine List.pairwise_map.2 ((List.pairwise_reverse.2 (hsn.imp fun h => Ne.symm h) : s.reverse.Nodup).imp_of_mem fun {a b} ha hb hab he => hab ?_)
          have ha' := hsl a (List.mem_reverse.1 ha)
          have hb' := hsl b (List.mem_reverse.1 hb)
          rw [List.getD_eq_getElem?_getD, List.getD_eq_getElem?_getD, List.getElem?_eq_getElem ha', List.getElem?_eq_getElem hb'] at he
          exact nodup_inj hnd ha' hb' he
        · intro x
          rw [← hmem x, List.mem_map]
          constructor
          · rintro ⟨j, hj, rfl⟩
            have hj' := hsl j (List.mem_reverse.1 hj)
            rw [List.getD_eq_getElem?_getD, List.getElem?_eq_getElem hj']
            exact List.getElem_mem hj'
          · intro hx
            obtain ⟨j, hj, rfl⟩ := List.mem_iff_getElem.1 hx
            exact ⟨j, List.mem_reverse.2 (hall j hj), by rw [List.getD_eq_getElem?_getD, List.getElem?_eq_getElem hj]; rfl⟩
    · show s.length + 1 ≤ lim
      unfold lim; omega
    · refine ih _ _ _ _ _ ⟨rfl, rfl, rfl, List.nodup_cons.2 ⟨hjs, hsn⟩, ?_, ?_, ?_⟩ ?_
      · intro a ha
        rcases List.mem_cons.1 ha with rfl | ha
        · exact hj
        · exact hsl a ha
      · show s.length + 1 ≤ _; omega
      · rw [keysB_getD ks j hj, List.reverse_cons, List.map_append]; rfl
      · show ks.length - (s.length + 1) < ks.length - s.length
        omega
  refine rule_term_VarsOf_0 Q (fun x n i y => x = Tm.encL l ∧ n = (l.length : Int) ∧ ∃ (k : Nat) (ks : List ByteArray), i = k ∧ k ≤ l.length ∧ y = keysB ks ∧ ks.Nodup ∧ ks.length ≤ Tm.sizeL (l.take k) ∧ ∀ z, z ∈ ks ↔ z ∈ varsIn (Tm.preL (l.take k)))
    (fun x n i y => (n - i).toNat) ?_ _ _ _ _ ⟨rfl, by rw [Tm.encL_length], 0, [], rfl, Nat.zero_le _, rfl, List.nodup_nil, Nat.zero_le _, fun z => by simp [Tm.preL, varsIn]⟩
  rintro x n i y ⟨rfl, rfl, k, ks, rfl, hk, rfl, hnd, hkl, hmem⟩ M ih
  unfold st_term_VarsOf_0
  refine iff_dec (fun hlt => ?_) (fun hge => ?_)
  · have hlt' : k < l.length := by omega
    have hmem' : l[k] ∈ l := List.getElem_mem hlt'
    refine ⟨by omega, by rw [Tm.encL_length]; exact hlt, ?_⟩
    rw [Int.toNat_natCast, Tm.encL_getD l k hlt', Tm.enc_eq]
    refine term_Walk_ok l[k] ⟨rfl, rfl, (l[k]).pre.map Tm.enc, Walk_iter l[k] (by have := Tm.sizeL_mem hmem'; omega), ?_⟩
    refine each_term_VarsOf_1 Q M _ _ _ _ _ (fun rows q => ∃ ss ks', rows = ss.map Tm.enc ∧ q = keysB ks' ∧ ks'.Nodup ∧ ks'.length + ss.length ≤ Tm.sizeL (l.take k) + (l[k]).size ∧ ∀ z, (z ∈ ks' ∨ z ∈ varsIn ss) ↔ (z ∈ ks ∨ z ∈ varsIn (l[k]).pre)) ?_ ?_ _ _ ⟨(l[k]).pre, ks, rfl, rfl, hnd, by rw [pre_length]; omega, fun z => Iff.rfl⟩
    · rintro r rs q ⟨ss, ks', hr, rfl, hnd', hl', hm'⟩ K hK
      cases ss with
      | nil => simp at hr
      | cons a ss =>
        simp only [List.map_cons, List.cons.injEq] at hr
        obtain ⟨rfl, rfl⟩ := hr
        rw [Tm.enc_eq]
        refine iff_intro (fun hv => ?_) (fun hv => ?_)
        · refine hK _ ⟨ss, addN ks' a.name, rfl, mset_keysB a.name ks', nodup_addN hnd', ?_, fun z => ?_⟩
          · have : (addN ks' a.name).length ≤ ks'.length + 1 := by
              by_cases h : a.name ∈ ks'
              · rw [addN_in h]; omega
              · rw [addN_out h]; simp
            simp only [List.length_cons] at hl'
            omega
          · rw [← hm' z, mem_addN]
            have hv' : a.var = true := hv
            have : varsIn (a :: ss) = a.name :: varsIn ss := by simp [varsIn, hv']
            rw [this, List.mem_cons]
            constructor
            · rintro ((h | h) | h)
              · exact .inl h
              · exact .inr (.inl h)
              · exact .inr (.inr h)
            · rintro (h | h | h)
              · exact .inl (.inl h)
              · exact .inl (.inr h)
              · exact .inr h
        · refine hK _ ⟨ss, ks', rfl, rfl, hnd', by simp only [List.length_cons] at hl'; omega, fun z => ?_⟩
          rw [← hm' z]
          have hv' : a.var = false := hv
          have : varsIn (a :: ss) = varsIn ss := by simp [varsIn, hv']
          rw [this]
    · rintro q ⟨ss, ks', hr, rfl, hnd', hl', hm'⟩
      have hss : ss = [] := by simpa using hr.symm
      subst hss
      rw [wrap_next k (by unfold big; omega)]
      refine ih _ _ _ _ ⟨rfl, rfl, k + 1, ks', rfl, hlt', rfl, hnd', ?_, fun z => ?_⟩ ?_
      · rw [Tm.sizeL_take l k hlt']; simpa using hl'
      · have := hm' z
        rw [List.take_succ_eq_append_getElem hlt', preL_append, varsIn_append, List.mem_append, ← hmem z]
        have e : Tm.preL [l[k]] = (l[k]).pre := by simp [Tm.preL]
        rw [e, ← this]
        simp [varsIn]
      · show ((l.length : Int) - ((k + 1 : Nat) : Int)).toNat < ((l.length : Int) - (k : Int)).toNat
        omega
  · have hkl' : k = l.length := by omega
    subst hkl'
    rw [List.take_length] at hkl hmem
    exact last ks hnd hkl hmem
end Go.Proofs.YtehchnjnbbnkbaaGreat
set_option linter.unusedVariables false
set_option linter.unusedSimpArgs false
namespace Go.Proofs.YtehchnjnbbnkbaaGreat
open Go Go.Abs
theorem term_CheckRules_ok (l : Ru) (hB : ∀ x ∈ l, x.1.size ≤ small ∧ x.2.size ≤ small) : Fn f_term_CheckRules [ruD l] (iD (rules l)) := fun Q hQ => by
  refine C_term_CheckRules _ _ fun hb => ?_
  have hl := encRs_length l
  rw [hl] at hb ⊢
  unfold rules at hQ
  refine iff_dec (fun h => ⟨trivial, ?_⟩) (fun h hb => ?_)
  · rw [if_pos (by omega)] at hQ; exact hQ
  · rw [if_neg (by omega)] at hQ
    refine range_term_CheckRules_0 Q _ _ hb (fun k => ∀ i (h : i < l.length), i < k → Tm.checkAll [(l[i]).1, (l[i]).2] = 0) (fun k hk hJ K hK => ?_) (fun hJ => ?_) 0 (Nat.zero_le _) (fun i _ h => by omega)
    · simp only [encRs_getD _ k hk, List.drop_zero, List.headD_cons, List.tail_cons]
      have hm := hB _ (List.getElem_mem hk)
      rw [show [[V.s (l[k]).1.name, V.b (l[k]).1.var, V.l (Tm.encL (l[k]).1.args)], [V.s (l[k]).2.name, V.b (l[k]).2.var, V.l (Tm.encL (l[k]).2.args)]] = Tm.encL [(l[k]).1, (l[k]).2] by simp [Tm.encL, Tm.enc_eq]]
      refine ⟨by omega, by omega, term_All_ok [(l[k]).1, (l[k]).2] (fun t ht => ?_) _ ⟨rfl, rfl, iff_bne (fun h2 => ⟨trivial, ?_⟩) (fun h2 => hK fun i hi hik => ?_)⟩⟩
      · simp only [List.mem_cons, List.not_mem_nil, or_false] at ht
        rcases ht with rfl | rfl
        · exact hm.1
        · exact hm.2
      · have h2 : Tm.checkAll [(l[k]).1, (l[k]).2] ≠ 0 := h2
        rw [rulesL_take hk (fun i hi => hJ i (by omega) hi) h2] at hQ
        exact hQ
      · rcases Nat.lt_succ_iff_lt_or_eq.1 hik with h8 | h8
        · exact hJ i hi h8
        · subst h8; exact h2
    · rw [rulesL_all fun i hi => hJ i hi hi] at hQ
      exact ⟨trivial, hQ⟩
theorem slices_Index_string_ok (l : List ByteArray) (x : ByteArray) : Fn f_slices_Index_string [nsD l, sD x] (iD (idx (fun y => decide (x = y)) l)) := fun Q hQ => by
  refine C_slices_Index_string _ _ _ fun hb => ?_
  have hl := encN_length l
  rw [hl] at hb ⊢
  refine range_slices_Index_string_0 Q _ _ _ hb (fun k => (l.take k).any (fun y => decide (x = y)) = false) (fun k hk hJ K hK => ?_) (fun hJ => ⟨trivial, ?_⟩) 0 (Nat.zero_le _) rfl
  · simp only [encN_getD _ k hk, List.drop_zero, List.headD_cons, V.str]
    refine ⟨by omega, by omega, ?_⟩
    rw [ba_beq]
    refine iff_intro (fun h => ⟨trivial, ?_⟩) (fun h => hK (any_take hk hJ h))
    rw [idx_at hk hJ h] at hQ
    exact hQ
  · rw [List.take_length] at hJ
    rw [idx_none hJ] at hQ
    exact hQ
theorem slices_Contains_string_ok (l : List ByteArray) (x : ByteArray) : Fn f_slices_Contains_string [nsD l, sD x] (bD (l.any fun y => decide (x = y))) := fun Q hQ => by
  refine C_slices_Contains_string _ _ _ ?_
  unfold vc_slices_Contains_string
  refine slices_Index_string_ok l x _ ⟨rfl, rfl, trivial, ?_⟩
  rw [← idx_any] at hQ
  exact hQ
theorem extra_1_ok (l : List ByteArray) (x : ByteArray) {Q : D → Heap → Prop} (hQ : Q (bD (!(l.any fun y => decide (x = y)))) [.cells [nsD l]]) : cl f_term_extra_1 [sD x, .ptr (.own 0) 0] [.cells [nsD l]] Q := by
  refine C_term_extra_1 _ _ _ ?_
  unfold vc_term_extra_1
  exact slices_Contains_string_ok l x _ ⟨rfl, rfl, trivial, hQ⟩
theorem IndexFunc_extra_ok (l m : List ByteArray) {Q : D → Heap → Prop} (hQ : Q (iD (idx (fun x => !(l.any fun y => decide (x = y))) m)) [.cells [nsD l]]) :
    cl f_slices_IndexFunc_string [nsD m, .fn f_term_extra_1 [.ptr (.own 0) 0]] [.cells [nsD l]] Q := by
  refine C_slices_IndexFunc_string_termextra1 _ _ _ fun hb => ?_
  have hl := encN_length m
  rw [hl] at hb ⊢
  refine range_slices_IndexFunc_string_termextra1_0 Q _ _ hb (fun k h => h = V.l (encN l) ∧ (m.take k).any (fun x => !(l.any fun y => decide (x = y))) = false) (fun k h hk hJ K hK => ?_) (fun h hJ => ⟨trivial, ?_⟩) 0 _ (Nat.zero_le _) ⟨rfl, rfl⟩
  · obtain ⟨rfl, hJ⟩ := hJ
    simp only [encN_getD _ k hk, List.drop_zero, List.headD_cons]
    refine ⟨by omega, by omega, extra_1_ok l m[k] ⟨rfl, rfl, iff_intro (fun h => ⟨trivial, ?_⟩) (fun h => hK _ ⟨rfl, any_take hk hJ h⟩)⟩⟩
    rw [idx_at hk hJ h] at hQ
    exact hQ
  · obtain ⟨rfl, hJ⟩ := hJ
    rw [List.take_length] at hJ
    rw [idx_none hJ] at hQ
    exact hQ
theorem ContainsFunc_extra_ok (l m : List ByteArray) {Q : D → Heap → Prop} (hQ : Q (bD (m.any fun x => !(l.any fun y => decide (x = y)))) [.cells [nsD l]]) :
    cl f_slices_ContainsFunc_string [nsD m, .fn f_term_extra_1 [.ptr (.own 0) 0]] [.cells [nsD l]] Q := by
  refine C_slices_ContainsFunc_string_termextra1 _ _ _ ?_
  unfold vc_slices_ContainsFunc_string_termextra1
  refine IndexFunc_extra_ok l m ⟨rfl, rfl, trivial, ?_⟩
  rw [← idx_any] at hQ
  exact hQ
def extraB (x : Tm × Tm) : Bool := x.1.var || (varsIn x.2.pre).any fun v => !hasN (varsIn x.1.pre) v
theorem term_extra_ok (x : Tm × Tm) (hB : x.1.size ≤ 4000 ∧ x.2.size ≤ 4000) : Fn f_term_extra [.agg [.v .str (.s x.1.name), .v .bool (.b x.1.var), .v (.sl t_Term) (.l (Tm.encL x.1.args)), .v .str (.s x.2.name), .v .bool (.b x.2.var), .v (.sl t_Term) (.l (Tm.encL x.2.args))]] (bD (extraB x)) := fun Q hQ => by
  refine C_term_extra _ _ _ _ _ _ _ ?_
  unfold vc_term_extra
  have e1 : ∀ t : Tm, [[V.s t.name, V.b t.var, V.l (Tm.encL t.args)]] = Tm.encL [t] := fun t => by simp [Tm.encL, Tm.enc_eq]
  have ep : ∀ t : Tm, Tm.preL [t] = t.pre := fun t => by simp [Tm.preL]
  rw [e1, e1]
  refine VarsOf_ok [x.1] (by simp [Tm.sizeL]; omega) fun ks _ hks => ⟨rfl, rfl, iff_intro (fun hv => ⟨trivial, ?_⟩) (fun hv => ?_)⟩
  · unfold extraB at hQ
    rw [hv] at hQ
    exact hQ
  · refine VarsOf_ok [x.2] (by simp [Tm.sizeL]; omega) fun ks2 _ hks2 => ⟨rfl, rfl, ?_⟩
    refine ContainsFunc_extra_ok (sortW ks) (sortW ks2) ⟨rfl, rfl, trivial, ?_⟩
    have e : ((sortW ks2).any fun z => !((sortW ks).any fun y => decide (z = y))) = extraB x := by
      unfold extraB
      rw [hv, Bool.false_or, Bool.eq_iff_iff]
      simp only [List.any_eq_true, Bool.not_eq_true', mem_sortW, hks2, ep, hasN_false]
      constructor
      · rintro ⟨z, hz, h⟩
        refine ⟨z, hz, fun hm => ?_⟩
        rw [← ep, ← hks] at hm
        have : ((sortW ks).any fun y => decide (z = y)) = true := List.any_eq_true.2 ⟨z, mem_sortW.2 hm, by simp⟩
        rw [this] at h; cases h
      · rintro ⟨z, hz, h⟩
        refine ⟨z, hz, ?_⟩
        rw [Bool.eq_false_iff]
        intro h2
        obtain ⟨y, hy, he⟩ := List.any_eq_true.1 h2
        have : z = y := by simpa using he
        subst this
        exact h (by rw [← ep, ← hks]; exact mem_sortW.1 hy)
    show Q (bD ((sortW ks2).any fun z => !((sortW ks).any fun y => decide (z = y)))) []
    rw [e]; exact hQ
theorem IndexFunc_Rule_ok (l : Ru) (hB : ∀ x ∈ l, x.1.size ≤ 4000 ∧ x.2.size ≤ 4000) : Fn f_slices_IndexFunc_Rule [ruD l, .fn f_term_extra []] (iD (idx extraB l)) := fun Q hQ => by
  refine C_slices_IndexFunc_Rule_termextra _ _ fun hb => ?_
  have hl := encRs_length l
  rw [hl] at hb ⊢
  refine range_slices_IndexFunc_Rule_termextra_0 Q _ _ hb (fun k => (l.take k).any extraB = false) (fun k hk hJ K hK => ?_) (fun hJ => ⟨trivial, ?_⟩) 0 (Nat.zero_le _) rfl
  · simp only [encRs_getD _ k hk, List.drop_zero, List.headD_cons, List.tail_cons]
    refine ⟨by omega, by omega, term_extra_ok l[k] (hB _ (List.getElem_mem hk)) _ ⟨rfl, rfl, iff_intro (fun h => ⟨trivial, ?_⟩) (fun h => hK (any_take hk hJ h))⟩⟩
    rw [idx_at hk hJ h] at hQ
    exact hQ
  · rw [List.take_length] at hJ
    rw [idx_none hJ] at hQ
    exact hQ
theorem ContainsFunc_Rule_ok (l : Ru) (hB : ∀ x ∈ l, x.1.size ≤ 4000 ∧ x.2.size ≤ 4000) : Fn f_slices_ContainsFunc_Rule [ruD l, .fn f_term_extra []] (bD (l.any extraB)) := fun Q hQ => by
  refine C_slices_ContainsFunc_Rule_termextra _ _ ?_
  unfold vc_slices_ContainsFunc_Rule_termextra
  refine IndexFunc_Rule_ok l hB _ ⟨rfl, rfl, trivial, ?_⟩
  rw [← idx_any] at hQ
  exact hQ
theorem term_Marked_ok (s : ByteArray) : Fn f_term_Marked [sD s] (bD (markedL s.data.toList)) := fun Q hQ => by
  refine C_term_Marked _ _ ?_
  unfold vc_term_Marked
  refine C_strings_HasSuffix _ _ _ ?_
  unfold vc_strings_HasSuffix
  refine stringslite_HasSuffix_ok s (ByteArray.mk #[35]) _ ⟨rfl, rfl, trivial, rfl, rfl, trivial, ?_⟩
  have e : decide ((ByteArray.mk #[35]).data.toList <:+ s.data.toList) = markedL s.data.toList := by
    rw [Bool.eq_iff_iff, decide_eq_true_iff]; exact hash_suffix _
  show Q (bD (decide ((ByteArray.mk #[35]).data.toList <:+ s.data.toList))) []
  rw [e]; exact hQ
abbrev Ar := List (ByteArray × Nat)
def encM (m : Ar) : LL := m.map fun p => [V.s p.1, V.i p.2]
def lookM (m : Ar) (x : ByteArray) : Option Nat := (m.find? fun p => decide (x = p.1)).map (·.2)
def addM (m : Ar) (x : ByteArray) (n : Nat) : Ar := if (lookM m x).isSome then m else m ++ [(x, n)]
theorem mlook_encM (x : ByteArray) : ∀ m : Ar, mlook [.str] [V.s x] (encM m) = (lookM m x).map fun n => [V.i n]
  | [] => rfl
  | p :: m => by
    have e : encM (p :: m) = [V.s p.1, V.i p.2] :: encM m := rfl
    rw [e, mlook, keyEqS]
    unfold lookM
    rw [List.find?_cons]
    by_cases h : x = p.1
    · rw [decide_eq_true h]; rfl
    · rw [decide_eq_false h]
      exact mlook_encM x m
theorem mhas_encM (x : ByteArray) (m : Ar) : mhas [.str] [V.s x] (encM m) = (lookM m x).isSome := by
  unfold mhas; rw [mlook_encM]; cases lookM m x <;> rfl
theorem mget_encM {x : ByteArray} {m : Ar} {n : Nat} (h : lookM m x = some n) : mget [.str] [V.i 0] [V.s x] (encM m) = [V.i n] := by
  unfold mget; rw [mlook_encM, h]; rfl
theorem mset_encM (x : ByteArray) (n : Nat) : ∀ m : Ar, (lookM m x = none ∨ lookM m x = some n) → mset [.str] [V.s x] [V.i n] (encM m) = encM (addM m x n)
  | [], _ => rfl
  | p :: m, h => by
    have e : encM (p :: m) = [V.s p.1, V.i p.2] :: encM m := rfl
    rw [e, mset, keyEqS]
    have e2 : lookM (p :: m) x = if x = p.1 then some p.2 else lookM m x := by
      unfold lookM
      rw [List.find?_cons]
      by_cases hx : x = p.1
      · rw [decide_eq_true hx, if_pos hx]; rfl
      · rw [decide_eq_false hx, if_neg hx]
    by_cases hx : x = p.1
    · rw [e2, if_pos hx] at h
      have hn : p.2 = n := by
        rcases h with h | h
        · cases h
        · exact Option.some.inj h
      have : addM (p :: m) x n = p :: m := by
        unfold addM; rw [e2, if_pos hx]; rfl
      rw [decide_eq_true hx, this]
      subst hx hn
      rfl
    · rw [e2, if_neg hx] at h
      rw [decide_eq_false hx]
      show _ :: mset _ _ _ (encM m) = _
      rw [mset_encM x n m h]
      have : addM (p :: m) x n = p :: addM m x n := by
        unfold addM; rw [e2, if_neg hx]
        split <;> rfl
      rw [this]; rfl
def nv (l : List Tm) : List Tm := l.filter fun s => !s.var
def arOk (l : List Tm) : Prop := ∀ s ∈ l, ∀ t ∈ l, s.name = t.name → s.args.length = t.args.length
def InvM (ps : List Tm) (m : Ar) : Prop := (∀ p ∈ m, ∃ s ∈ ps, s.name = p.1 ∧ s.args.length = p.2) ∧ ∀ s ∈ ps, ∃ p ∈ m, p.1 = s.name ∧ p.2 = s.args.length
def GoodM (N rem : List Tm) (m : Ar) : Prop := ∃ ps, N = ps ++ nv rem ∧ arOk ps ∧ InvM ps m ∧ m.length ≤ ps.length
theorem lookM_some {m : Ar} {x : ByteArray} {n : Nat} (h : lookM m x = some n) : (x, n) ∈ m := by
  unfold lookM at h
  cases hf : m.find? fun p => decide (x = p.1) with
  | none => rw [hf] at h; cases h
  | some p =>
    rw [hf] at h
    have h1 := List.mem_of_find?_eq_some hf
    have h2 : x = p.1 := by simpa using List.find?_some hf
    have h3 : p.2 = n := Option.some.inj h
    subst h2 h3
    exact h1
theorem lookM_none {m : Ar} {x : ByteArray} (h : lookM m x = none) : ∀ p ∈ m, p.1 ≠ x := by
  intro p hp he
  unfold lookM at h
  rw [Option.map_eq_none_iff, List.find?_eq_none] at h
  have := h p hp
  simp [he] at this
theorem good_var {N rem : List Tm} {m : Ar} {s : Tm} (h : GoodM N (s :: rem) m) (hv : s.var = true) : GoodM N rem m := by
  obtain ⟨ps, h1, h2⟩ := h
  exact ⟨ps, by rw [h1]; simp [nv, hv], h2⟩
theorem good_bad {N rem : List Tm} {m : Ar} {s : Tm} {n : Nat} (h : GoodM N (s :: rem) m) (hv : s.var = false) (hl : lookM m s.name = some n) (hn : n ≠ s.args.length) : ¬ arOk N := by
  obtain ⟨ps, h1, h2, h3, _⟩ := h
  intro ha
  obtain ⟨t, ht, e1, e2⟩ := h3.1 _ (lookM_some hl)
  have hs : s ∈ N := by rw [h1]; simp [nv, hv]
  have htN : t ∈ N := by rw [h1]; simp [ht]
  have := ha t htN s hs e1
  exact hn (e2.symm.trans this)
theorem good_next {N rem : List Tm} {m : Ar} {s : Tm} (h : GoodM N (s :: rem) m) (hv : s.var = false) (hl : lookM m s.name = none ∨ lookM m s.name = some s.args.length) : GoodM N rem (addM m s.name s.args.length) := by
  obtain ⟨ps, h1, h2, h3, h4⟩ := h
  have hcons : ∀ t ∈ ps, t.name = s.name → t.args.length = s.args.length := fun t ht he => by
    obtain ⟨p, hp, e1, e2⟩ := h3.2 t ht
    rcases hl with hl | hl
    · exact absurd (e1.trans he) (lookM_none hl p hp)
    · obtain ⟨t2, ht2, f1, f2⟩ := h3.1 _ (lookM_some hl)
      have := h2 t ht t2 ht2 (by rw [he, f1])
      rw [this, f2]
  refine ⟨ps ++ [s], by rw [h1]; simp [nv, hv], fun a ha b hb he => ?_, ⟨fun p hp => ?_, fun t ht => ?_⟩, ?_⟩
  · rcases List.mem_append.1 ha with ha1 | ha1 <;> rcases List.mem_append.1 hb with hb1 | hb1
    · exact h2 a ha1 b hb1 he
    · have e2 : b = s := by simpa using hb1
      rw [e2] at he ⊢
      exact hcons a ha1 he
    · have e1 : a = s := by simpa using ha1
      rw [e1] at he ⊢
      exact (hcons b hb1 he.symm).symm
    · have e1 : a = s := by simpa using ha1
      have e2 : b = s := by simpa using hb1
      rw [e1, e2]
  · unfold addM at hp
    split at hp
    · obtain ⟨t, ht, e⟩ := h3.1 p hp
      exact ⟨t, by simp [ht], e⟩
    · rcases List.mem_append.1 hp with hp | hp
      · obtain ⟨t, ht, e⟩ := h3.1 p hp
        exact ⟨t, by simp [ht], e⟩
      · have : p = (s.name, s.args.length) := by simpa using hp
        subst this
        exact ⟨s, by simp, rfl, rfl⟩
  · have key : ∀ q ∈ m, q ∈ addM m s.name s.args.length := fun q hq => by
      unfold addM; split
      · exact hq
      · simp [hq]
    rcases List.mem_append.1 ht with ht | ht
    · obtain ⟨p, hp, e⟩ := h3.2 t ht
      exact ⟨p, key p hp, e⟩
    · have : t = s := by simpa using ht
      subst this
      rcases hl with hl | hl
      · refine ⟨(t.name, t.args.length), ?_, rfl, rfl⟩
        unfold addM; rw [hl]; simp
      · exact ⟨_, key _ (lookM_some hl), rfl, rfl⟩
  · unfold addM
    split
    · simp; omega
    · simp; omega
end Go.Proofs.YtehchnjnbbnkbaaGreat
set_option linter.unusedVariables false
set_option linter.unusedSimpArgs false
namespace Go.Proofs.YtehchnjnbbnkbaaGreat
open Go Go.Abs
def sides (l : Ru) : List Tm := l.flatMap fun x => [x.1, x.2]
def nodesR (l : Ru) : List Tm := nv (Tm.preL (sides l))
theorem sides_cons (x : Tm × Tm) (l : Ru) : sides (x :: l) = x.1 :: x.2 :: sides l := rfl
theorem Arities_ok (l : Ru) (hB : ∀ x ∈ l, x.1.size ≤ 4000 ∧ x.2.size ≤ 4000) {Q : D → Heap → Prop} (hQ1 : arOk (nodesR l) → ∀ m : Ar, InvM (nodesR l) m → m.length ≤ (nodesR l).length → Q (.tup [.v (.mp mt_9_3) (.l (encM m)), .v .bool (.b true)]) [])
    (hQ2 : ¬ arOk (nodesR l) → Q (.tup [.v (.mp mt_9_3) (.l []), .v .bool (.b false)]) []) : cl f_term_Arities [ruD l] [] Q := by
  refine C_term_Arities _ _ fun hb => ?_
  have hl := encRs_length l
  rw [hl] at hb ⊢
  generalize hN : nodesR l = N at hQ1 hQ2
  refine rule_term_Arities_0 Q (fun x n i y q => x = encRs l ∧ n = (l.length : Int) ∧ y = false ∧ ∃ (k : Nat) (m : Ar), i = k ∧ k ≤ l.length ∧ q = encM m ∧ GoodM N (Tm.preL (sides (l.drop k))) m)
    (fun x n i y q => (n - i).toNat) ?_ _ _ _ _ _ ⟨rfl, rfl, rfl, 0, [], rfl, Nat.zero_le _, rfl, [], by simpa [nodesR] using hN.symm, fun s hs => by simp at hs, ⟨by simp, by simp⟩, by simp⟩
  rintro x n i y q ⟨rfl, rfl, rfl, k, m, rfl, hk, rfl, hg⟩ M ih
  unfold st_term_Arities_0
  refine iff_dec (fun hlt => ?_) (fun hge => ⟨⟨trivial, trivial, trivial⟩, ?_⟩)
  · have hlt' : k < l.length := by omega
    have hmem := hB _ (List.getElem_mem hlt')
    refine ⟨by omega, by rw [hl]; exact hlt, ?_⟩
    rw [Int.toNat_natCast]
    simp only [encRs_getD _ k hlt', List.drop_zero, List.headD_cons, List.tail_cons]
    rw [List.drop_eq_getElem_cons hlt', sides_cons] at hg
    generalize hx : l[k] = x at hg hmem
    -- what follows the two sides
    have next : ∀ m', GoodM N (Tm.preL (sides (l.drop (k + 1)))) m' → lp_term_Arities_0 Q M (encRs l) (l.length : Int) (IntKind.i64.wrap ((k : Int) + (1 : Int))) false (encM m') := fun m' hm' => by
      rw [wrap_next k (by omega)]
      refine ih _ _ _ _ _ ⟨rfl, rfl, rfl, k + 1, m', rfl, hlt', rfl, hm'⟩ ?_
      show ((l.length : Int) - ((k + 1 : Nat) : Int)).toNat < ((l.length : Int) - (k : Int)).toNat
      omega
    refine rule_term_Arities_1 Q M (fun a b c d0 d1 d2 d3 d4 d5 i y q => a = encRs l ∧ b = (l.length : Int) ∧ c = (k : Int) ∧ d0 = V.s x.1.name ∧ d1 = V.b x.1.var ∧ d2 = V.l (Tm.encL x.1.args) ∧ d3 = V.s x.2.name ∧ d4 = V.b x.2.var ∧ d5 = V.l (Tm.encL x.2.args) ∧ y = false ∧
        ∃ (j : Nat) (m : Ar), i = j ∧ j ≤ 2 ∧ q = encM m ∧ GoodM N (Tm.preL ([x.1, x.2].drop j) ++ Tm.preL (sides (l.drop (k + 1)))) m)
      (fun a b c d0 d1 d2 d3 d4 d5 i y q => (2 - i).toNat) ?_ _ _ _ _ _ _ _ _ _ _ _ _ ⟨rfl, rfl, rfl, rfl, rfl, rfl, rfl, rfl, rfl, rfl, 0, m, rfl, by omega, rfl, by simpa [Tm.preL, List.append_assoc] using hg⟩
    rintro a b c d0 d1 d2 d3 d4 d5 i y q ⟨rfl, rfl, rfl, rfl, rfl, rfl, rfl, rfl, rfl, rfl, j, m', rfl, hj, rfl, hg'⟩ M1 ih1
    unfold st_term_Arities_1
    -- one side
    have side : ∀ (t : Tm) (rem : List Tm) (hj2 : j < 2) (hts : t.size ≤ 4000) (hg2 : GoodM N (t.pre ++ rem) m') (hrem : rem = Tm.preL ([x.1, x.2].drop (j + 1)) ++ Tm.preL (sides (l.drop (k + 1)))),
        cl f_term_Walk [tD t] [] fun r1 H2 => r1 = (.fn f_term_Walk_1 [.elt t_Term ((r1.capsOf.headD .undef).eltOf) 0]) ∧ H2 = [] ∧ ∃ rows : LL, itA 77 [.elt t_Term ((r1.capsOf.headD .undef).eltOf) 0] rows ∧ rg_term_Arities_2 Q M M1 (encRs l) (l.length : Int) (k : Int) (V.s x.1.name) (V.b x.1.var) (V.l (Tm.encL x.1.args)) (V.s x.2.name) (V.b x.2.var) (V.l (Tm.encL x.2.args)) (j : Int) ((r1.capsOf.headD .undef).eltOf) false (encM m') false (encM m') rows := by
      intro t rem hj2 hts hg2 hrem
      refine term_Walk_ok t ⟨rfl, rfl, t.pre.map Tm.enc, Walk_iter t (by omega), ?_⟩
      refine each_term_Arities_2 Q M M1 _ _ _ _ _ _ _ _ _ _ _ _ _ (fun rows y q => ∃ ss m, rows = ss.map Tm.enc ∧ y = false ∧ q = encM m ∧ GoodM N (ss ++ rem) m) ?_ ?_ _ _ _ ⟨t.pre, m', rfl, rfl, rfl, hg2⟩
      · rintro r rs y q ⟨ss, m2, hr, rfl, rfl, hm2⟩ K hK
        cases ss with
        | nil => simp at hr
        | cons s ss =>
          simp only [List.map_cons, List.cons.injEq] at hr
          obtain ⟨rfl, rfl⟩ := hr
          rw [Tm.enc_eq]
          refine iff_intro (fun hv => hK _ _ ⟨ss, m2, rfl, rfl, rfl, good_var hm2 hv⟩) (fun hv => ?_)
          have hv' : s.var = false := hv
          have hlen : (Tm.encL s.args).length = s.args.length := Tm.encL_length _
          show iff (mhas [.str] [V.s s.name] (encM m2)) ((Tm.encL s.args).length ≤ big → iff ((((mget [.str] [V.i 0] [V.s s.name] (encM m2)).headD V.none).int) != ((Tm.encL s.args).length : Int)) _ ((Tm.encL s.args).length ≤ big → K false (mset [.str] [V.s s.name] [V.i ((Tm.encL s.args).length : Int)] (encM m2)))) ((Tm.encL s.args).length ≤ big → K false (mset [.str] [V.s s.name] [V.i ((Tm.encL s.args).length : Int)] (encM m2)))
          rw [mhas_encM, hlen]
          cases hlk : lookM m2 s.name with
          | none =>
            refine fun _ => ?_
            rw [mset_encM _ _ _ (.inl hlk)]
            exact hK _ _ ⟨ss, _, rfl, rfl, rfl, good_next hm2 hv' (.inl hlk)⟩
          | some w =>
            refine fun _ => ?_
            rw [mget_encM hlk]
            refine iff_bne (fun hne => ⟨⟨trivial, trivial, trivial⟩, hQ2 (good_bad hm2 hv' hlk ?_)⟩) (fun heq _ => ?_)
            · intro h
              apply hne
              show ((w : Nat) : Int) = _
              rw [h]
            · have hw : w = s.args.length := by
                have : ((w : Nat) : Int) = ((s.args.length : Nat) : Int) := heq
                omega
              rw [hw] at hlk
              rw [mset_encM _ _ _ (.inr hlk)]
              exact hK _ _ ⟨ss, _, rfl, rfl, rfl, good_next hm2 hv' (.inr hlk)⟩
      · rintro y q ⟨ss, m2, hr, rfl, rfl, hm2⟩
        have hss : ss = [] := by simpa using hr.symm
        subst hss
        rw [wrap_next j (by unfold big; omega)]
        refine ih1 _ _ _ _ _ _ _ _ _ _ _ _ ⟨rfl, rfl, rfl, rfl, rfl, rfl, rfl, rfl, rfl, rfl, j + 1, m2, rfl, hj2, rfl, by rw [← hrem]; simpa using hm2⟩ ?_
        show ((2 : Int) - ((j + 1 : Nat) : Int)).toNat < ((2 : Int) - (j : Int)).toNat
        omega
    refine iff_dec (fun hlt2 => ?_) (fun hge2 => ?_)
    · refine ⟨by omega, hlt2, ?_⟩
      match j, hg', ih1, side, hlt2 with
      | 0, hg', ih1, side, _ => exact side x.1 (Tm.preL [x.2] ++ Tm.preL (sides (l.drop (k + 1)))) (by omega) hmem.1 (by simpa [Tm.preL, List.append_assoc] using hg') rfl
      | 1, hg', ih1, side, _ => exact side x.2 (Tm.preL [] ++ Tm.preL (sides (l.drop (k + 1)))) (by omega) hmem.2 (by simpa [Tm.preL, List.append_assoc] using hg') rfl
      | j + 2, hg', ih1, side, h => exact absurd h (by omega)
    · have hj2 : j = 2 := by omega
      subst hj2
      exact next m' (by simpa [Tm.preL] using hg')
  · have hkl : k = l.length := by omega
    subst hkl
    rw [List.drop_length] at hg
    obtain ⟨ps, h1, h2, h3, h4⟩ := hg
    have hps : N = ps := by rw [h1]; simp [sides, Tm.preL, nv]
    subst hps
    exact hQ1 h2 m h3 h4
theorem rulesL_zero {l : Ru} (h : rulesL l = 0) : ∀ x ∈ l, x.1.check = 0 ∧ x.2.check = 0 := by
  induction l with
  | nil => intro x hx; simp at hx
  | cons y r ih =>
    intro x hx
    unfold rulesL at h
    by_cases hc : Tm.checkAll [y.1, y.2] = 0
    · rw [if_neg (by simp [hc])] at h
      rcases List.mem_cons.1 hx with rfl | hx
      · have := Tm.checkAll_zero.1 hc
        exact ⟨this _ (by simp), this _ (by simp)⟩
      · exact ih h x hx
    · rw [if_pos hc] at h; exact absurd h hc
theorem rules_zero {l : Ru} (h : rules l = 0) : l.length ≤ 64 ∧ ∀ x ∈ l, x.1.check = 0 ∧ x.2.check = 0 := by
  unfold rules at h
  split at h
  · cases h
  · exact ⟨by omega, rulesL_zero h⟩
open Classical in
noncomputable def sysE (l : Ru) : Int := if rules l ≠ 0 then rules l else if arOk (nodesR l) ∧ (∀ s ∈ nodesR l, markedL s.name.data.toList = false) then (if l.any extraB then 7 else 0) else 6
theorem term_CheckSystem_ok (l : Ru) (hB : ∀ x ∈ l, x.1.size ≤ small ∧ x.2.size ≤ small) : Fn f_term_CheckSystem [ruD l] (iD (sysE l)) := fun Q hQ => by
  refine C_term_CheckSystem _ _ ?_
  unfold vc_term_CheckSystem
  unfold sysE at hQ
  refine term_CheckRules_ok l hB _ ⟨rfl, rfl, iff_bne (fun h => ⟨trivial, ?_⟩) (fun h => ?_)⟩
  · have h' : rules l ≠ 0 := h
    rw [if_pos h'] at hQ; exact hQ
  have hr : rules l = 0 := h
  rw [if_neg (by simp [hr])] at hQ
  obtain ⟨hlen, hck⟩ := rules_zero hr
  have hS : ∀ x ∈ l, x.1.size ≤ 4000 ∧ x.2.size ≤ 4000 := fun x hx => ⟨(Tm.check_zero.1 (hck x hx).1).2.1, (Tm.check_zero.1 (hck x hx).2).2.1⟩
  refine Arities_ok l hS (fun ha m hm hml => ⟨rfl, rfl, ?_⟩) (fun ha => ⟨rfl, rfl, ?_⟩)
  · show iff (!true) _ _
    refine rule_term_CheckSystem_0 Q (fun a y n s => a = encRs l ∧ y = V.l (encM m) ∧ n = m.length ∧ (∀ j ∈ s, j < m.length) ∧ ∀ j ∈ s, markedL ((m.getD j (ByteArray.empty, 0)).1).data.toList = false)
      (fun a y n s => n - s.length) ?_ _ _ _ _ ⟨rfl, rfl, by simp [encM, D.parts, D.V, V.list], by simp, by simp⟩
    rintro a y n s ⟨rfl, rfl, rfl, hsl, hsm⟩ M ih
    have hml' : (encM m).length = m.length := by simp [encM]
    refine ⟨hml', fun hall => ?_, fun j hj hjs hlt => ⟨hml', ?_⟩⟩
    · have hnm : ∀ t ∈ nodesR l, markedL t.name.data.toList = false := fun t ht => by
        obtain ⟨p, hp, e1, _⟩ := hm.2 t ht
        obtain ⟨j, hj, rfl⟩ := List.mem_iff_getElem.1 hp
        have := hsm j (hall j hj)
        rw [List.getD_eq_getElem?_getD, List.getElem?_eq_getElem hj] at this
        rw [← e1]; exact this
      rw [if_pos ⟨ha, hnm⟩] at hQ
      refine ContainsFunc_Rule_ok l hS _ ⟨rfl, rfl, iff_intro (fun hb => ⟨trivial, ?_⟩) (fun hb => ⟨trivial, ?_⟩)⟩
      · have hb' : l.any extraB = true := hb
        rw [if_pos hb'] at hQ; exact hQ
      · have hb' : l.any extraB = false := hb
        rw [if_neg (by simp [hb'])] at hQ; exact hQ
    · have e : (encM m).getD j [] = [V.s (m.getD j (ByteArray.empty, 0)).1, V.i (m.getD j (ByteArray.empty, 0)).2] := by
        unfold encM
        rw [List.getD_eq_getElem?_getD, List.getElem?_map, List.getD_eq_getElem?_getD, List.getElem?_eq_getElem hj]; rfl
      show cl f_term_Marked [.v .str (((encM m).getD j []).headD V.none)] [] _
      rw [e]
      refine term_Marked_ok _ _ ⟨rfl, rfl, iff_intro (fun hb => ⟨trivial, ?_⟩) (fun hb => ?_)⟩
      · have hb' : markedL ((m.getD j (ByteArray.empty, 0)).1).data.toList = true := hb
        have hp : m.getD j (ByteArray.empty, 0) ∈ m := by
          rw [List.getD_eq_getElem?_getD, List.getElem?_eq_getElem hj]; exact List.getElem_mem hj
        obtain ⟨t, ht, e1, _⟩ := hm.1 _ hp
        rw [if_neg (fun h => by have := h.2 t ht; rw [e1, hb'] at this; cases this)] at hQ
        exact hQ
      · refine ih _ _ _ _ ⟨rfl, rfl, rfl, fun i hi => ?_, fun i hi => ?_⟩ ?_
        · rcases List.mem_cons.1 hi with rfl | hi
          · exact hj
          · exact hsl i hi
        · rcases List.mem_cons.1 hi with rfl | hi
          · exact hb
          · exact hsm i hi
        · show m.length - (s.length + 1) < m.length - s.length
          omega
  · show iff (!false) _ _
    rw [if_neg (fun h => ha h.1)] at hQ
    exact ⟨trivial, hQ⟩
end Go.Proofs.YtehchnjnbbnkbaaGreat
set_option linter.unusedVariables false
set_option linter.unusedSimpArgs false
namespace Go.Proofs.YtehchnjnbbnkbaaGreat
open Go Go.Abs
def okS (ps : List Tm) : Prop := arOk ps ∧ ∀ s ∈ ps, markedL s.name.data.toList = false
def sortA (l : Ar) : Prop := l.Pairwise fun p q => cmpN p.1 q.1 = -1
def InvS (ps : List Tm) (l : Ar) : Prop := okS ps ∧ sortA l ∧ InvM ps l ∧ l.length ≤ ps.length
theorem okS_sub {ps qs : List Tm} (h : okS qs) (hs : ∀ s ∈ ps, s ∈ qs) : okS ps := ⟨fun a ha b hb => h.1 a (hs a ha) b (hs b hb), fun a ha => h.2 a (hs a ha)⟩
theorem encM_length (l : Ar) : (encM l).length = l.length := by simp [encM]
theorem encM_getD (l : Ar) (k : Nat) (h : k < l.length) : (encM l).getD k [] = [V.s (l[k]).1, V.i (l[k]).2] := by
  unfold encM
  rw [List.getD_eq_getElem?_getD, List.getElem?_map, List.getElem?_eq_getElem h]; rfl
theorem invS_in {ps : List Tm} {l : Ar} {s : Tm} (h : InvS ps l) (hm : markedL s.name.data.toList = false) {p : ByteArray × Nat} (hp : p ∈ l) (h1 : p.1 = s.name) (h2 : p.2 = s.args.length) : InvS (ps ++ [s]) l := by
  obtain ⟨⟨ha, hk⟩, hs, hi, hl⟩ := h
  obtain ⟨t0, ht0, e1, e2⟩ := hi.1 p hp
  have hcons : ∀ t ∈ ps, t.name = s.name → t.args.length = s.args.length := fun t ht he => by
    rw [ha t ht t0 ht0 (by rw [he, e1, h1]), e2, h2]
  refine ⟨⟨fun a ha1 b hb1 he => ?_, fun a ha1 => ?_⟩, hs, ⟨fun q hq => ?_, fun t ht => ?_⟩, by simp; omega⟩
  · rcases List.mem_append.1 ha1 with ha2 | ha2 <;> rcases List.mem_append.1 hb1 with hb2 | hb2
    · exact ha a ha2 b hb2 he
    · have e2 : b = s := by simpa using hb2
      rw [e2] at he ⊢
      exact hcons a ha2 he
    · have e1 : a = s := by simpa using ha2
      rw [e1] at he ⊢
      exact (hcons b hb2 he.symm).symm
    · have e1 : a = s := by simpa using ha2
      have e2 : b = s := by simpa using hb2
      rw [e1, e2]
  · rcases List.mem_append.1 ha1 with ha2 | ha2
    · exact hk a ha2
    · have e1 : a = s := by simpa using ha2
      rw [e1]; exact hm
  · obtain ⟨t, ht, e⟩ := hi.1 q hq
    exact ⟨t, by simp [ht], e⟩
  · rcases List.mem_append.1 ht with ht | ht
    · exact hi.2 t ht
    · have e1 : t = s := by simpa using ht
      rw [e1]; exact ⟨p, hp, h1, h2⟩
theorem invS_new {ps : List Tm} {l : Ar} {s : Tm} {k : Nat} (h : InvS ps l) (hm : markedL s.name.data.toList = false) (hk : k ≤ l.length) (h1 : ∀ i (hi : i < l.length), i < k → cmpN (l[i]).1 s.name = -1) (h2 : ∀ h : k < l.length, cmpN (l[k]).1 s.name ≠ -1 ∧ (l[k]).1 ≠ s.name) :
    InvS (ps ++ [s]) (l.take k ++ (s.name, s.args.length) :: l.drop k) := by
  obtain ⟨⟨ha, hkk⟩, hs, hi, hl⟩ := h
  have hbef : ∀ p ∈ l.take k, cmpN p.1 s.name = -1 := fun p hp => by
    obtain ⟨i, hi, rfl⟩ := List.mem_iff_getElem.1 hp
    have hlt : i < k ∧ i < l.length := by simp at hi; omega
    rw [List.getElem_take]
    exact h1 i hlt.2 hlt.1
  have haft : ∀ p ∈ l.drop k, cmpN s.name p.1 = -1 := fun p hp => by
    rcases Nat.lt_or_ge k l.length with hlt | hge
    · obtain ⟨g1, g2⟩ := h2 hlt
      have g3 : cmpN s.name (l[k]).1 = -1 := by
        rcases cmpN_cases (l[k]).1 s.name with h | h | h
        · exact absurd h.1 g1
        · exact absurd h.2 g2
        · exact h.2
      rw [List.drop_eq_getElem_cons hlt] at hp
      rcases List.mem_cons.1 hp with rfl | hp
      · exact g3
      · have hd : (l[k] :: l.drop (k + 1)).Pairwise fun p q => cmpN p.1 q.1 = -1 := by
          rw [← List.drop_eq_getElem_cons hlt]; exact hs.drop
        exact cmpN_trans g3 ((List.pairwise_cons.1 hd).1 p hp)
    · rw [List.drop_eq_nil_of_le hge] at hp; cases hp
  have hno : ∀ p ∈ l, p.1 ≠ s.name := fun p hp he => by
    rw [← List.take_append_drop k l] at hp
    rcases List.mem_append.1 hp with hp | hp
    · have := hbef p hp; rw [he, cmpN_self] at this; cases this
    · have := haft p hp; rw [he, cmpN_self] at this; cases this
  have hcons : ∀ t ∈ ps, t.name ≠ s.name := fun t ht he => by
    obtain ⟨p, hp, e1, _⟩ := hi.2 t ht
    exact hno p hp (e1.trans he)
  have hmem : ∀ q, q ∈ l.take k ++ (s.name, s.args.length) :: l.drop k ↔ q ∈ l ∨ q = (s.name, s.args.length) := fun q => by
    have e : q ∈ l ↔ q ∈ l.take k ∨ q ∈ l.drop k := by rw [← List.mem_append, List.take_append_drop]
    rw [List.mem_append, List.mem_cons, e]
    constructor
    · rintro (h | h | h)
      · exact .inl (.inl h)
      · exact .inr h
      · exact .inl (.inr h)
    · rintro ((h | h) | h)
      · exact .inl h
      · exact .inr (.inr h)
      · exact .inr (.inl h)
  refine ⟨⟨fun a ha1 b hb1 he => ?_, fun a ha1 => ?_⟩, ?_, ⟨fun q hq => ?_, fun t ht => ?_⟩, ?_⟩
  · rcases List.mem_append.1 ha1 with ha2 | ha2 <;> rcases List.mem_append.1 hb1 with hb2 | hb2
    · exact ha a ha2 b hb2 he
    · have e2 : b = s := by simpa using hb2
      rw [e2] at he
      exact absurd he (hcons a ha2)
    · have e1 : a = s := by simpa using ha2
      rw [e1] at he
      exact absurd he.symm (hcons b hb2)
    · have e1 : a = s := by simpa using ha2
      have e2 : b = s := by simpa using hb2
      rw [e1, e2]
  · rcases List.mem_append.1 ha1 with ha2 | ha2
    · exact hkk a ha2
    · have e1 : a = s := by simpa using ha2
      rw [e1]; exact hm
  · refine List.pairwise_append.2 ⟨hs.take, List.pairwise_cons.2 ⟨haft, hs.drop⟩, fun a ha b hb => ?_⟩
    rcases List.mem_cons.1 hb with rfl | hb
    · exact hbef a ha
    · exact cmpN_trans (hbef a ha) (haft b hb)
  · rcases (hmem q).1 hq with hq | hq
    · obtain ⟨t, ht, e⟩ := hi.1 q hq
      exact ⟨t, by simp [ht], e⟩
    · rw [hq]; exact ⟨s, by simp, rfl, rfl⟩
  · rcases List.mem_append.1 ht with ht | ht
    · obtain ⟨p, hp, e⟩ := hi.2 t ht
      exact ⟨p, (hmem p).2 (.inl hp), e⟩
    · have e1 : t = s := by simpa using ht
      rw [e1]; exact ⟨_, (hmem _).2 (.inr rfl), rfl, rfl⟩
  · simp; omega
theorem invS_bad {ps : List Tm} {l : Ar} {s : Tm} (h : InvS ps l) {p : ByteArray × Nat} (hp : p ∈ l) (h1 : p.1 = s.name) (h2 : p.2 ≠ s.args.length) : ¬ okS (ps ++ [s]) := fun hk => by
  obtain ⟨t, ht, e1, e2⟩ := h.2.2.1.1 p hp
  exact h2 (by rw [← e2]; exact hk.1 t (by simp [ht]) s (by simp) (by rw [e1, h1]))
theorem nv_append (l r : List Tm) : nv (l ++ r) = nv l ++ nv r := by simp [nv]
theorem nv_pre {t : Tm} (h : t.var = false) : nv t.pre = t :: nv (Tm.preL t.args) := by rw [Tm.pre_eq]; simp [nv, h]
theorem symbols_ok : ∀ (t : Tm) (ps : List Tm) (l : Ar), t.formed = true → t.size + ps.length ≤ 274877906944 → InvS ps l → ∀ {Q : D → Heap → Prop},
    (∀ l' : Ar, InvS (ps ++ nv t.pre) l' → Q (.tup [.v (.sl t_Symbol) (.l (encM l')), bD true]) []) → (¬ okS (ps ++ nv t.pre) → ∀ l' : Ar, Q (.tup [.v (.sl t_Symbol) (.l (encM l')), bD false]) []) →
    cl f_r01_symbols [tD t, .v (.sl t_Symbol) (.l (encM l))] [] Q := by
  refine Tm.ind fun t ih => ?_
  intro ps l hf hsz hI Q hQ1 hQ2
  refine C_r01_symbols _ _ _ _ _ ?_
  unfold vc_r01_symbols
  rw [Tm.formed_eq] at hf
  refine iff_intro (fun hv => ⟨⟨trivial, trivial, trivial⟩, ?_⟩) (fun hv => ?_)
  · rw [hv] at hf
    have ha : t.args = [] := by
      have := (Bool.and_eq_true _ _).mp hf
      simpa using this.2
    have e : nv t.pre = [] := by rw [Tm.pre_eq, ha]; simp [nv, hv, Tm.preL]
    exact hQ1 l (by rw [e, List.append_nil]; exact hI)
  have hnv := nv_pre hv
  rw [hnv] at hQ1 hQ2
  have hfa : ∀ a ∈ t.args, a.formed = true := by
    rw [hv] at hf
    have h1 : t.args.all Tm.formed = true := by
      have := (Bool.and_eq_true _ _).mp hf
      exact this.2
    exact fun a ha => List.all_eq_true.1 h1 a ha
  have hts := Tm.size_eq t
  have hlim : lim = 549755813888 := rfl
  have hbig : big = 9223372036854775807 := rfl
  have hll : l.length ≤ ps.length := hI.2.2.2
  refine r01_Marked_ok t.name _ ⟨rfl, rfl, iff_intro (fun hm => ⟨⟨trivial, trivial, trivial⟩, hQ2 (fun hk => ?_) l⟩) (fun hm => ?_)⟩
  · have h1 := hk.2 t (by simp)
    have h2 : markedL t.name.data.toList = true := hm
    rw [h2] at h1; cases h1
  have hm' : markedL t.name.data.toList = false := hm
  -- the arguments
  have rest : ∀ l' : Ar, InvS (ps ++ [t]) l' → (t.args.length ≤ big → ∃ m1, lp_r01_symbols_1 Q m1 (V.l (encM l')) (Tm.encL t.args) (t.args.length : Int) 0) := fun l' hl' hb => by
    refine range_r01_symbols_1 Q _ _ hb (fun k x1 => ∃ lk : Ar, x1 = V.l (encM lk) ∧ InvS (ps ++ [t] ++ nv (Tm.preL (t.args.take k))) lk) (fun k x1 hk hJ K hK => ?_) (fun x1 hJ => ⟨⟨trivial, trivial, trivial⟩, ?_⟩) 0 _ (Nat.zero_le _) ⟨l', rfl, by simpa [Tm.preL, nv] using hl'⟩
    · obtain ⟨lk, rfl, hlk⟩ := hJ
      have hin := List.getElem_mem hk
      have hst := Tm.sizeL_take t.args k hk
      have hsl := Tm.sizeL_take_le t.args (k + 1)
      have hnl : (nv (Tm.preL (t.args.take k))).length ≤ Tm.sizeL (t.args.take k) := by rw [← preL_length]; exact List.length_filter_le _ _
      rw [Tm.encL_length, Tm.encL_getD t.args k hk, Tm.enc_eq]
      have e : ps ++ [t] ++ nv (Tm.preL (t.args.take (k + 1))) = (ps ++ [t] ++ nv (Tm.preL (t.args.take k))) ++ nv (t.args[k]).pre := by
        rw [List.take_succ_eq_append_getElem hk, preL_append, nv_append]; simp [Tm.preL]
      refine ⟨by omega, by omega, ih _ hin _ lk (hfa _ hin) (by simp only [List.length_append, List.length_singleton]; omega) hlk (fun l2 h2 => ⟨rfl, rfl, ?_⟩) (fun hn l2 => ⟨rfl, rfl, ?_⟩)⟩
      · show iff (!true) _ _
        exact hK _ ⟨l2, rfl, by rw [e]; exact h2⟩
      · show iff (!false) _ _
        refine ⟨⟨trivial, trivial, trivial⟩, hQ2 (fun hk2 => hn (okS_sub hk2 fun s hs => ?_)) lk⟩
        have hd : Tm.preL t.args = Tm.preL (t.args.take (k + 1)) ++ Tm.preL (t.args.drop (k + 1)) := by rw [← preL_append, List.take_append_drop]
        rw [← e] at hs
        rw [hd, nv_append]
        simp only [List.mem_append, List.mem_cons, List.not_mem_nil, or_false] at hs ⊢
        rcases hs with (h | h) | h
        · exact .inl h
        · exact .inr (.inl h)
        · exact .inr (.inr (.inl h))
    · obtain ⟨lk, rfl, hlk⟩ := hJ
      rw [List.take_length] at hlk
      exact hQ1 lk (by simpa [List.append_assoc] using hlk)
  have jp1 : ∀ (l' : Ar) (k : Nat) (hk : k < l'.length), (l'[k]).2 = t.args.length → InvS (ps ++ [t]) l' → jp_r01_symbols_1 Q (encM l') (k : Int) t.name t.var (Tm.encL t.args) := fun l' k hk he hl' => by
    rw [jp_r01_symbols_1_s]
    unfold je_r01_symbols_1
    rw [encM_length, Int.toNat_natCast, encM_getD l' k hk, Tm.encL_length]
    refine ⟨by omega, by omega, iff_bne (fun hne => ?_) (fun _ => rest l' hl')⟩
    exact absurd (by show (((l'[k]).2 : Nat) : Int) = _; rw [he]) hne
  have here : ∀ (k : Nat), k ≤ l.length → (∀ i (hi : i < l.length), i < k → cmpN (l[i]).1 t.name = -1) → (∀ h : k < l.length, cmpN (l[k]).1 t.name ≠ -1) → ∀ flag : Bool, (flag = true ↔ ∀ h : k < l.length, (l[k]).1 ≠ t.name) → jp_r01_symbols_0 Q (encM l) (k : Int) flag t.name t.var (Tm.encL t.args) := fun k hk hJ hne flag hflag => by
    rw [jp_r01_symbols_0_s]
    unfold je_r01_symbols_0
    refine iff_intro (fun hb => ?_) (fun hb => ?_)
    · have h3 := hflag.1 hb
      have t1 : ((encM l).take ((k : Nat) : Int).toNat).drop (0 : Int).toNat = encM (l.take k) := by simp [encM, List.map_take]
      have t2 : ((encM l).take (((encM l).length : Int)).toNat).drop ((k : Nat) : Int).toNat = encM (l.drop k) := by
        rw [Int.toNat_natCast, Int.toNat_natCast, List.take_length]; simp [encM, List.map_drop]
      have l1 : (encM (l.take k)).length = k := by rw [encM_length, List.length_take]; omega
      have l2 : (encM (l.drop k)).length = l.length - k := by rw [encM_length, List.length_drop]
      have l0 := encM_length l
      rw [t1, t2, l1, l2, Tm.encL_length]
      simp only [List.nil_append, List.length_nil, List.length_append, List.length_cons, l1, l2]
      refine ⟨by omega, by omega, by omega, trivial, by omega, by omega, by omega, by omega, by omega, by omega, by omega, by omega, by omega, ?_⟩
      have e2 : encM (l.take k) ++ [[V.s t.name, V.i (t.args.length : Int)]] ++ encM (l.drop k) = encM (l.take k ++ (t.name, t.args.length) :: l.drop k) := by simp [encM]
      rw [e2]
      have hkl : k < (l.take k ++ (t.name, t.args.length) :: l.drop k).length := by simp; omega
      have hgk : (l.take k ++ (t.name, t.args.length) :: l.drop k)[k] = (t.name, t.args.length) := by
        rw [List.getElem_append_right (by simp; omega)]
        simp [Nat.min_eq_left hk]
      exact jp1 _ k hkl (by rw [hgk]) (invS_new hI hm' hk hJ fun h => ⟨hne h, h3 h⟩)
    · have h4 : ∃ h : k < l.length, (l[k]).1 = t.name := by
        rcases Nat.lt_or_ge k l.length with h | h
        · refine ⟨h, ?_⟩
          cases Decidable.em ((l[k]).1 = t.name) with
          | inl h5 => exact h5
          | inr h5 =>
            have := hflag.2 fun _ => h5
            rw [hb] at this; cases this
        · have := hflag.2 fun h' => absurd h' (by omega)
          rw [hb] at this; cases this
      obtain ⟨hkl, hx⟩ := h4
      have hin : l[k] ∈ l := List.getElem_mem hkl
      cases Decidable.em ((l[k]).2 = t.args.length) with
      | inl h5 => exact jp1 l k hkl h5 (invS_in hI hm' hin hx h5)
      | inr h5 =>
        rw [jp_r01_symbols_1_s]
        unfold je_r01_symbols_1
        rw [encM_length, Int.toNat_natCast, encM_getD l k hkl, Tm.encL_length]
        refine ⟨by omega, by omega, iff_bne (fun hne => ⟨⟨trivial, trivial, trivial⟩, hQ2 (fun hk2 => invS_bad hI hin hx h5 (okS_sub hk2 fun s hs => ?_)) l⟩) (fun he => ?_)⟩
        · simp only [List.mem_append, List.mem_cons, List.not_mem_nil, or_false] at hs ⊢
          rcases hs with h | h
          · exact .inl h
          · exact .inr (.inl h)
        · have : (((l[k]).2 : Nat) : Int) = ((t.args.length : Nat) : Int) := he
          omega
  refine rule_r01_symbols_0 Q (fun x1 x6 y0 y1 y2 => x1 = encM l ∧ y0 = t.name ∧ y1 = t.var ∧ y2 = Tm.encL t.args ∧ ∃ k : Nat, x6 = k ∧ k ≤ l.length ∧ ∀ i (hi : i < l.length), i < k → cmpN (l[i]).1 t.name = -1) (fun x1 x6 y0 y1 y2 => l.length - x6.toNat) ?_ _ _ _ _ _ ⟨rfl, rfl, rfl, rfl, 0, rfl, Nat.zero_le _, fun i _ h => by omega⟩
  rintro x1 x6 y0 y1 y2 ⟨rfl, rfl, rfl, rfl, k, rfl, hk, hJ⟩ M ih0
  unfold st_r01_symbols_0
  rw [encM_length, Int.toNat_natCast]
  have stop : (∀ h : k < l.length, cmpN (l[k]).1 t.name ≠ -1) → iff (((k : Nat) : Int) == (l.length : Int)) (jp_r01_symbols_0 Q (encM l) (k : Int) true t.name t.var (Tm.encL t.args)) (0 ≤ (k : Int) ∧ (k : Int) < (l.length : Int) ∧ jp_r01_symbols_0 Q (encM l) (k : Int) (!(((((encM l).getD k []).drop 0).headD V.none).str).toList == t.name.toList) t.name t.var (Tm.encL t.args)) := fun hne => by
    refine iff_beq (fun he => here k hk hJ hne true ⟨fun _ h => by omega, fun _ => rfl⟩) (fun he => ?_)
    have hkl : k < l.length := by
      rcases Nat.lt_or_ge k l.length with h | h
      · exact h
      · exact absurd (by omega : ((k : Nat) : Int) = (l.length : Int)) he
    refine ⟨by omega, by omega, here k hk hJ hne _ ?_⟩
    rw [encM_getD l k hkl]
    show (!((l[k]).1.toList == t.name.toList)) = true ↔ _
    rw [ba_beq]
    simp only [Bool.not_eq_true', decide_eq_false_iff_not]
    exact ⟨fun h _ => h, fun h => h hkl⟩
  refine iff_dec (fun hlt => ?_) (fun hge => stop fun h => by omega)
  have hkl : k < l.length := by omega
  rw [encM_getD l k hkl]
  refine ⟨by omega, by omega, r01_CompareNames_ok _ _ _ ⟨rfl, rfl, iff_dec (fun h2 => ?_) (fun h2 => ?_)⟩⟩
  · have h2' : cmpN (l[k]).1 t.name < 0 := h2
    have hm2 : cmpN (l[k]).1 t.name = -1 := by rcases cmpN_cases (l[k]).1 t.name with h | h | h <;> omega
    rw [wrap_next k (by omega)]
    refine ih0 _ _ _ _ _ ⟨rfl, rfl, rfl, rfl, k + 1, rfl, hkl, fun i hi hik => ?_⟩ ?_
    · rcases Nat.lt_succ_iff_lt_or_eq.1 hik with h | h
      · exact hJ i hi h
      · subst h; exact hm2
    · show l.length - ((k + 1 : Nat) : Int).toNat < l.length - ((k : Nat) : Int).toNat
      rw [Int.toNat_natCast, Int.toNat_natCast]; omega
  · have h2' : ¬ cmpN (l[k]).1 t.name < 0 := h2
    have := stop fun _ he => h2' (by omega)
    rw [encM_getD l k hkl] at this
    exact this
end Go.Proofs.YtehchnjnbbnkbaaGreat
set_option linter.unusedVariables false
set_option linter.unusedSimpArgs false
namespace Go.Proofs.YtehchnjnbbnkbaaGreat
open Go Go.Abs
def cnt (l : List Tm) (v : ByteArray) : Nat := (l.filter fun s => s.var && decide (s.name = v)).length
theorem cnt_append (l r : List Tm) (v : ByteArray) : cnt (l ++ r) v = cnt l v + cnt r v := by simp [cnt]
theorem cnt_le (l : List Tm) (v : ByteArray) : cnt l v ≤ l.length := List.length_filter_le _ _
theorem cnt_zero {l : List Tm} {v : ByteArray} : cnt l v = 0 ↔ v ∉ varsIn l := by
  unfold cnt varsIn
  rw [List.length_eq_zero_iff, List.filter_eq_nil_iff]
  constructor
  · intro h hm
    obtain ⟨s, hs, rfl⟩ := List.mem_map.1 hm
    obtain ⟨h1, h2⟩ := List.mem_filter.1 hs
    exact h s h1 (by simp [h2])
  · intro h s hs hv
    obtain ⟨h1, h2⟩ : s.var = true ∧ s.name = v := by simpa using hv
    exact h (List.mem_map.2 ⟨s, List.mem_filter.2 ⟨hs, h1⟩, h2⟩)
theorem r01_Count_ok (v : ByteArray) : ∀ t : Tm, t.size ≤ small → Fn f_r01_Count [tD t, sD v] (iD (cnt t.pre v)) := by
  refine Tm.ind fun t ih hB Q hQ => ?_
  refine C_r01_Count _ _ _ _ _ ?_
  unfold vc_r01_Count
  have hts := Tm.size_eq t
  have hsm : small = 1152921504606846976 := rfl
  have go : ∀ c0 : Nat, cnt t.pre v = c0 + cnt (Tm.preL t.args) v → jp_r01_Count_0 Q v (c0 : Int) t.name t.var (Tm.encL t.args) := fun c0 hc0 => by
    rw [jp_r01_Count_0_s]
    unfold je_r01_Count_0
    intro hb
    have hl := Tm.encL_length t.args
    rw [hl] at hb ⊢
    refine range_r01_Count_0 Q _ _ _ hb (fun k x5 => x5 = ((c0 + cnt (Tm.preL (t.args.take k)) v : Nat) : Int)) (fun k x5 hk hJ K hK => ?_) (fun x5 hJ => ?_) 0 _ (Nat.zero_le _) (by simp [Tm.preL, cnt])
    · have hin := List.getElem_mem hk
      have hst := Tm.size_mem hin
      rw [hJ, hl, Tm.encL_getD _ k hk, Tm.enc_eq]
      refine ⟨by omega, by omega, ih _ hin (by omega) _ ⟨rfl, rfl, hK _ ?_⟩⟩
      have e : cnt (Tm.preL (t.args.take (k + 1))) v = cnt (Tm.preL (t.args.take k)) v + cnt (t.args[k]).pre v := by
        rw [List.take_succ_eq_append_getElem hk, preL_append, cnt_append]; simp [Tm.preL]
      have h1 := cnt_le (Tm.preL (t.args.take (k + 1))) v
      rw [preL_length] at h1
      have h2 := Tm.sizeL_take_le t.args (k + 1)
      have h3 : c0 + cnt (Tm.preL t.args) v ≤ t.size := by rw [← hc0, ← pre_length]; exact cnt_le _ _
      have h4 : cnt (Tm.preL t.args) v = cnt (Tm.preL (t.args.take (k + 1))) v + cnt (Tm.preL (t.args.drop (k + 1))) v := by
        rw [← cnt_append, ← preL_append, List.take_append_drop]
      show IntKind.i64.wrap (((c0 + cnt (Tm.preL (t.args.take k)) v : Nat) : Int) + ((cnt (t.args[k]).pre v : Nat) : Int)) = _
      rw [wrap_in _ (by omega) (by omega), e]
      omega
    · rw [List.take_length] at hJ
      rw [hJ, ← hc0]
      exact ⟨trivial, hQ⟩
  have hp : cnt t.pre v = cnt [t] v + cnt (Tm.preL t.args) v := by rw [Tm.pre_eq, ← cnt_append]; rfl
  refine iff_intro (fun hv => ?_) (fun hv => go 0 (by rw [hp]; simp [cnt, hv]))
  rw [ba_beq]
  refine iff_dec (fun he => go 1 (by rw [hp]; simp [cnt, hv, he])) (fun he => go 0 (by rw [hp]; simp [cnt, hv, he]))
theorem insN_mem2 {l : List ByteArray} {s x : ByteArray} : x ∈ insN l s ↔ x = s ∨ x ∈ l := by
  induction l with
  | nil => simp [insN]
  | cons y r ih =>
    unfold insN
    split
    · rw [List.mem_cons, ih, List.mem_cons]
      constructor
      · rintro (h | h | h)
        · exact .inr (.inl h)
        · exact .inl h
        · exact .inr (.inr h)
      · rintro (h | h | h)
        · exact .inr (.inl h)
        · exact .inl h
        · exact .inr (.inr h)
    · split
      · rename_i h
        constructor
        · exact .inr
        · rintro (rfl | h)
          · rw [h]; simp
          · exact h
      · simp
theorem mem_collect {x : ByteArray} : ∀ (t : Tm) (l : List ByteArray), x ∈ Tm.collect t l ↔ x ∈ l ∨ x ∈ varsIn t.pre := by
  refine Tm.ind fun t ih l => ?_
  have hL : ∀ (a : List Tm), (∀ t ∈ a, ∀ l, x ∈ Tm.collect t l ↔ x ∈ l ∨ x ∈ varsIn t.pre) → ∀ l, x ∈ Tm.collectL a l ↔ x ∈ l ∨ x ∈ varsIn (Tm.preL a) := by
    intro a
    induction a with
    | nil => intro _ l; simp [Tm.collectL, Tm.preL, varsIn]
    | cons t r ihr =>
      intro h l
      rw [Tm.collectL, ihr (fun t ht => h t (List.mem_cons_of_mem _ ht)), h t (by simp)]
      simp only [Tm.preL, varsIn_append, List.mem_append]
      rw [or_assoc]
  rw [Tm.collect_eq, hL t.args ih, Tm.pre_eq]
  have e : varsIn (t :: Tm.preL t.args) = varsIn [t] ++ varsIn (Tm.preL t.args) := varsIn_append [t] _
  rw [e, List.mem_append]
  cases hv : t.var with
  | true =>
    have : varsIn [t] = [t.name] := by simp [varsIn, hv]
    rw [this, if_pos rfl, insN_mem2]
    simp only [List.mem_singleton]
    constructor
    · rintro ((h | h) | h)
      · exact .inr (.inl h)
      · exact .inl h
      · exact .inr (.inr h)
    · rintro (h | h | h)
      · exact .inl (.inr h)
      · exact .inl (.inl h)
      · exact .inr h
  | false =>
    have : varsIn [t] = [] := by simp [varsIn, hv]
    rw [this]; simp
theorem mem_vars1 {x : ByteArray} (t : Tm) : x ∈ Tm.vars [t] ↔ x ∈ varsIn t.pre := by
  show x ∈ Tm.collectL [t] [] ↔ _
  rw [show Tm.collectL [t] [] = Tm.collect t [] from rfl, mem_collect]; simp
theorem r01_Within_ok (a b : Tm) (hB : a.size ≤ 4000 ∧ b.size ≤ 4000) : Fn f_r01_Within [tD a, tD b] (bD ((varsIn a.pre).all fun v => hasN (varsIn b.pre) v)) := fun Q hQ => by
  refine C_r01_Within _ _ _ _ _ _ _ ?_
  unfold vc_r01_Within
  rw [show [[V.s a.name, V.b a.var, V.l (Tm.encL a.args)]] = Tm.encL [a] by simp [Tm.encL, Tm.enc_eq]]
  refine r01_Vars_ok [a] (by simp [Tm.sizeL, lim]; omega) _ ⟨rfl, rfl, fun hb => ?_⟩
  have hl : ((nsD (Tm.vars [a])).V.list).length = (Tm.vars [a]).length := encN_length _
  have hres : ∀ bb : Bool, (bb = true ↔ ∀ v ∈ Tm.vars [a], v ∈ varsIn b.pre) → Q (bD bb) [] := fun bb hbb => by
    have : bb = (varsIn a.pre).all fun v => hasN (varsIn b.pre) v := by
      rw [Bool.eq_iff_iff, hbb, List.all_eq_true]
      simp only [mem_vars1, hasN_iff]
    rw [this]; exact hQ
  rw [hl] at hb ⊢
  refine range_r01_Within_0 Q _ _ _ _ _ hb (fun k => ∀ v ∈ (Tm.vars [a]).take k, v ∈ varsIn b.pre) (fun k hk hJ K hK => ?_) (fun hJ => ⟨trivial, hres true ⟨fun _ => by rw [List.take_length] at hJ; exact hJ, fun _ => rfl⟩⟩) 0 (Nat.zero_le _) (by simp)
  have hg : ((nsD (Tm.vars [a])).V.list).getD k [] = [.s (Tm.vars [a])[k]] := encN_getD _ k hk
  rw [hl, hg]
  refine ⟨by omega, by omega, r01_Count_ok (Tm.vars [a])[k] b (by unfold small; omega) _ ⟨rfl, rfl, iff_beq (fun h => ⟨trivial, hres false ⟨fun h => Bool.noConfusion h, fun h2 => ?_⟩⟩) (fun h => hK fun v hv => ?_)⟩⟩
  · have h0 : cnt b.pre (Tm.vars [a])[k] = 0 := by
      have : ((cnt b.pre (Tm.vars [a])[k] : Nat) : Int) = 0 := h
      omega
    exact absurd (h2 _ (List.getElem_mem hk)) (cnt_zero.1 h0)
  · rw [List.take_succ_eq_append_getElem hk] at hv
    rcases List.mem_append.1 hv with hv | hv
    · exact hJ v hv
    · have e : v = (Tm.vars [a])[k] := by simpa using hv
      rw [e]
      cases Decidable.em (cnt b.pre (Tm.vars [a])[k] = 0) with
      | inl h0 => exact absurd (by show ((cnt b.pre (Tm.vars [a])[k] : Nat) : Int) = 0; rw [h0]; rfl) h
      | inr h0 =>
        cases hh : hasN (varsIn b.pre) (Tm.vars [a])[k] with
        | true => exact hasN_iff.1 hh
        | false => exact absurd (cnt_zero.2 (hasN_false.1 hh)) h0
end Go.Proofs.YtehchnjnbbnkbaaGreat
set_option linter.unusedVariables false
set_option linter.unusedSimpArgs false
namespace Go.Proofs.YtehchnjnbbnkbaaGreat
open Go Go.Abs
theorem sides_append (l r : Ru) : sides (l ++ r) = sides l ++ sides r := by unfold sides; exact List.flatMap_append
theorem sides_split (l : Ru) (k : Nat) : sides l = sides (l.take k) ++ sides (l.drop k) := by rw [← sides_append, List.take_append_drop]
theorem Symbols_ok (l : Ru) (hf : ∀ x ∈ l, x.1.formed = true ∧ x.2.formed = true) (hB : Tm.sizeL (sides l) ≤ 137438953472) {Q : D → Heap → Prop} (hQ1 : ∀ l' : Ar, InvS (nodesR l) l' → Q (.tup [.v (.sl t_Symbol) (.l (encM l')), bD true]) [])
    (hQ2 : ¬ okS (nodesR l) → Q (.tup [.v (.sl t_Symbol) (.l []), bD false]) []) : cl f_r01_Symbols [ruD l] [] Q := by
  refine ACalls.as ?_
  refine C_r01_Symbols _ _ fun hb => ?_
  have hl := encRs_length l
  rw [hl] at hb ⊢
  have hsub : ∀ k, Tm.sizeL (sides (l.take k)) ≤ Tm.sizeL (sides l) := fun k => by
    rw [sides_split l k, Tm.sizeL_append]; omega
  have hnv : ∀ r : List Tm, (nv (Tm.preL r)).length ≤ Tm.sizeL r := fun r => by rw [← preL_length]; exact List.length_filter_le _ _
  refine range_r01_Symbols_0 _ _ _ hb (fun k x4 => ∃ lk : Ar, x4 = V.l (encM lk) ∧ InvS (nodesR (l.take k)) lk) (fun k x4 hk hJ M hM => ?_) (fun x4 hJ => ⟨⟨trivial, trivial, trivial⟩, ?_⟩) 0 _ (Nat.zero_le _)
    ⟨[], rfl, ⟨⟨fun s hs => by simp [nodesR, sides, Tm.preL, nv] at hs, fun s hs => by simp [nodesR, sides, Tm.preL, nv] at hs⟩, List.Pairwise.nil, ⟨by simp, fun s hs => by simp [nodesR, sides, Tm.preL, nv] at hs⟩, by simp⟩⟩
  · obtain ⟨lk, rfl, hlk⟩ := hJ
    have hin := List.getElem_mem hk
    simp only [encRs_getD _ k hk, List.drop_zero, List.headD_cons, List.tail_cons]
    refine ⟨by omega, by rw [hl]; omega, fun _ => ?_⟩
    rw [show [[V.s (l[k]).1.name, V.b (l[k]).1.var, V.l (Tm.encL (l[k]).1.args)], [V.s (l[k]).2.name, V.b (l[k]).2.var, V.l (Tm.encL (l[k]).2.args)]] = Tm.encL [(l[k]).1, (l[k]).2] by simp [Tm.encL, Tm.enc_eq]]
    rw [show ((Tm.encL [(l[k]).1, (l[k]).2]).length : Int) = ((2 : Nat) : Int) by rw [Tm.encL_length]; rfl]
    have hS : sides (l.take (k + 1)) = sides (l.take k) ++ [(l[k]).1, (l[k]).2] := by
      rw [List.take_succ_eq_append_getElem hk, sides_append]; rfl
    have hSl := hsub (k + 1)
    rw [hS, Tm.sizeL_append] at hSl
    have hN : nodesR (l.take (k + 1)) = nodesR (l.take k) ++ nv (Tm.preL [(l[k]).1, (l[k]).2]) := by
      unfold nodesR; rw [hS, preL_append, nv_append]
    have hAll : ∀ s ∈ nodesR (l.take (k + 1)), s ∈ nodesR l := fun s hs => by
      have := sides_split l (k + 1)
      unfold nodesR at hs ⊢
      rw [this, preL_append, nv_append]
      exact List.mem_append_left _ hs
    have hff := hf _ hin
    generalize hx : l[k] = x at *
    refine range_r01_Symbols_1 _ M _ _ _ _ _ (by unfold big; omega) (fun j x4 => ∃ lj : Ar, x4 = V.l (encM lj) ∧ InvS (nodesR (l.take k) ++ nv (Tm.preL ([x.1, x.2].take j))) lj) (fun j x4 hj hJ2 K hK => ?_) (fun x4 hJ2 => ?_) 0 _ (Nat.zero_le _) ⟨lk, rfl, by simpa [Tm.preL, nv] using hlk⟩
    · obtain ⟨lj, rfl, hlj⟩ := hJ2
      have hj' : j < [x.1, x.2].length := hj
      rw [Tm.encL_length, Tm.encL_getD _ j hj', Tm.enc_eq]
      have hm2 : [x.1, x.2][j] ∈ [x.1, x.2] := List.getElem_mem hj'
      have hfj : ([x.1, x.2][j]).formed = true := by
        rcases List.mem_cons.1 hm2 with h | h
        · rw [h]; exact hff.1
        · have : [x.1, x.2][j] = x.2 := by simpa using h
          rw [this]; exact hff.2
      have h1 := hnv (sides (l.take k))
      have h2 := hnv ([x.1, x.2].take j)
      have h3 := Tm.sizeL_take [x.1, x.2] j hj'
      have h4 := Tm.sizeL_take_le [x.1, x.2] (j + 1)
      have e : nodesR (l.take k) ++ nv (Tm.preL ([x.1, x.2].take (j + 1))) = (nodesR (l.take k) ++ nv (Tm.preL ([x.1, x.2].take j))) ++ nv ([x.1, x.2][j]).pre := by
        rw [List.take_succ_eq_append_getElem hj', preL_append, nv_append]; simp [Tm.preL]
      refine ⟨by omega, by omega, symbols_ok _ _ lj hfj (by simp only [List.length_append]; unfold nodesR; omega) hlj (fun l2 h2 => ⟨rfl, rfl, ?_⟩) (fun hn l2 => ⟨rfl, rfl, ?_⟩)⟩
      · show iff (!true) _ _
        exact hK _ ⟨l2, rfl, by rw [e]; exact h2⟩
      · show iff (!false) _ _
        refine ⟨⟨trivial, trivial, trivial⟩, _, As.pair (.nil _ _ rfl) (.refl _), hQ2 fun hk2 => hn (okS_sub hk2 fun s hs => hAll s ?_)⟩
        rw [hN]
        rw [← e] at hs
        rcases List.mem_append.1 hs with h | h
        · exact List.mem_append_left _ h
        · refine List.mem_append_right _ ?_
          have hd : Tm.preL [x.1, x.2] = Tm.preL ([x.1, x.2].take (j + 1)) ++ Tm.preL ([x.1, x.2].drop (j + 1)) := by rw [← preL_append, List.take_append_drop]
          rw [hd, nv_append]
          exact List.mem_append_left _ h
    · obtain ⟨lj, rfl, hlj⟩ := hJ2
      exact hM _ ⟨lj, rfl, by rw [hN]; exact hlj⟩
  · obtain ⟨lk, rfl, hlk⟩ := hJ
    rw [List.take_length] at hlk
    exact ⟨_, .refl _, hQ1 lk hlk⟩
theorem sizeL_sides {l : Ru} (h : ∀ x ∈ l, x.1.size ≤ 4000 ∧ x.2.size ≤ 4000) : Tm.sizeL (sides l) ≤ 8000 * l.length := by
  induction l with
  | nil => simp [sides, Tm.sizeL]
  | cons x r ih =>
    have h1 := h x (by simp)
    have h2 := ih fun y hy => h y (List.mem_cons_of_mem _ hy)
    rw [sides_cons]
    simp only [Tm.sizeL, List.length_cons]
    omega
theorem r01_CheckSystem_ok (l : Ru) (hB : ∀ x ∈ l, x.1.size ≤ small ∧ x.2.size ≤ small) : Fn f_r01_CheckSystem [ruD l] (iD (sysE l)) := fun Q hQ => by
  refine C_r01_CheckSystem _ _ ?_
  unfold vc_r01_CheckSystem
  unfold sysE at hQ
  refine r01_Rules_ok l hB _ ⟨rfl, rfl, iff_bne (fun h => ⟨trivial, ?_⟩) (fun h => ?_)⟩
  · have h' : rules l ≠ 0 := h
    rw [if_pos h'] at hQ; exact hQ
  have hr : rules l = 0 := h
  rw [if_neg (by simp [hr])] at hQ
  obtain ⟨hlen, hck⟩ := rules_zero hr
  have hS : ∀ x ∈ l, x.1.size ≤ 4000 ∧ x.2.size ≤ 4000 := fun x hx => ⟨(Tm.check_zero.1 (hck x hx).1).2.1, (Tm.check_zero.1 (hck x hx).2).2.1⟩
  have hF : ∀ x ∈ l, x.1.formed = true ∧ x.2.formed = true := fun x hx => ⟨(Tm.check_zero.1 (hck x hx).1).1, (Tm.check_zero.1 (hck x hx).2).1⟩
  have hsz := sizeL_sides hS
  refine Symbols_ok l hF (by omega) (fun l' hl' => ⟨rfl, rfl, ?_⟩) (fun hn => ⟨rfl, rfl, ?_⟩)
  · show iff (!true) _ _
    intro hb
    have hok : arOk (nodesR l) ∧ ∀ s ∈ nodesR l, markedL s.name.data.toList = false := hl'.1
    rw [if_pos hok] at hQ
    have hl := encRs_length l
    rw [hl] at hb ⊢
    refine range_r01_CheckSystem_0 Q _ _ hb (fun k => (l.take k).any extraB = false) (fun k hk hJ K hK => ?_) (fun hJ => ⟨trivial, ?_⟩) 0 (Nat.zero_le _) rfl
    · have hin := List.getElem_mem hk
      have hs := hS _ hin
      simp only [encRs_getD _ k hk, List.drop_zero, List.headD_cons, List.tail_cons]
      have bad : extraB l[k] = true → Q (iD 7) [] := fun he => by
        have : l.any extraB = true := List.any_eq_true.2 ⟨_, hin, he⟩
        rw [if_pos this] at hQ; exact hQ
      refine ⟨by omega, by rw [hl]; omega, iff_intro (fun hv => ⟨trivial, bad ?_⟩) (fun hv => r01_Within_ok (l[k]).2 (l[k]).1 ⟨hs.2, hs.1⟩ _ ⟨rfl, rfl, ?_⟩)⟩
      · have hv' : (l[k]).1.var = true := hv
        unfold extraB; rw [hv']; rfl
      · have hv' : (l[k]).1.var = false := hv
        have e : extraB l[k] = !((varsIn (l[k]).2.pre).all fun v => hasN (varsIn (l[k]).1.pre) v) := by
          unfold extraB; rw [hv', Bool.false_or, List.all_eq_not_any_not, Bool.not_not]
        refine iff_intro (fun h => ⟨trivial, bad ?_⟩) (fun h => hK (any_take hk hJ ?_))
        · rw [e]; exact h
        · rw [e]; exact h
    · rw [List.take_length] at hJ
      rw [if_neg (by simp [hJ])] at hQ
      exact hQ
  · show iff (!false) _ _
    have hn' : ¬ (arOk (nodesR l) ∧ ∀ s ∈ nodesR l, markedL s.name.data.toList = false) := hn
    rw [if_neg hn'] at hQ
    exact ⟨trivial, hQ⟩
end Go.Proofs.YtehchnjnbbnkbaaGreat
set_option linter.unusedVariables false
set_option linter.unusedSimpArgs false
namespace Go.Proofs.YtehchnjnbbnkbaaGreat
open Go.Abs
def encP (p : List Int) : List (List V) := p.map fun i => [.i i]
abbrev psD (p : List Int) : D := .v (.sl t_int) (.l (encP p))
theorem encP_length (p : List Int) : (encP p).length = p.length := by simp [encP]
theorem encP_getD (p : List Int) (k : Nat) (h : k < p.length) : (encP p).getD k [] = [.i p[k]] := by
  rw [encP, List.getD_eq_getElem?_getD, List.getElem?_map, List.getElem?_eq_getElem h]; rfl
namespace Tm
def dflt : Tm := mk bz false []
def at_ : Tm → List Int → Option Tm
  | t, [] => some t
  | t, i :: p => if i < 0 then none else if i ≥ (t.args.length : Int) then none else at_ (t.args.getD i.toNat dflt) p
def put : Tm → List Int → Tm → Tm
  | _, [], u => u
  | t, i :: p, u => mk t.name false (t.args.set i.toNat (put (t.args.getD i.toNat dflt) p u))
end Tm
def opD : Option Tm → D
  | none => .tup [tD Tm.dflt, bD false]
  | some t => .tup [tD t, bD true]
end Go.Proofs.YtehchnjnbbnkbaaGreat
set_option linter.unusedVariables false
set_option linter.unusedSimpArgs false
namespace Go.Proofs.YtehchnjnbbnkbaaGreat
open Go.Abs
inductive Gt (r : ByteArray → Int) : Tm → Tm → Prop
  | arg (s t : Tm) : s.var = false → t ∈ s.args → Gt r s t
  | sub (s t a : Tm) : s.var = false → a ∈ s.args → Gt r a t → Gt r s t
  | prec (s t : Tm) : s.var = false → t.var = false → r t.name < r s.name → (∀ b ∈ t.args, Gt r s b) → Gt r s t
  | lex (s t a b : Tm) (i : Nat) : s.var = false → t.var = false → s.name = t.name → s.args.length = t.args.length → (∀ b ∈ t.args, Gt r s b) →
      s.args.take i = t.args.take i → s.args[i]? = some a → t.args[i]? = some b → Gt r a b → Gt r s t
namespace Gt
variable {r : ByteArray → Int}
theorem nonvar {s t : Tm} (h : Gt r s t) : s.var = false := by cases h <;> assumption
theorem size_get {l : List Tm} {i : Nat} {a : Tm} {t : Tm} (e : l = t.args) (h : l[i]? = some a) : a.size < t.size := by
  subst e; exact Tm.size_mem (List.mem_of_getElem? h)
theorem trans_aux : ∀ (n : Nat) (s t u : Tm), s.size + t.size + u.size ≤ n → Gt r s t → Gt r t u → Gt r s u := by
  intro n
  induction n with
  | zero => intro s t u h; have := Tm.size_pos s; omega
  | succ n ih =>
    intro s t u hn hst htu
    -- what is greater than t by rank
    have main : s.var = false → t.var = false → (∀ b ∈ t.args, Gt r s b) → (r t.name < r s.name ∨ (s.name = t.name ∧ s.args.length = t.args.length ∧ ∃ (i : Nat) (a b : Tm), s.args.take i = t.args.take i ∧ s.args[i]? = some a ∧ t.args[i]? = some b ∧ Gt r a b)) → Gt r s u := by
      intro hs ht hb hcase
      have low : u.var = false → (∀ c ∈ u.args, Gt r t c) → ∀ c ∈ u.args, Gt r s c := fun hu hc c hcm =>
        ih s t c (by have := Tm.size_mem hcm; omega) hst (hc c hcm)
      cases htu with
      | arg _ _ _ hu => exact hb _ hu
      | sub _ _ b _ hbm hbu => exact ih s b u (by have := Tm.size_mem hbm; omega) (hb _ hbm) hbu
      | prec _ _ _ hu hr hc =>
        refine .prec s u hs hu ?_ (low hu hc)
        rcases hcase with h | ⟨h, _⟩
        · omega
        · rw [h]; exact hr
      | lex _ _ a' b' j _ hu hnm hlen hc htk ha' hb' hgt =>
        rcases hcase with h | ⟨h1, h2, i, a, b, h3, h4, h5, h6⟩
        · exact .prec s u hs hu (by rw [← hnm]; exact h) (low hu hc)
        · rcases Nat.lt_trichotomy i j with hij | rfl | hij
          · refine .lex s u a b i hs hu (h1.trans hnm) (h2.trans hlen) (low hu hc) ?_ h4 ?_ h6
            · rw [h3]
              have := congrArg (List.take i) htk
              rwa [List.take_take, List.take_take, Nat.min_eq_left (by omega)] at this
            · have := congrArg (·[i]?) htk
              simp only [List.getElem?_take, if_pos hij] at this
              rw [← this]; exact h5
          · rw [h5] at ha'
            obtain rfl := Option.some.inj ha'
            refine .lex s u a b' i hs hu (h1.trans hnm) (h2.trans hlen) (low hu hc) (h3.trans htk) h4 hb' ?_
            have k1 := size_get rfl h4
            have k2 := size_get rfl h5
            have k3 := size_get rfl hb'
            exact ih a b b' (by omega) h6 hgt
          · refine .lex s u a' b' j hs hu (h1.trans hnm) (h2.trans hlen) (low hu hc) ?_ ?_ hb' hgt
            · rw [← htk]
              have := congrArg (List.take j) h3
              rwa [List.take_take, List.take_take, Nat.min_eq_left (by omega)] at this
            · have := congrArg (·[j]?) h3
              simp only [List.getElem?_take, if_pos hij] at this
              rw [this]; exact ha'
    cases hst with
    | arg _ _ hs hm => exact .sub s u t hs hm htu
    | sub _ _ a hs hm hat => exact .sub s u a hs hm (ih a t u (by have := Tm.size_mem hm; omega) hat htu)
    | prec _ _ hs ht hr hb => exact main hs ht hb (.inl hr)
    | lex _ _ a b i hs ht hnm hlen hb htk h4 h5 h6 => exact main hs ht hb (.inr ⟨hnm, hlen, i, a, b, htk, h4, h5, h6⟩)
theorem trans {s t u : Tm} (h : Gt r s t) (h' : Gt r t u) : Gt r s u := trans_aux _ s t u (Nat.le_refl _) h h'
theorem irrefl (s : Tm) : ¬ Gt r s s := Tm.ind (p := fun s => ¬ Gt r s s) (fun s ih h => by
  cases h with
  | arg _ _ _ hm => have := Tm.size_mem hm; omega
  | sub _ _ a hs hm has => exact ih a hm (trans has (.arg s a hs hm))
  | prec _ _ _ _ hr _ => omega
  | lex _ _ a b i _ _ _ _ _ _ h1 h2 h3 =>
    rw [h1] at h2
    obtain rfl := Option.some.inj h2
    exact ih a (List.mem_of_getElem? h1) h3) s
theorem asymm {s t : Tm} (h : Gt r s t) : ¬ Gt r t s := fun h' => irrefl s (h.trans h')
theorem unfold_iff (s t : Tm) : Gt r s t ↔ s.var = false ∧ ((∃ a ∈ s.args, a = t ∨ Gt r a t) ∨ (t.var = false ∧ (∀ b ∈ t.args, Gt r s b) ∧
    (r t.name < r s.name ∨ (s.name = t.name ∧ s.args.length = t.args.length ∧ ∃ (i : Nat) (a b : Tm), s.args.take i = t.args.take i ∧ s.args[i]? = some a ∧ t.args[i]? = some b ∧ Gt r a b)))) := by
  constructor
  · intro h
    cases h with
    | arg _ _ hs hm => exact ⟨hs, .inl ⟨t, hm, .inl rfl⟩⟩
    | sub _ _ a hs hm hat => exact ⟨hs, .inl ⟨a, hm, .inr hat⟩⟩
    | prec _ _ hs ht hr hb => exact ⟨hs, .inr ⟨ht, hb, .inl hr⟩⟩
    | lex _ _ a b i hs ht hnm hlen hb htk h4 h5 h6 => exact ⟨hs, .inr ⟨ht, hb, .inr ⟨hnm, hlen, i, a, b, htk, h4, h5, h6⟩⟩⟩
  · rintro ⟨hs, ⟨a, hm, rfl | h⟩ | ⟨ht, hb, hr | ⟨hnm, hlen, i, a, b, htk, h4, h5, h6⟩⟩⟩
    · exact .arg _ _ hs hm
    · exact .sub _ _ a hs hm h
    · exact .prec _ _ hs ht hr hb
    · exact .lex _ _ a b i hs ht hnm hlen hb htk h4 h5 h6
end Gt
end Go.Proofs.YtehchnjnbbnkbaaGreat
set_option linter.unusedVariables false
set_option linter.unusedSimpArgs false
namespace Go.Proofs.YtehchnjnbbnkbaaGreat
open Go.Abs
structure Rk where
  name : ByteArray
  rank : Int
  weight : Int
abbrev Rks := List Rk
def encRk (x : Rk) : List V := [.s x.name, .i x.rank, .i x.weight]
def encRks (l : Rks) : List (List V) := l.map encRk
abbrev rkD (x : Rk) : D := .agg [sD x.name, iD x.rank, iD x.weight]
abbrev rksD (l : Rks) : D := .v (.sl t_Rank) (.l (encRks l))
theorem encRks_length (l : Rks) : (encRks l).length = l.length := by simp [encRks]
theorem encRks_getD (l : Rks) (k : Nat) (h : k < l.length) : (encRks l).getD k [] = [.s (l[k]).name, .i (l[k]).rank, .i (l[k]).weight] := by
  rw [encRks, List.getD_eq_getElem?_getD, List.getElem?_map, List.getElem?_eq_getElem h]; rfl
def rkNames (l : Rks) : List ByteArray := l.map (·.name)
theorem rkNames_getD (l : Rks) (k : Nat) (h : k < l.length) : (rkNames l).getD k bz = (l[k]).name := by
  rw [rkNames, List.getD_eq_getElem?_getD, List.getElem?_map, List.getElem?_eq_getElem h]; rfl
def listedErr (l : Rks) : Int := if l.length > 256 then 3 else if namesOk true (rkNames l) then 0 else 4
def rkBad (x : Rk) : Bool := decide (x.rank < 0 ∨ x.rank > 1000 ∨ x.weight ≠ 0)
def rkErr (l : Rks) : Int := if listedErr l ≠ 0 then listedErr l else if l.any rkBad then 2 else 0
def entry (l : Rks) (x : ByteArray) : Rk := (l.find? fun y => decide (y.name = x)).getD ⟨x, 0, 0⟩
def rankOf (l : Rks) (x : ByteArray) : Int := (entry l x).rank
theorem r06_Listed_ok (l : Rks) : Fn f_r06_Listed [rksD l] (iD (listedErr l)) := fun Q hQ => by
  refine C_r06_Listed _ _ ?_
  unfold vc_r06_Listed
  intro hb
  have hl := encRks_length l
  have hl2 : (rkNames l).length = l.length := by simp [rkNames]
  rw [hl] at hb ⊢
  rw [big_eq] at hb
  unfold listedErr at hQ
  refine iff_dec (fun h => ⟨trivial, ?_⟩) (fun h _ => ?_)
  · rw [if_pos (by omega)] at hQ; exact hQ
  rw [if_neg (by omega)] at hQ
  have bad : namesOk true (rkNames l) = false → Q (iD 4) [] := fun h => by rw [h] at hQ; exact hQ
  refine range_r06_Listed_0 Q _ _ _ (by rw [big_eq]; exact hb) (fun k => ∀ i, i < k → nameAt true (rkNames l) i = true) (fun k hk hJ K hK => ?_) (fun hJ => ⟨trivial, ?_⟩) 0 (Nat.zero_le _) (fun i hi => by omega)
  · simp only [encRks_getD _ k hk, List.drop_zero, List.headD_cons, List.tail_cons]
    have hn := rkNames_getD l k hk
    refine ⟨by omega, by omega, bD (nameOk (l[k]).name true), (r01_IsName_ok _ _).here rfl, ?_⟩
    have next : nameAt true (rkNames l) k = true → ∀ i, i < k + 1 → nameAt true (rkNames l) i = true := fun h i hi => by
      rcases Nat.lt_succ_iff_lt_or_eq.1 hi with h8 | rfl
      · exact hJ i h8
      · exact h
    refine iff_not (iff_intro (fun h => iff_dec (fun h0 => ?_) (fun h0 => hK (next ?_))) (fun h => ⟨trivial, bad (namesOk_not (k := k) (by omega) ?_)⟩))
    · have h : nameOk (l[k]).name true = true := h
      have hk1 : k - 1 < l.length := by omega
      have hp := rkNames_getD l (k - 1) hk1
      rw [wrap_in _ (by omega) (by omega)]
      have e1 : ((k : Int) - 1).toNat = k - 1 := by omega
      rw [e1]
      simp only [encRks_getD _ (k - 1) hk1, List.drop_zero, List.headD_cons, List.tail_cons]
      have hk0 : ¬ k = 0 := by omega
      refine ⟨by omega, by omega, r01_CompareNames_ok _ _ _ ⟨rfl, rfl, iff_dec (fun h2 => ⟨trivial, bad (namesOk_not (k := k) (by omega) ?_)⟩) (fun h2 => hK (next ?_))⟩⟩
      · have h2 : cmpN (l[k-1]).name (l[k]).name ≥ 0 := h2
        unfold nameAt
        rw [hn, hp, h, Bool.true_and, decide_eq_false hk0, decide_eq_false ((cmpN_lt _ _).1 h2)]; rfl
      · have h2 : ¬ cmpN (l[k-1]).name (l[k]).name ≥ 0 := h2
        unfold nameAt
        rw [hn, hp, h, Bool.true_and, decide_eq_false hk0, decide_eq_true (Classical.byContradiction fun h3 => h2 ((cmpN_lt _ _).2 h3))]; rfl
    · have h : nameOk (l[k]).name true = true := h
      unfold nameAt
      rw [hn, h, decide_eq_true (show k = 0 by omega)]; rfl
    · have h : nameOk (l[k]).name true = false := h
      unfold nameAt
      rw [hn, h]; rfl
  · rw [namesOk_all (fun k hk => hJ k (by omega)), if_pos rfl] at hQ
    exact hQ
theorem r06_Check_ok (l : Rks) : Fn f_r06_Check [rksD l] (iD (rkErr l)) := fun Q hQ => by
  refine C_r06_Check _ _ ?_
  unfold vc_r06_Check
  unfold rkErr at hQ
  have hl := encRks_length l
  refine r06_Listed_ok l _ ⟨rfl, rfl, iff_bne (fun h => ⟨trivial, ?_⟩) (fun h hb => ?_)⟩
  · have h : listedErr l ≠ 0 := h
    rw [if_pos h] at hQ; exact hQ
  · have h : listedErr l = 0 := h
    rw [if_neg (by simp [h])] at hQ
    rw [hl] at hb ⊢
    refine range_r06_Check_0 Q _ _ hb (fun k => (l.take k).any rkBad = false) (fun k hk hJ K hK => ?_) (fun hJ => ⟨trivial, ?_⟩) 0 (Nat.zero_le _) rfl
    · simp only [encRks_getD _ k hk, List.drop_zero, List.headD_cons, List.tail_cons, V.int]
      have bad : rkBad (l[k]) = true → Q (iD 2) [] := fun h => by
        have : l.any rkBad = true := List.any_eq_true.2 ⟨_, List.getElem_mem hk, h⟩
        rw [if_pos this] at hQ; exact hQ
      refine ⟨by omega, by omega, iff_dec (fun h1 => ⟨trivial, bad ?_⟩) (fun h1 => iff_dec (fun h2 => ⟨trivial, bad ?_⟩) (fun h2 => iff_bne (fun h3 => ⟨trivial, bad ?_⟩) (fun h3 => hK ?_)))⟩
      · exact decide_eq_true (.inl h1)
      · exact decide_eq_true (.inr (.inl h2))
      · exact decide_eq_true (.inr (.inr h3))
      · have : rkBad (l[k]) = false := decide_eq_false (by omega)
        rw [List.take_succ_eq_append_getElem hk, List.any_append, hJ, List.any_cons, List.any_nil, this]; rfl
    · rw [List.take_length] at hJ
      rw [hJ] at hQ
      exact hQ
theorem r06_Entry_ok (l : Rks) (x : ByteArray) : Fn f_r06_Entry [rksD l, sD x] (rkD (entry l x)) := fun Q hQ => by
  refine C_r06_Entry _ _ _ fun hb => ?_
  have hl := encRks_length l
  rw [hl] at hb ⊢
  refine range_r06_Entry_0 Q _ _ _ _ _ _ hb (fun k => ∀ y ∈ l.take k, y.name ≠ x) (fun k hk hJ K hK => ?_) (fun hJ => ?_) 0 (Nat.zero_le _) (fun i hi => by simp at hi)
  · simp only [encRks_getD _ k hk, List.drop_zero, List.headD_cons, List.tail_cons, V.str]
    refine ⟨by omega, by omega, ?_⟩
    rw [ba_beq]
    refine iff_dec (fun h => ⟨⟨trivial, trivial, trivial, trivial⟩, ?_⟩) (fun h => hK ?_)
    · have : entry l x = l[k] := by
        unfold entry
        have e : l.find? (fun y => decide (y.name = x)) = some l[k] := by
          rw [List.find?_eq_some_iff_append]
          refine ⟨decide_eq_true h, l.take k, l.drop (k + 1), ?_, fun y hy => ?_⟩
          · rw [← List.drop_eq_getElem_cons hk, List.take_append_drop]
          · simpa using hJ y hy
        rw [e]; rfl
      rw [this] at hQ
      exact hQ
    · intro y hy
      rw [List.take_succ_eq_append_getElem hk] at hy
      rcases List.mem_append.1 hy with hy | hy
      · exact hJ y hy
      · rw [List.mem_singleton.1 hy]; exact h
  · rw [List.take_length] at hJ
    have : entry l x = ⟨x, 0, 0⟩ := by
      unfold entry
      have e : l.find? (fun y => decide (y.name = x)) = none := by
        rw [List.find?_eq_none]
        intro y hy
        simpa using hJ y hy
      rw [e]; rfl
    rw [this] at hQ
    exact ⟨⟨trivial, trivial, trivial, trivial⟩, hQ⟩
theorem r06_Above_ok (l : Rks) (x y : ByteArray) : Fn f_r06_Above [rksD l, sD x, sD y] (bD (decide (rankOf l x > rankOf l y))) := fun Q hQ => by
  refine C_r06_Above _ _ _ _ ?_
  unfold vc_r06_Above
  exact r06_Entry_ok l x _ ⟨rfl, rfl, r06_Entry_ok l y _ ⟨rfl, rfl, trivial, hQ⟩⟩
open Classical in
noncomputable def gtB (r : ByteArray → Int) (s t : Tm) : Bool := decide (Gt r s t)
theorem gtB_true {r : ByteArray → Int} {s t : Tm} : gtB r s t = true ↔ Gt r s t := by unfold gtB; exact @decide_eq_true_iff _ (Classical.propDecidable _)
theorem gtB_false {r : ByteArray → Int} {s t : Tm} : gtB r s t = false ↔ ¬ Gt r s t := by rw [← gtB_true, Bool.not_eq_true]
theorem r06_Greater_ok (l : Rks) : ∀ (n : Nat) (s t : Tm), s.size + t.size ≤ n → Fn f_r06_Greater [rksD l, tD s, tD t] (bD (gtB (rankOf l) s t)) := by
  intro n
  induction n with
  | zero => intro s t h; have := Tm.size_pos s; omega
  | succ n ih =>
  intro s t hn Q hQ
  have yes : Gt (rankOf l) s t → Q (bD true) [] := fun h => by rw [gtB_true.2 h] at hQ; exact hQ
  have no : ¬ Gt (rankOf l) s t → Q (bD false) [] := fun h => by rw [gtB_false.2 h] at hQ; exact hQ
  have hu := Gt.unfold_iff (r := rankOf l) s t
  refine C_r06_Greater _ _ _ _ _ _ _ _ ?_
  unfold vc_r06_Greater
  have hls := Tm.encL_length s.args
  have hlt := Tm.encL_length t.args
  refine iff_intro (fun hv => ⟨trivial, no fun h => ?_⟩) (fun hv hb => ?_)
  · have := h.nonvar; rw [hv] at this; cases this
  rw [hls] at hb ⊢
  refine range_r06_Greater_0 Q _ _ _ _ _ _ _ _ _ hb (fun k => ∀ a ∈ s.args.take k, a ≠ t ∧ ¬ Gt (rankOf l) a t) (fun k hk hJ K hK => ?_) (fun hJ => ?_) 0 (Nat.zero_le _) (fun i hi => by simp at hi)
  · simp only [Tm.encL_getD _ k hk, Tm.enc_eq, List.drop_zero, List.headD_cons, List.tail_cons]
    have hm := List.getElem_mem hk
    have hsz := Tm.size_mem hm
    refine ⟨by omega, by omega, r01_Equal_ok (s.args[k]) t _ ⟨rfl, rfl, iff_intro (fun h => ⟨trivial, yes ?_⟩) (fun h => ih (s.args[k]) t (by omega) _ ⟨rfl, rfl, iff_intro (fun h2 => ⟨trivial, yes ?_⟩) (fun h2 => hK ?_)⟩)⟩⟩
    · have h : Tm.eqB (s.args[k]) t = true := h
      exact .arg _ _ hv (Tm.eqB_iff.1 h ▸ hm)
    · exact .sub _ _ _ hv hm (gtB_true.1 h2)
    · have h : Tm.eqB (s.args[k]) t = false := h
      intro a ha
      rw [List.take_succ_eq_append_getElem hk] at ha
      rcases List.mem_append.1 ha with ha | ha
      · exact hJ a ha
      · rw [List.mem_singleton.1 ha]; exact ⟨Tm.eqB_false.1 h, gtB_false.1 h2⟩
  · rw [List.take_length] at hJ
    have hnoarg : ¬ ∃ a ∈ s.args, a = t ∨ Gt (rankOf l) a t := by
      rintro ⟨a, ha, h | h⟩
      · exact (hJ a ha).1 h
      · exact (hJ a ha).2 h
    refine iff_intro (fun htv => ⟨trivial, no fun h => ?_⟩) (fun htv => ?_)
    · rcases hu.1 h with ⟨_, h | ⟨h, _⟩⟩
      · exact hnoarg h
      · rw [htv] at h; cases h
    -- the second part, from the join on
    have fin : ∀ (ab : V) (al : Bool), ab = .b (decide (rankOf l s.name > rankOf l t.name)) → al = decide (s.name = t.name ∧ s.args.length = t.args.length) → jp_r06_Greater_0 Q (encRks l) ab al s.name s.var (Tm.encL s.args) t.name t.var (Tm.encL t.args) := by
      rintro _ _ rfl rfl
      have mid : (rankOf l s.name > rankOf l t.name ∨ (s.name = t.name ∧ s.args.length = t.args.length)) → jp_r06_Greater_1 Q (encRks l) (.b (decide (rankOf l s.name > rankOf l t.name))) s.name s.var (Tm.encL s.args) t.name t.var (Tm.encL t.args) := by
        intro hor
        rw [jp_r06_Greater_1_s]
        intro hb2
        rw [hlt] at hb2 ⊢
        refine range_r06_Greater_1 Q _ _ _ _ _ _ _ _ _ _ hb2 (fun k => ∀ b ∈ t.args.take k, Gt (rankOf l) s b) (fun k hk hJ2 K hK => ?_) (fun hJ2 => ?_) 0 (Nat.zero_le _) (fun i hi => by simp at hi)
        · simp only [Tm.encL_getD _ k hk, Tm.enc_eq, List.drop_zero, List.headD_cons, List.tail_cons]
          have hm := List.getElem_mem hk
          have hsz := Tm.size_mem hm
          refine ⟨by omega, by omega, ih s (t.args[k]) (by omega) _ ⟨rfl, rfl, iff_not (iff_intro (fun h => hK ?_) (fun h => ⟨trivial, no fun hg => ?_⟩))⟩⟩
          · intro b hb
            rw [List.take_succ_eq_append_getElem hk] at hb
            rcases List.mem_append.1 hb with hb | hb
            · exact hJ2 b hb
            · rw [List.mem_singleton.1 hb]; exact gtB_true.1 h
          · have h := gtB_false.1 h
            exact h (hg.trans (.arg _ _ htv hm))
        · rw [List.take_length] at hJ2
          refine iff_dec (fun hab => ⟨trivial, yes (.prec _ _ hv htv hab hJ2)⟩) (fun hab hb3 => ?_)
          obtain ⟨hnm, hlen⟩ := hor.resolve_left hab
          rw [hls] at hb3 ⊢
          refine range_r06_Greater_2 Q _ _ _ _ _ _ _ _ hb3 (fun k => s.args.take k = t.args.take k) (fun k hk hJ3 K hK => ?_) (fun hJ3 => ⟨trivial, no fun hg => ?_⟩) 0 (Nat.zero_le _) rfl
          · have hk2 : k < t.args.length := by omega
            simp only [Tm.encL_getD _ k hk, Tm.encL_getD _ k hk2, Tm.enc_eq, List.drop_zero, List.headD_cons, List.tail_cons]
            have hm := List.getElem_mem hk
            have hm2 := List.getElem_mem hk2
            have hsz := Tm.size_mem hm
            have hsz2 := Tm.size_mem hm2
            have e1 := List.getElem?_eq_getElem hk
            have e2 := List.getElem?_eq_getElem hk2
            refine ⟨by omega, by omega, by omega, by omega, r01_Equal_ok (s.args[k]) (t.args[k]) _ ⟨rfl, rfl, iff_not (iff_intro (fun h => hK ?_) (fun h => ⟨by omega, by omega, by omega, by omega, ih (s.args[k]) (t.args[k]) (by omega) _ ⟨rfl, rfl, trivial, ?_⟩⟩))⟩⟩
            · have h : Tm.eqB (s.args[k]) (t.args[k]) = true := h
              rw [List.take_succ_eq_append_getElem hk, List.take_succ_eq_append_getElem hk2, hJ3, Tm.eqB_iff.1 h]
            · have h : Tm.eqB (s.args[k]) (t.args[k]) = false := h
              have hne := Tm.eqB_false.1 h
              show Q (bD (gtB (rankOf l) (s.args[k]) (t.args[k]))) []
              cases hg : gtB (rankOf l) (s.args[k]) (t.args[k]) with
              | true => exact yes (.lex _ _ _ _ k hv htv hnm hlen hJ2 hJ3 e1 e2 (gtB_true.1 hg))
              | false =>
                refine no fun hgt => ?_
                rcases hu.1 hgt with ⟨_, h5 | ⟨_, _, h6 | ⟨_, _, i, a, b, h7, h8, h9, h10⟩⟩⟩
                · exact hnoarg h5
                · exact hab h6
                · rcases Nat.lt_trichotomy i k with hik | rfl | hik
                  · have := congrArg (·[i]?) hJ3
                    simp only [List.getElem?_take, if_pos hik] at this
                    rw [h8, h9] at this
                    obtain rfl := Option.some.inj this
                    exact Gt.irrefl _ h10
                  · rw [e1] at h8
                    rw [e2] at h9
                    obtain rfl := Option.some.inj h8
                    obtain rfl := Option.some.inj h9
                    exact gtB_false.1 hg h10
                  · have := congrArg (·[k]?) h7
                    simp only [List.getElem?_take, if_pos hik] at this
                    rw [e1, e2] at this
                    exact hne (Option.some.inj this)
          · rw [List.take_length, hlen, List.take_length] at hJ3
            exact Gt.irrefl _ ((Tm.ext hnm (by rw [hv, htv]) hJ3 : s = t) ▸ hg)
      rw [jp_r06_Greater_0_s]
      unfold je_r06_Greater_0
      refine iff_not (iff_dec (fun hab => mid (.inl hab)) (fun hab => iff_not (iff_dec (fun hal => mid (.inr hal)) (fun hal => ⟨trivial, no fun hgt => ?_⟩))))
      rcases hu.1 hgt with ⟨_, h5 | ⟨_, _, h6 | ⟨h7, h8, _⟩⟩⟩
      · exact hnoarg h5
      · exact hab h6
      · exact hal ⟨h7, h8⟩
    refine r06_Above_ok l s.name t.name _ ⟨rfl, rfl, ?_⟩
    rw [ba_beq]
    refine iff_dec (fun h _ hb2 => fin _ _ rfl ?_) (fun h => fin _ _ rfl ?_)
    · rw [hls, hlt]
      rw [Bool.eq_iff_iff, decide_eq_true_iff, beq_iff_eq]
      constructor
      · intro h2; exact ⟨h, by omega⟩
      · intro h2; omega
    · rw [decide_eq_false (fun h2 => h h2.1)]
end Go.Proofs.YtehchnjnbbnkbaaGreat
set_option linter.unusedVariables false
set_option linter.unusedSimpArgs false
namespace Go.Proofs.YtehchnjnbbnkbaaGreat
open Go.Abs
theorem path_Check_1_ok (x : Rk) : Fn f_path_Check_1 [rkD x] (sD x.name) := fun Q hQ => by
  refine C_path_Check_1 _ _ _ _ ?_
  unfold vc_path_Check_1
  exact ⟨trivial, hQ⟩
theorem path_Check_2_ok (x : Rk) : Fn f_path_Check_2 [rkD x] (bD (rkBad x)) := fun Q hQ => by
  refine C_path_Check_2 _ _ _ _ ?_
  unfold vc_path_Check_2
  have key : ∀ b, b = rkBad x → True ∧ Q (bD b) [] := by rintro _ rfl; exact ⟨trivial, hQ⟩
  refine iff_dec (fun h => key _ ?_) (fun h => iff_dec (fun h2 => key _ ?_) (fun h2 => key _ ?_))
  · exact (decide_eq_true (.inl h)).symm
  · exact (decide_eq_true (.inr (.inl h2))).symm
  · unfold rkBad
    rw [Bool.eq_iff_iff, decide_eq_true_iff, bne_iff_ne]
    omega
theorem path_Names_ok (l : Rks) : Fn f_path_Names_Rank [rksD l, .fn f_path_Check_1 []] (iD (listedErr l)) := fun Q hQ => by
  refine C_path_Names_Rank_pathCheck1 _ _ ?_
  unfold vc_path_Names_Rank_pathCheck1
  intro hb
  have hl := encRks_length l
  have hl2 : (rkNames l).length = l.length := by simp [rkNames]
  rw [hl] at hb ⊢
  rw [big_eq] at hb
  unfold listedErr at hQ
  refine iff_dec (fun h => ⟨trivial, ?_⟩) (fun h _ => ?_)
  · rw [if_pos (by omega)] at hQ; exact hQ
  rw [if_neg (by omega)] at hQ
  have bad : namesOk true (rkNames l) = false → Q (iD 4) [] := fun h => by rw [h] at hQ; exact hQ
  refine range_path_Names_Rank_pathCheck1_0 Q _ _ _ (by rw [big_eq]; exact hb) (fun k => ∀ i, i < k → nameAt true (rkNames l) i = true) (fun k hk hJ K hK => ?_) (fun hJ => ⟨trivial, ?_⟩) 0 (Nat.zero_le _) (fun i hi => by omega)
  · simp only [encRks_getD _ k hk, List.drop_zero, List.headD_cons, List.tail_cons]
    have hn := rkNames_getD l k hk
    refine ⟨by omega, by omega, sD (l[k]).name, (path_Check_1_ok _).here rfl, bD (nameOk (l[k]).name true), (term_IsName_ok _ _).here rfl, ?_⟩
    have next : nameAt true (rkNames l) k = true → ∀ i, i < k + 1 → nameAt true (rkNames l) i = true := fun h i hi => by
      rcases Nat.lt_succ_iff_lt_or_eq.1 hi with h8 | rfl
      · exact hJ i h8
      · exact h
    refine iff_not (iff_intro (fun h => iff_dec (fun h0 => ?_) (fun h0 => hK (next ?_))) (fun h => ⟨trivial, bad (namesOk_not (k := k) (by omega) ?_)⟩))
    · have h : nameOk (l[k]).name true = true := h
      have hk1 : k - 1 < l.length := by omega
      have hp := rkNames_getD l (k - 1) hk1
      rw [wrap_in _ (by omega) (by omega)]
      have e1 : ((k : Int) - 1).toNat = k - 1 := by omega
      rw [e1]
      simp only [encRks_getD _ (k - 1) hk1, List.drop_zero, List.headD_cons, List.tail_cons]
      have hk0 : ¬ k = 0 := by omega
      refine ⟨sD (l[k]).name, (path_Check_1_ok _).here rfl, by omega, by omega, path_Check_1_ok _ _ ⟨rfl, rfl, ?_⟩⟩
      show iff (Op.bytesLess (l[k]).name.toList (l[k-1]).name.toList || (l[k]).name.toList == (l[k-1]).name.toList) _ _
      rw [less_cmp, ba_beq]
      have e : (decide (cmpN (l[k]).name (l[k-1]).name = -1) || decide ((l[k]).name = (l[k-1]).name)) = !decide (cmpN (l[k-1]).name (l[k]).name = -1) := by
        rw [Bool.eq_iff_iff]
        simp only [Bool.or_eq_true, decide_eq_true_iff, Bool.not_eq_true', decide_eq_false_iff_not, ← cmpN_zero]
        have := cmpN_flip (l[k-1]).name (l[k]).name
        rcases cmpN_cases (l[k-1]).name (l[k]).name with h | h | h <;> omega
      rw [e]
      refine iff_not (iff_dec (fun h2 => hK (next ?_)) (fun h2 => ⟨trivial, bad (namesOk_not (k := k) (by omega) ?_)⟩))
      · unfold nameAt
        rw [hn, hp, h, Bool.true_and, decide_eq_false hk0, decide_eq_true h2]; rfl
      · unfold nameAt
        rw [hn, hp, h, Bool.true_and, decide_eq_false hk0, decide_eq_false h2]; rfl
    · have h : nameOk (l[k]).name true = true := h
      unfold nameAt
      rw [hn, h, decide_eq_true (show k = 0 by omega)]; rfl
    · have h : nameOk (l[k]).name true = false := h
      unfold nameAt
      rw [hn, h]; rfl
  · rw [namesOk_all (fun k hk => hJ k (by omega)), if_pos rfl] at hQ
    exact hQ
theorem slices_IndexFunc_Rank_ok (l : Rks) : Fn f_slices_IndexFunc_Rank [rksD l, .fn f_path_Check_2 []] (iD (idx rkBad l)) := fun Q hQ => by
  refine C_slices_IndexFunc_Rank_pathCheck2 _ _ fun hb => ?_
  have hl := encRks_length l
  rw [hl] at hb ⊢
  refine range_slices_IndexFunc_Rank_pathCheck2_0 Q _ _ hb (fun k => (l.take k).any rkBad = false) (fun k hk hJ K hK => ?_) (fun hJ => ⟨trivial, ?_⟩) 0 (Nat.zero_le _) rfl
  · simp only [encRks_getD _ k hk, List.drop_zero, List.headD_cons, List.tail_cons]
    refine ⟨by omega, by omega, path_Check_2_ok _ _ ⟨rfl, rfl, iff_intro (fun h => ⟨trivial, ?_⟩) (fun h => hK (any_take hk hJ h))⟩⟩
    rw [idx_at hk hJ h] at hQ
    exact hQ
  · rw [List.take_length] at hJ
    rw [idx_none hJ] at hQ
    exact hQ
theorem slices_ContainsFunc_Rank_ok (l : Rks) : Fn f_slices_ContainsFunc_Rank [rksD l, .fn f_path_Check_2 []] (bD (l.any rkBad)) := fun Q hQ => by
  refine C_slices_ContainsFunc_Rank_pathCheck2 _ _ ?_
  unfold vc_slices_ContainsFunc_Rank_pathCheck2
  refine slices_IndexFunc_Rank_ok l _ ⟨rfl, rfl, trivial, ?_⟩
  rw [← idx_any] at hQ
  exact hQ
theorem path_Check_ok (l : Rks) : Fn f_path_Check [rksD l] (iD (rkErr l)) := fun Q hQ => by
  refine C_path_Check _ _ ?_
  unfold vc_path_Check
  unfold rkErr at hQ
  refine path_Names_ok l _ ⟨rfl, rfl, iff_bne (fun h => ⟨trivial, ?_⟩) (fun h => ?_)⟩
  · have h : listedErr l ≠ 0 := h
    rw [if_pos h] at hQ; exact hQ
  · have h : listedErr l = 0 := h
    rw [if_neg (by simp [h])] at hQ
    refine slices_ContainsFunc_Rank_ok l _ ⟨rfl, rfl, iff_intro (fun h2 => ⟨trivial, ?_⟩) (fun h2 => ⟨trivial, ?_⟩)⟩
    · have h2 : l.any rkBad = true := h2
      rw [if_pos h2] at hQ; exact hQ
    · have h2 : l.any rkBad = false := h2
      rw [h2, if_neg (by simp)] at hQ; exact hQ
theorem bytealg_CompareString_ok (a b : ByteArray) : Fn f_bytealg_CompareString [sD a, sD b] (iD (cmpN a b)) := fun Q hQ => by
  refine C_bytealg_CompareString _ _ _ ?_
  exact ⟨trivial, hQ⟩
theorem strings_Compare_ok (a b : ByteArray) : Fn f_strings_Compare [sD a, sD b] (iD (cmpN a b)) := fun Q hQ => by
  refine C_strings_Compare _ _ _ ?_
  unfold vc_strings_Compare
  exact bytealg_CompareString_ok a b _ ⟨rfl, rfl, trivial, hQ⟩
theorem path_Of_1_ok (x : Rk) (b : ByteArray) : Fn f_path_Of_1 [rkD x, sD b] (iD (cmpN x.name b)) := fun Q hQ => by
  refine C_path_Of_1 _ _ _ _ _ ?_
  unfold vc_path_Of_1
  exact strings_Compare_ok _ b _ ⟨rfl, rfl, trivial, hQ⟩
def Sorted (l : Rks) : Prop := ∀ i j (hi : i < l.length) (hj : j < l.length), i < j → cmpN (l[i]).name (l[j]).name = -1
theorem sorted_of {l : Rks} (h : namesOk true (rkNames l) = true) : Sorted l := by
  have hl2 : (rkNames l).length = l.length := by simp [rkNames]
  have step : ∀ j (hj : j + 1 < l.length), cmpN (l[j]'(by omega)).name (l[j+1]).name = -1 := fun j hj => by
    have := namesOk_at h (k := j + 1) (by omega)
    unfold nameAt at this
    simp only [Bool.and_eq_true, Bool.or_eq_true, decide_eq_true_iff] at this
    rcases this.2 with h | h
    · omega
    · rw [show j + 1 - 1 = j by omega, rkNames_getD l j (by omega), rkNames_getD l (j + 1) hj] at h
      exact h
  intro i j hi hj hij
  induction j with
  | zero => omega
  | succ j ih =>
    rcases Nat.lt_succ_iff_lt_or_eq.1 hij with h8 | rfl
    · exact cmpN_trans (ih (by omega) h8) (step j hj)
    · exact step i hj
theorem listed_zero {l : Rks} (h : listedErr l = 0) : l.length ≤ 256 ∧ namesOk true (rkNames l) = true := by
  unfold listedErr at h
  split at h
  · cases h
  · split at h
    · exact ⟨by omega, by assumption⟩
    · cases h
theorem rkErr_zero {l : Rks} (h : rkErr l = 0) : listedErr l = 0 ∧ l.any rkBad = false := by
  unfold rkErr at h
  split at h
  · exact absurd h (by assumption)
  · rename_i h1
    split at h
    · cases h
    · rename_i h2
      exact ⟨by omega, by simpa using h2⟩
theorem mid_eq (lo hi : Nat) (h : lo + hi ≤ 1000) : IntKind.i64.wrap ((IntKind.u64.wrap (IntKind.i64.wrap ((lo : Int) + (hi : Int)))).fdiv (2 ^ (min ((1 : Int)).toNat IntKind.u64.bits))) = (((lo + hi) / 2 : Nat) : Int) := by
  rw [wrap_in ((lo : Int) + (hi : Int)) (by omega) (by omega), wrap_u64 _ (by omega) (by omega)]
  have e : (2 : Int) ^ (min ((1 : Int)).toNat IntKind.u64.bits) = 2 := rfl
  rw [e, Int.fdiv_eq_ediv_of_nonneg _ (by omega), wrap_in _ (by omega) (by omega)]
  omega
def ofR (l : Rks) (x : ByteArray) : Rk := (l.find? fun y => decide (y.name = x)).getD ⟨bz, 0, 0⟩
theorem ofR_rank (l : Rks) (x : ByteArray) : (ofR l x).rank = rankOf l x := by
  unfold ofR rankOf entry
  cases l.find? fun y => decide (y.name = x) <;> rfl
theorem find_at {l : Rks} {x : ByteArray} {k : Nat} (hs : Sorted l) (hk : k < l.length) (h : (l[k]).name = x) : l.find? (fun y => decide (y.name = x)) = some l[k] := by
  rw [List.find?_eq_some_iff_append]
  refine ⟨decide_eq_true h, l.take k, l.drop (k + 1), ?_, fun y hy => ?_⟩
  · rw [← List.drop_eq_getElem_cons hk, List.take_append_drop]
  · obtain ⟨i, hi, rfl⟩ := List.mem_take_iff_getElem.1 hy
    have := hs i k (by omega) hk (by omega)
    simp only [Bool.not_eq_true', decide_eq_false_iff_not]
    intro he
    rw [he, ← h, cmpN_self] at this
    cases this
theorem slices_BinarySearchFunc_ok (l : Rks) (x : ByteArray) (hs : Sorted l) (hn : l.length ≤ 256) (Q : D → Heap → Prop)
    (hQ : ∀ (i : Nat) (b : Bool), (b = true → ∃ h : i < l.length, (l[i]).name = x) → (b = false → ∀ y ∈ l, y.name ≠ x) → Q (.tup [iD i, bD b]) []) :
    cl f_slices_BinarySearchFunc_Rank_string [rksD l, sD x, .fn f_path_Of_1 []] [] Q := by
  refine C_slices_BinarySearchFunc_Rank_string_pathOf1 _ _ _ fun hb => ?_
  have hl := encRks_length l
  rw [hl] at hb ⊢
  refine rule_slices_BinarySearchFunc_Rank_string_pathOf1_0 Q (fun x0 x1 x8 x9 x10 => x0 = encRks l ∧ x1 = x ∧ x8 = (l.length : Int) ∧ ∃ lo hi : Nat, x9 = lo ∧ x10 = hi ∧ lo ≤ hi ∧ hi ≤ l.length ∧ (∀ k (h : k < l.length), k < lo → cmpN (l[k]).name x = -1) ∧ (∀ k (h : k < l.length), hi ≤ k → cmpN (l[k]).name x ≠ -1)) (fun x0 x1 x8 x9 x10 => (x10 - x9).toNat) (fun x0 x1 x8 x9 x10 hI m0 hK => ?_) _ _ _ _ _ ⟨rfl, rfl, rfl, 0, l.length, rfl, rfl, Nat.zero_le _, Nat.le_refl _, fun k _ h => by omega, fun k h h' => by omega⟩
  obtain ⟨rfl, rfl, rfl, lo, hi, rfl, rfl, h1, h2, h3, h4⟩ := hI
  unfold st_slices_BinarySearchFunc_Rank_string_pathOf1_0
  rw [mid_eq lo hi (by omega)]
  refine iff_dec (fun h => ?_) (fun h => ?_)
  · have hm : (lo + hi) / 2 < l.length := by omega
    rw [Int.toNat_natCast]
    simp only [encRks_getD _ _ hm, List.drop_zero, List.headD_cons, List.tail_cons]
    refine ⟨by omega, by omega, by omega, path_Of_1_ok (l[(lo + hi) / 2]) x1 _ ⟨rfl, rfl, iff_dec (fun h5 => ?_) (fun h5 => ?_)⟩⟩
    · have h5 : cmpN (l[(lo + hi) / 2]).name x1 < 0 := h5
      rw [wrap_in _ (by omega) (by omega)]
      refine hK _ _ _ _ _ ⟨rfl, rfl, rfl, (lo + hi) / 2 + 1, hi, by omega, rfl, by omega, h2, fun k hk hlt => ?_, h4⟩ (by omega)
      have h6 : cmpN (l[(lo + hi) / 2]).name x1 = -1 := by rcases cmpN_cases (l[(lo + hi) / 2]).name x1 with h | h | h <;> omega
      rcases Nat.lt_succ_iff_lt_or_eq.1 hlt with h8 | rfl
      · exact cmpN_trans (hs k _ hk hm h8) h6
      · exact h6
    · have h5 : ¬ cmpN (l[(lo + hi) / 2]).name x1 < 0 := h5
      refine hK _ _ _ _ _ ⟨rfl, rfl, rfl, lo, (lo + hi) / 2, rfl, rfl, by omega, by omega, h3, fun k hk hle he => ?_⟩ (by omega)
      rcases Nat.lt_or_eq_of_le hle with h8 | rfl
      · have := cmpN_trans (hs _ k hm hk h8) he
        omega
      · omega
  · have e : lo = hi := by omega
    subst e
    refine iff_dec (fun h5 => ?_) (fun h5 => ⟨⟨trivial, trivial, trivial⟩, hQ _ _ (fun h => by cases h) fun _ y hy he => ?_⟩)
    · have hlo : lo < l.length := by omega
      rw [Int.toNat_natCast]
      simp only [encRks_getD _ _ hlo, List.drop_zero, List.headD_cons, List.tail_cons]
      refine ⟨by omega, by omega, path_Of_1_ok (l[lo]) x1 _ ⟨rfl, rfl, ⟨trivial, trivial, trivial⟩, hQ lo (cmpN (l[lo]).name x1 == 0) (fun h6 => ⟨hlo, ?_⟩) (fun h6 y hy he => ?_)⟩⟩
      · rw [beq_iff_eq] at h6; exact cmpN_zero.1 h6
      · obtain ⟨k, hk, rfl⟩ := List.mem_iff_getElem.1 hy
        have hz := cmpN_zero.2 he
        rcases Nat.lt_trichotomy k lo with h7 | rfl | h7
        · have := h3 k hk h7; omega
        · rw [hz] at h6; cases h6
        · have h8 := h4 lo hlo (Nat.le_refl _)
          have h9 := hs lo k hlo hk h7
          rw [he] at h9
          exact h8 h9
    · obtain ⟨k, hk, rfl⟩ := List.mem_iff_getElem.1 hy
      have hz := cmpN_zero.2 he
      have := h3 k hk (by omega)
      omega
theorem path_Of_ok (l : Rks) (x : ByteArray) (hs : Sorted l) (hn : l.length ≤ 256) : Fn f_path_Of [rksD l, sD x] (rkD (ofR l x)) := fun Q hQ => by
  refine C_path_Of _ _ _ ?_
  unfold vc_path_Of
  have hl := encRks_length l
  refine slices_BinarySearchFunc_ok l x hs hn _ fun i b ht hf => ⟨rfl, rfl, ?_⟩
  refine iff_not (iff_intro (fun h => ?_) (fun h => ⟨⟨trivial, trivial, trivial, trivial⟩, ?_⟩))
  · have h : b = true := h
    obtain ⟨hi, hx⟩ := ht h
    show 0 ≤ (i : Int) ∧ (i : Int) < _ ∧ _
    refine ⟨by omega, by omega, ⟨trivial, trivial, trivial, trivial⟩, ?_⟩
    unfold ofR at hQ
    rw [find_at hs hi hx] at hQ
    have : (encRks l).getD ((i : Int)).toNat [] = [.s (l[i]).name, .i (l[i]).rank, .i (l[i]).weight] := by
      rw [Int.toNat_natCast]; exact encRks_getD l i hi
    show Q (.agg [.v .str (((((encRks l).getD ((i : Int)).toNat []).drop 0).headD V.none)), .v (.int .i64) (((((encRks l).getD ((i : Int)).toNat []).drop 0).tail).headD V.none), .v (.int .i64) ((((((encRks l).getD ((i : Int)).toNat []).drop 0).tail).tail).headD V.none)]) []
    rw [this]
    exact hQ
  · have h : b = false := h
    have hno := hf h
    unfold ofR at hQ
    have e : l.find? (fun y => decide (y.name = x)) = none := by
      rw [List.find?_eq_none]
      intro y hy
      simpa using hno y hy
    rw [e] at hQ
    exact hQ
end Go.Proofs.YtehchnjnbbnkbaaGreat
set_option linter.unusedVariables false
set_option linter.unusedSimpArgs false
namespace Go.Proofs.YtehchnjnbbnkbaaGreat
open Go.Abs
structure Nd where
  tm : Tm
  ix : List Int
def encNd (n : Nd) : List V := [.s n.tm.name, .b n.tm.var, .l (Tm.encL n.tm.args), .l (encP n.ix)]
def encA (A : List Nd) : List (List V) := A.map encNd
theorem encA_length (A : List Nd) : (encA A).length = A.length := by simp [encA]
theorem encA_getD (A : List Nd) (k : Nat) (x : Nd) (h : A[k]? = some x) : (encA A).getD k [] = [.s x.tm.name, .b x.tm.var, .l (Tm.encL x.tm.args), .l (encP x.ix)] := by
  rw [encA, List.getD_eq_getElem?_getD, List.getElem?_map, h]; rfl
def Fine (A : List Nd) (i : Nat) (n : Nd) : Prop := n.ix.length = n.tm.args.length ∧ ∀ (j : Nat) (a : Tm), n.tm.args[j]? = some a → ∃ m : Nat, n.ix[j]? = some (m : Int) ∧ m < i ∧ ∃ x, A[m]? = some x ∧ x.tm = a
def Good (A : List Nd) : Prop := ∀ (i : Nat) (n : Nd), A[i]? = some n → Fine A i n
theorem get_prefix {α : Type} {A B : List α} (h : A <+: B) {i : Nat} {x : α} (hx : A[i]? = some x) : B[i]? = some x := by
  obtain ⟨C, rfl⟩ := h
  rw [List.getElem?_append_left (List.getElem?_eq_some_iff.1 hx).1]
  exact hx
theorem Fine.mono {A B : List Nd} (h : A <+: B) {i : Nat} {n : Nd} (hf : Fine A i n) : Fine B i n :=
  ⟨hf.1, fun j a ha => by obtain ⟨m, h1, h2, x, h3, h4⟩ := hf.2 j a ha; exact ⟨m, h1, h2, x, get_prefix h h3, h4⟩⟩
theorem Good.push {A : List Nd} (h : Good A) {n : Nd} (hn : Fine A A.length n) : Good (A ++ [n]) := fun i x hx => by
  rcases Nat.lt_trichotomy i A.length with hi | rfl | hi
  · rw [List.getElem?_append_left hi] at hx
    exact (h i x hx).mono (List.prefix_append _ _)
  · rw [List.getElem?_append_right (Nat.le_refl _), Nat.sub_self] at hx
    obtain rfl := Option.some.inj hx
    exact hn.mono (List.prefix_append _ _)
  · rw [List.getElem?_eq_none (by simp; omega)] at hx; cases hx
mutual
def nds (b : Nat) : Tm → List Nd | .mk n v xs => (ndsL b xs).1 ++ [⟨.mk n v xs, (ndsL b xs).2⟩]
def ndsL (b : Nat) : List Tm → List Nd × List Int
  | [] => ([], [])
  | t :: r => (nds b t ++ (ndsL (b + (nds b t).length) r).1, ((b + (nds b t).length - 1 : Nat) : Int) :: (ndsL (b + (nds b t).length) r).2)
end
theorem nds_eq (b : Nat) : ∀ t : Tm, nds b t = (ndsL b t.args).1 ++ [⟨t, (ndsL b t.args).2⟩] | .mk _ _ _ => by simp only [nds]; rfl
theorem ndsL_snoc : ∀ (l : List Tm) (b : Nat) (t : Tm), ndsL b (l ++ [t]) = ((ndsL b l).1 ++ nds (b + (ndsL b l).1.length) t, (ndsL b l).2 ++ [((b + (ndsL b l).1.length + (nds (b + (ndsL b l).1.length) t).length - 1 : Nat) : Int)])
  | [], b, t => by simp [ndsL]
  | a :: l, b, t => by
    have ih := ndsL_snoc l (b + (nds b a).length) t
    simp only [List.cons_append, ndsL, ih, List.length_append, List.append_assoc, Nat.add_assoc]
structure Part (A : List Nd) (t : Tm) (k : Nat) (B : List Nd) (ix : List Int) : Prop where
  eqB : B = A ++ (ndsL A.length (t.args.take k)).1
  eqI : ix = (ndsL A.length (t.args.take k)).2
  pre : A <+: B
  good : Good B
  len : B.length = A.length + Tm.sizeL (t.args.take k)
  ixlen : ix.length = k
  fm : (∀ a ∈ t.args.take k, a.formed = true) → ∀ x ∈ B, x ∈ A ∨ x.tm.formed = true
  fine : ∀ (j : Nat) (a : Tm), j < k → t.args[j]? = some a → ∃ m : Nat, ix[j]? = some (m : Int) ∧ m < B.length ∧ ∃ x, B[m]? = some x ∧ x.tm = a
theorem Part.start {A : List Nd} (h : Good A) (t : Tm) : Part A t 0 A [] :=
  ⟨by simp [ndsL], by simp [ndsL], List.prefix_refl _, h, rfl, rfl, fun _ x hx => .inl hx, fun j a hj => by omega⟩
theorem Part.next {A : List Nd} {t : Tm} {k : Nat} {B : List Nd} {ix : List Int} (h : Part A t k B ix) (hk : k < t.args.length) {C : List Nd} (hC : Good C) (hBC : B <+: C) (hlen : C.length = B.length + (t.args[k]).size) {x : Nd} (hx : C[C.length - 1]? = some x) (hxt : x.tm = t.args[k])
    (hfm : (t.args[k]).formed = true → ∀ x ∈ C, x ∈ B ∨ x.tm.formed = true) (hCe : C = B ++ nds B.length t.args[k]) : Part A t (k + 1) C (ix ++ [((C.length - 1 : Nat) : Int)]) := by
  have eB : B.length = A.length + (ndsL A.length (t.args.take k)).1.length := by
    have := congrArg List.length h.eqB
    rwa [List.length_append] at this
  have hC' : C.length = B.length + (nds B.length t.args[k]).length := by rw [hCe, List.length_append]
  refine ⟨?_, ?_, h.pre.trans hBC, hC, ?_, by simp [h.ixlen], fun hf y hy => ?_, fun j a hj ha => ?_⟩
  · rw [List.take_succ_eq_append_getElem hk, ndsL_snoc, ← eB, ← List.append_assoc, ← h.eqB, ← hCe]
  · rw [List.take_succ_eq_append_getElem hk, ndsL_snoc, ← eB, ← h.eqI, ← hC']
  · rw [hlen, h.len, Tm.sizeL_take _ _ hk]; omega
  · rw [List.take_succ_eq_append_getElem hk] at hf
    rcases hfm (hf _ (List.mem_append_right _ (List.mem_singleton.2 rfl))) y hy with h1 | h1
    · exact h.fm (fun a ha => hf a (List.mem_append_left _ ha)) y h1
    · exact .inr h1
  · have hp := Tm.size_pos (t.args[k])
    rcases Nat.lt_succ_iff_lt_or_eq.1 hj with h8 | rfl
    · obtain ⟨m, h1, h2, y, h3, h4⟩ := h.fine j a h8 ha
      exact ⟨m, by rw [List.getElem?_append_left (by have := h.ixlen; omega)]; exact h1, by omega, y, get_prefix hBC h3, h4⟩
    · rw [List.getElem?_eq_getElem hk] at ha
      refine ⟨C.length - 1, ?_, by omega, x, hx, hxt.trans (Option.some.inj ha)⟩
      rw [List.getElem?_append_right (by have := h.ixlen; omega), h.ixlen, Nat.sub_self]; rfl
theorem Part.done {A : List Nd} {t : Tm} {B : List Nd} {ix : List Int} (h : Part A t t.args.length B ix) : Good (B ++ [⟨t, ix⟩]) :=
  h.good.push ⟨h.ixlen, fun j a ha => h.fine j a (List.getElem?_eq_some_iff.1 ha).1 ha⟩
structure Ends (A : List Nd) (t : Tm) (C : List Nd) : Prop where
  eq : C = A ++ nds A.length t
  good : Good C
  pre : A <+: C
  len : C.length = A.length + t.size
  last : ∃ x, C[C.length - 1]? = some x ∧ x.tm = t
  fm : t.formed = true → ∀ x ∈ C, x ∈ A ∨ x.tm.formed = true
theorem Part.ends {A : List Nd} {t : Tm} {B : List Nd} {ix : List Int} (h : Part A t t.args.length B ix) : Ends A t (B ++ [⟨t, ix⟩]) := by
  refine ⟨?_, h.done, h.pre.trans (List.prefix_append _ _), ?_, ⟨⟨t, ix⟩, ?_, rfl⟩, fun hf x hx => ?_⟩
  · have h1 := h.eqB
    have h2 := h.eqI
    rw [List.take_length] at h1 h2
    rw [nds_eq, ← List.append_assoc, ← h1, ← h2]
  · have := h.len
    rw [List.take_length] at this
    rw [List.length_append, this, Tm.size_eq]; simp; omega
  · simp
  · rcases List.mem_append.1 hx with hx | hx
    · refine h.fm (fun a ha => ?_) x hx
      rw [List.take_length] at ha
      rw [Tm.formed_eq] at hf
      split at hf
      · simp only [Bool.and_eq_true, List.isEmpty_iff] at hf
        rw [hf.2] at ha; cases ha
      · simp only [Bool.and_eq_true] at hf
        exact List.all_eq_true.1 hf.2 a ha
    · rw [List.mem_singleton.1 hx]; exact .inr hf
theorem ends_nds : ∀ (t : Tm) (A : List Nd), Good A → Ends A t (A ++ nds A.length t) := Tm.ind fun t ih A hA => by
  have key : ∀ k, k ≤ t.args.length → ∃ B ix, Part A t k B ix := by
    intro k
    induction k with
    | zero => exact fun _ => ⟨A, [], .start hA t⟩
    | succ k ihk =>
      intro hk
      obtain ⟨B, ix, hp⟩ := ihk (by omega)
      have he := ih _ (List.getElem_mem (show k < t.args.length by omega)) B hp.good
      obtain ⟨x, h1, h2⟩ := he.last
      exact ⟨_, _, hp.next (by omega) he.good he.pre he.len h1 h2 he.fm rfl⟩
  obtain ⟨B, ix, hp⟩ := key _ (Nat.le_refl _)
  have he := hp.ends
  rw [he.eq] at he
  exact he
theorem encP_append (p q : List Int) : encP (p ++ q) = encP p ++ encP q := by simp [encP]
theorem encA_append (p q : List Nd) : encA (p ++ q) = encA p ++ encA q := by simp [encA]
theorem path_nodes_ok : ∀ (t : Tm) (A : List Nd), Good A → A.length + t.size ≤ lim → ∀ Q : D → Heap → Prop, (∀ C, Ends A t C → Q (.osl (.own 0) C.length) [.row t_path_node (encA C)]) →
    cl f_path_nodes [tD t, .osl (.own 0) A.length] [.row t_path_node (encA A)] Q := Tm.ind fun t ih A hA hB Q hQ => by
  refine C_path_nodes _ _ _ _ _ _ ?_
  unfold vc_path_nodes
  intro hb
  have hl := Tm.encL_length t.args
  have hsz := Tm.size_eq t
  have hls := Tm.length_sizeL t.args
  have hlim := lim_eq
  rw [hl] at hb ⊢
  refine range_path_nodes_0 Q _ _ _ _ _ hb (fun k n m y h => ∃ B ix, Part A t k B ix ∧ n = B.length ∧ m = ix.length ∧ y = encP ix ∧ h = encA B) (fun k n m y h hk hJ K hK => ?_) (fun n m y h hJ => ?_) 0 _ _ _ _ (Nat.zero_le _) ⟨A, [], .start hA t, rfl, rfl, rfl, rfl⟩
  · obtain ⟨B, ix, hp, rfl, rfl, rfl, rfl⟩ := hJ
    simp only [Tm.encL_getD _ k hk, Tm.enc_eq, List.drop_zero, List.headD_cons, List.tail_cons]
    have hm := Tm.sizeL_take_le t.args (k + 1)
    rw [Tm.sizeL_take _ _ hk] at hm
    have hlen := hp.len
    refine ⟨by omega, by omega, ih _ (List.getElem_mem hk) B hp.good (by omega) _ fun C hC => ⟨rfl, rfl, ?_⟩⟩
    obtain ⟨x, hx, hxt⟩ := hC.last
    have hpos := Tm.size_pos (t.args[k])
    have hcl := hC.len
    show (encA C).length = C.length ∧ (C.length ≤ big → _)
    refine ⟨encA_length C, fun hb2 => ?_⟩
    rw [big_eq] at hb2
    have e : IntKind.i64.wrap (((C.length : Nat) : Int) - 1) = ((C.length - 1 : Nat) : Int) := by rw [wrap_in _ (by omega) (by omega)]; omega
    show (encP ix).length = ix.length ∧ ix.length + 1 ≤ lim ∧ K C.length (ix.length + 1) (encP ix ++ [[V.i (IntKind.i64.wrap (((C.length : Nat) : Int) - 1))]]) (encA C)
    rw [e]
    have hixl := hp.ixlen
    refine ⟨encP_length ix, by omega, hK _ _ _ _ ⟨C, ix ++ [((C.length - 1 : Nat) : Int)], hp.next hk hC.good hC.pre hC.len hx hxt hC.fm hC.eq, rfl, by simp, ?_, rfl⟩⟩
    rw [encP_append]; rfl
  · obtain ⟨B, ix, hp, rfl, rfl, rfl, rfl⟩ := hJ
    have hend := hp.ends
    have hcl := hend.len
    have hq := hQ _ hend
    rw [List.length_append] at hq hcl
    refine ⟨(encP_length ix).symm, encA_length B, ?_, trivial, ?_⟩
    · show B.length + 1 ≤ lim
      have : B.length + 1 = A.length + t.size := hcl
      omega
    · rw [encA_append] at hq
      exact hq
theorem path_nodes_nil_ok (t : Tm) (hB : t.size ≤ lim) : ∀ Q : D → Heap → Prop, (∀ C, Ends [] t C → Q (.v (.sl t_path_node) (.l (encA C))) []) →
    cl f_path_nodes [tD t, .nil] [] Q := fun Q hQ => by
  refine C_path_nodes_nil _ _ _ _ ?_
  unfold vc_path_nodes_nil
  intro hb
  have hl := Tm.encL_length t.args
  have hsz := Tm.size_eq t
  have hls := Tm.length_sizeL t.args
  have hlim := lim_eq
  rw [hl] at hb ⊢
  have hA : Good [] := fun i n h => by simp at h
  refine range_path_nodes_nil_0 Q _ _ _ _ _ hb (fun k n m h y => ∃ B ix, Part [] t k B ix ∧ n = B.length ∧ m = ix.length ∧ y = encP ix ∧ h = encA B) (fun k n m h y hk hJ K hK => ?_) (fun n m h y hJ => ?_) 0 _ _ _ _ (Nat.zero_le _) ⟨[], [], .start hA t, rfl, rfl, rfl, rfl⟩
  · obtain ⟨B, ix, hp, rfl, rfl, rfl, rfl⟩ := hJ
    simp only [Tm.encL_getD _ k hk, Tm.enc_eq, List.drop_zero, List.headD_cons, List.tail_cons]
    have hm := Tm.sizeL_take_le t.args (k + 1)
    rw [Tm.sizeL_take _ _ hk] at hm
    have hlen : B.length = 0 + _ := hp.len
    refine ⟨by omega, by omega, path_nodes_ok _ B hp.good (by omega) _ fun C hC => ⟨rfl, rfl, ?_⟩⟩
    obtain ⟨x, hx, hxt⟩ := hC.last
    have hpos := Tm.size_pos (t.args[k])
    have hcl := hC.len
    show (encA C).length = C.length ∧ (C.length ≤ big → _)
    refine ⟨encA_length C, fun hb2 => ?_⟩
    rw [big_eq] at hb2
    have e : IntKind.i64.wrap (((C.length : Nat) : Int) - 1) = ((C.length - 1 : Nat) : Int) := by rw [wrap_in _ (by omega) (by omega)]; omega
    show (encP ix).length = ix.length ∧ ix.length + 1 ≤ lim ∧ K C.length (ix.length + 1) (encA C) (encP ix ++ [[V.i (IntKind.i64.wrap (((C.length : Nat) : Int) - 1))]])
    rw [e]
    have hixl := hp.ixlen
    refine ⟨encP_length ix, by omega, hK _ _ _ _ ⟨C, ix ++ [((C.length - 1 : Nat) : Int)], hp.next hk hC.good hC.pre hC.len hx hxt hC.fm hC.eq, rfl, by simp, ?_, rfl⟩⟩
    rw [encP_append]; rfl
  · obtain ⟨B, ix, hp, rfl, rfl, rfl, rfl⟩ := hJ
    have hend := hp.ends
    have hcl := hend.len
    have hq := hQ _ hend
    rw [List.length_append] at hcl
    rw [encA_append] at hq
    have : B.length + 1 = 0 + t.size := hcl
    refine ⟨(encP_length ix).symm, encA_length B, ?_, ?_, hq⟩
    · show B.length + 1 ≤ lim
      omega
    · show B.length + 1 = (encA B ++ [_]).length
      rw [List.length_append, encA_length]; rfl
end Go.Proofs.YtehchnjnbbnkbaaGreat
set_option linter.unusedVariables false
set_option linter.unusedSimpArgs false
namespace Go.Proofs.YtehchnjnbbnkbaaGreat
open Go.Abs
def Memo (p : Tm → Tm → Bool) (A B : List Nd) (m : List Int) : Prop := m.length = A.length * B.length ∧
  ∀ (i k : Nat) (x y : Nd), A[i]? = some x → B[k]? = some y → ∃ v, m[i * B.length + k]? = some v ∧ (v = 0 ∨ v = if p x.tm y.tm then 1 else 2)
theorem cell_lt {i k a b : Nat} (hi : i < a) (hk : k < b) : i * b + k < a * b := by
  have := Nat.mul_le_mul_right b (show i + 1 ≤ a by omega)
  rw [Nat.add_mul] at this
  omega
theorem cell_inj {i k i' k' b : Nat} (hk : k < b) (hk' : k' < b) (h : i * b + k = i' * b + k') : i = i' ∧ k = k' := by
  have h1 : (i * b + k) / b = i := by rw [Nat.mul_comm, Nat.mul_add_div (by omega), Nat.div_eq_of_lt hk]; rfl
  have h2 : (i' * b + k') / b = i' := by rw [Nat.mul_comm, Nat.mul_add_div (by omega), Nat.div_eq_of_lt hk']; rfl
  rw [h, h2] at h1
  subst h1
  exact ⟨rfl, by omega⟩
theorem Memo.set {p : Tm → Tm → Bool} {A B : List Nd} {m : List Int} (h : Memo p A B m) {i k : Nat} {x y : Nd} (hx : A[i]? = some x) (hy : B[k]? = some y) {v : Int} (hv : v = if p x.tm y.tm then 1 else 2) :
    Memo p A B (m.set (i * B.length + k) v) := by
  have hi := (List.getElem?_eq_some_iff.1 hx).1
  have hk := (List.getElem?_eq_some_iff.1 hy).1
  refine ⟨by rw [List.length_set]; exact h.1, fun i' k' x' y' hx' hy' => ?_⟩
  have hk' := (List.getElem?_eq_some_iff.1 hy').1
  by_cases he : i * B.length + k = i' * B.length + k'
  · obtain ⟨rfl, rfl⟩ := cell_inj hk hk' he
    rw [hx] at hx'
    rw [hy] at hy'
    obtain rfl := Option.some.inj hx'
    obtain rfl := Option.some.inj hy'
    have := cell_lt hi hk
    rw [List.getElem?_set_self (by rw [h.1]; exact this)]
    exact ⟨v, rfl, .inr hv⟩
  · rw [List.getElem?_set_ne he]
    exact h.2 i' k' x' y' hx' hy'
theorem at_eq {i k n : Nat} (h : i * n + k ≤ 1000000000) : IntKind.i64.wrap ((IntKind.i64.wrap ((i : Int) * ((n : Nat) : Int))) + (k : Int)) = ((i * n + k : Nat) : Int) := by
  rw [← Int.natCast_mul, wrap_in ((i * n : Nat) : Int) (by omega) (by omega), wrap_in _ (by omega) (by omega)]
  omega
theorem encP_get {m : List Int} {j : Nat} {v : Int} (h : m[j]? = some v) : (encP m).getD j [] = [.i v] := by
  rw [encP, List.getD_eq_getElem?_getD, List.getElem?_map, h]; rfl
theorem encP_set (m : List Int) (j : Nat) (v : Int) (h : j < m.length) : (encP m).set j (setV ((encP m).getD j []) 0 [V.i v]) = encP (m.set j v) := by
  rw [encP_getD _ _ h, encP, encP, List.map_set]; rfl
abbrev hp (l : Rks) (A B : List Nd) (kn sm : List Int) : Heap :=
  [.cells [.v (.sl t_Rank) (.l (encRks l)), .v (.sl t_path_node) (.l (encA A)), .osl (.own 1) B.length, .osl (.own 2) kn.length, .osl (.own 3) sm.length], .row t_path_node (encA B), .row t_uint8 (encP kn), .row t_uint8 (encP sm)]
theorem args_ne {s t : Tm} {n : Nat} (h1 : n < s.args.length) (h2 : n < t.args.length) (h : s.args[n] ≠ t.args[n]) : s ≠ t := fun e => by subst e; exact h rfl
theorem equal_ok (l : Rks) (A B : List Nd) (kn : List Int) (hA : Good A) (hB : Good B) (hAB : A.length * B.length ≤ 1000000000) :
    ∀ (N i k : Nat) (x y : Nd) (sm : List Int), i < N → A[i]? = some x → B[k]? = some y → Memo Tm.eqB A B sm →
    ∀ Q : D → Heap → Prop, (∀ sm', Memo Tm.eqB A B sm' → Q (bD (Tm.eqB x.tm y.tm)) (hp l A B kn sm')) →
    cl f_path_comparer_equal [.ptr (.own 0) 0, iD i, iD k] (hp l A B kn sm) Q := by
  intro N
  induction N with
  | zero => intro i k x y sm h; omega
  | succ N ih =>
  intro i k x y sm hN hx hy hm Q hQ
  have hi := (List.getElem?_eq_some_iff.1 hx).1
  have hk := (List.getElem?_eq_some_iff.1 hy).1
  have hlt := cell_lt hi hk
  refine C_path_comparer_equal _ _ _ _ _ _ _ _ _ _ _ ?_
  unfold vc_path_comparer_equal
  refine ⟨encA_length B, fun hb => ?_⟩
  rw [big_eq] at hb
  rw [at_eq (by omega)]
  have hsl := hm.1
  have fin : ∀ sm', Memo Tm.eqB A B sm' → (∃ v, sm'[i * B.length + k]? = some v ∧ v ≠ 0) → jp_path_comparer_equal_2 Q ((i * B.length + k : Nat) : Int) (.l (encRks l)) (.l (encA A)) B.length kn.length sm'.length (encA B) (encP kn) (encP sm') := fun sm' hm' hv => by
    rw [jp_path_comparer_equal_2_s]
    unfold je_path_comparer_equal_2
    have hl' := hm'.1
    refine ⟨encP_length _, by omega, by omega, encP_length _, by omega, trivial, ?_⟩
    obtain ⟨v, h1, h2⟩ := hm'.2 i k x y hx hy
    obtain ⟨v', h3, h4⟩ := hv
    rw [h1] at h3
    obtain rfl := Option.some.inj h3
    rw [Int.toNat_natCast, encP_get h1]
    have hq := hQ sm' hm'
    have e : (v == 1) = Tm.eqB x.tm y.tm := by
      rcases h2 with h2 | h2
      · exact absurd h2 h4
      · subst h2
        cases Tm.eqB x.tm y.tm <;> rfl
    show Q (bD (v == 1)) _
    rw [e]
    exact hq
  obtain ⟨v0, hv0, hv0'⟩ := hm.2 i k x y hx hy
  refine ⟨encP_length _, by omega, by omega, encP_length _, by omega, ?_⟩
  rw [Int.toNat_natCast, encP_get hv0, Int.toNat_natCast, Int.toNat_natCast]
  refine iff_beq (fun h0 => ?_) (fun h0 => fin sm hm ⟨v0, hv0, h0⟩)
  rw [encA_getD A i x hx, encA_getD B k y hy]
  simp only [List.drop_zero, List.headD_cons, List.tail_cons, V.bool, V.str, V.list]
  -- the loop
  have loop : ∀ ok : Bool, (ok = true → x.tm.var = y.tm.var ∧ x.tm.name = y.tm.name ∧ x.tm.args.length = y.tm.args.length) → (ok = false → x.tm ≠ y.tm) →
      jp_path_comparer_equal_0 Q ((i * B.length + k : Nat) : Int) ok (.s x.tm.name) (.b x.tm.var) (.l (Tm.encL x.tm.args)) (.l (encP x.ix)) (.s y.tm.name) (.b y.tm.var) (.l (Tm.encL y.tm.args)) (.l (encP y.ix)) (encRks l) (encA A) B.length kn.length sm.length (encA B) (encP kn) (encP sm) := by
    intro ok hok hno
    obtain ⟨hxl, hxf⟩ := hA i x hx
    obtain ⟨hyl, hyf⟩ := hB k y hy
    rw [jp_path_comparer_equal_0_s]
    unfold je_path_comparer_equal_0
    refine rule_path_comparer_equal_0 Q (fun x7 x10 x11 _ _ _ y8_3 _ _ _ y9_3 h0_0 h0_1 h0_2n h0_3n h0_4n h1 h2 h3 => ∃ (ok : Bool) (n : Nat) (sm' : List Int), x7 = ((i * B.length + k : Nat) : Int) ∧ x10 = .b ok ∧ x11 = (n : Int) ∧ y8_3 = .l (encP x.ix) ∧ y9_3 = .l (encP y.ix) ∧ h0_0 = .l (encRks l) ∧ h0_1 = .l (encA A) ∧ h0_2n = B.length ∧ h0_3n = kn.length ∧ h0_4n = sm'.length ∧ h1 = encA B ∧ h2 = encP kn ∧ h3 = encP sm' ∧ Memo Tm.eqB A B sm' ∧
        (ok = true → x.tm.var = y.tm.var ∧ x.tm.name = y.tm.name ∧ x.tm.args.length = y.tm.args.length ∧ n ≤ x.tm.args.length ∧ x.tm.args.take n = y.tm.args.take n) ∧ (ok = false → x.tm ≠ y.tm))
      (fun _ _ x11 _ _ _ y8_3 _ _ _ _ _ _ _ _ _ _ _ _ => y8_3.list.length - x11.toNat) ?_ _ _ _ _ _ _ _ _ _ _ _ _ _ _ _ _ _ _ _
      ⟨ok, 0, sm, rfl, rfl, rfl, rfl, rfl, rfl, rfl, rfl, rfl, rfl, rfl, rfl, rfl, hm, fun h => ⟨(hok h).1, (hok h).2.1, (hok h).2.2, Nat.zero_le _, rfl⟩, hno⟩
    intro x7 x10 x11 y8_0 y8_1 y8_2 y8_3 y9_0 y9_1 y9_2 y9_3 h0_0 h0_1 h0_2n h0_3n h0_4n h1 h2 h3 hI m0 hK
    obtain ⟨ok, n, sm', rfl, rfl, rfl, rfl, rfl, rfl, rfl, rfl, rfl, rfl, rfl, rfl, rfl, hm', hok, hno⟩ := hI
    have hsl' := hm'.1
    unfold st_path_comparer_equal_0
    have hxe := encP_length x.ix
    have hye := encP_length y.ix
    -- the end of the loop
    have exit : ∀ ok' : Bool, ok' = Tm.eqB x.tm y.tm → ((encP sm').length = sm'.length ∧ 0 ≤ ((i * B.length + k : Nat) : Int) ∧ ((i * B.length + k : Nat) : Int) < sm'.length ∧ (encP sm').length = sm'.length ∧ (((i * B.length + k : Nat) : Int)).toNat < sm'.length ∧ iff ok' (((encP sm').set (((i * B.length + k : Nat) : Int)).toNat (setV ((encP sm').getD (((i * B.length + k : Nat) : Int)).toNat []) 0 [V.i 2])).length = sm'.length ∧ 0 ≤ ((i * B.length + k : Nat) : Int) ∧ ((i * B.length + k : Nat) : Int) < sm'.length ∧ ((encP sm').set (((i * B.length + k : Nat) : Int)).toNat (setV ((encP sm').getD (((i * B.length + k : Nat) : Int)).toNat []) 0 [V.i 2])).length = sm'.length ∧ (((i * B.length + k : Nat) : Int)).toNat < sm'.length ∧ jp_path_comparer_equal_2 Q ((i * B.length + k : Nat) : Int) (.l (encRks l)) (.l (encA A)) B.length kn.length sm'.length (encA B) (encP kn) (((encP sm').set (((i * B.length + k : Nat) : Int)).toNat (setV ((encP sm').getD (((i * B.length + k : Nat) : Int)).toNat []) 0 [V.i 2])).set (((i * B.length + k : Nat) : Int)).toNat (setV (((encP sm').set (((i * B.length + k : Nat) : Int)).toNat (setV ((encP sm').getD (((i * B.length + k : Nat) : Int)).toNat []) 0 [V.i 2])).getD (((i * B.length + k : Nat) : Int)).toNat []) 0 [V.i 1]))) (jp_path_comparer_equal_2 Q ((i * B.length + k : Nat) : Int) (.l (encRks l)) (.l (encA A)) B.length kn.length sm'.length (encA B) (encP kn) ((encP sm').set (((i * B.length + k : Nat) : Int)).toNat (setV ((encP sm').getD (((i * B.length + k : Nat) : Int)).toNat []) 0 [V.i 2])))) := by
      intro ok' he
      have hj : i * B.length + k < sm'.length := by omega
      rw [Int.toNat_natCast, encP_set _ _ _ hj]
      have hj2 : i * B.length + k < (sm'.set (i * B.length + k) 2).length := by rw [List.length_set]; exact hj
      rw [encP_set _ _ _ hj2, List.set_set]
      have e2 : (encP (sm'.set (i * B.length + k) 2)).length = sm'.length := by rw [encP_length, List.length_set]
      refine ⟨encP_length _, by omega, by omega, encP_length _, hj, iff_intro (fun h => ⟨e2, by omega, by omega, e2, hj, ?_⟩) (fun h => ?_)⟩
      · have := fin (sm'.set (i * B.length + k) 1) (hm'.set hx hy (by rw [← he, h]; rfl)) ⟨1, by rw [List.getElem?_set_self hj], by omega⟩
        rw [List.length_set] at this
        exact this
      · have := fin (sm'.set (i * B.length + k) 2) (hm'.set hx hy (by rw [← he, h]; rfl)) ⟨2, by rw [List.getElem?_set_self hj], by omega⟩
        rw [List.length_set] at this
        exact this
    refine iff_intro (fun h => ?_) (fun h => ?_)
    · have h : ok = true := h
      obtain ⟨g1, g2, g3, g4, g5⟩ := hok h
      intro hb2
      have hb2 : (encP x.ix).length ≤ 9223372036854775807 := by rw [← big_eq]; exact hb2
      refine iff_dec (fun hlt2 => ?_) (fun hlt2 => ?_)
      · have hlt2 : (n : Int) < ((encP x.ix).length : Int) := hlt2
        have hn : n < x.tm.args.length := by omega
        have hn2 : n < y.tm.args.length := by omega
        obtain ⟨m1, a1, a2, x', a3, a4⟩ := hxf n _ (List.getElem?_eq_getElem hn)
        obtain ⟨m2, b1, b2, y', b3, b4⟩ := hyf n _ (List.getElem?_eq_getElem hn2)
        rw [jp_path_comparer_equal_1_s]
        unfold je_path_comparer_equal_1
        simp only [V.list]
        rw [Int.toNat_natCast, encP_get a1, encP_get b1]
        refine ⟨by omega, by omega, by omega, by omega, ih m1 m2 x' y' sm' (by omega) a3 b3 hm' _ fun sm2 hm2 => ⟨rfl, rfl, ?_⟩⟩
        rw [wrap_in _ (by omega) (by omega)]
        refine hK _ _ _ _ _ _ _ _ _ _ _ _ _ _ _ _ _ _ _ ⟨Tm.eqB x'.tm y'.tm, n + 1, sm2, rfl, rfl, by omega, rfl, rfl, rfl, rfl, rfl, rfl, rfl, rfl, rfl, rfl, hm2, fun h2 => ⟨g1, g2, g3, hn, ?_⟩, fun h2 => ?_⟩ ?_
        · rw [Tm.eqB_iff, a4, b4] at h2
          rw [List.take_succ_eq_append_getElem hn, List.take_succ_eq_append_getElem hn2, g5, h2]
        · rw [Tm.eqB_false, a4, b4] at h2
          exact args_ne hn hn2 h2
        · show (encP x.ix).length - ((n : Int) + 1).toNat < (encP x.ix).length - ((n : Int)).toNat
          omega
      · have hlt2 : ¬ (n : Int) < ((encP x.ix).length : Int) := hlt2
        have hn : n = x.tm.args.length := by omega
        refine exit ok ?_
        rw [h]
        symm
        rw [Tm.eqB_iff]
        refine Tm.ext g2 g1 ?_
        rw [hn, List.take_length, g3, List.take_length] at g5
        exact g5
    · have h : ok = false := h
      refine exit ok ?_
      rw [h]
      symm
      rw [Tm.eqB_false]
      exact hno h
  obtain ⟨hxl, hxf⟩ := hA i x hx
  obtain ⟨hyl, hyf⟩ := hB k y hy
  refine ⟨by omega, by rw [encA_length]; omega, encA_length B, by omega, by omega, encA_length B, by omega, ?_⟩
  refine iff_beq (fun h1 => ?_) (fun h1 => loop false (fun h => by cases h) fun _ e => h1 (by rw [e]))
  rw [ba_beq]
  refine iff_dec (fun h2 _ _ => loop _ (fun h => ⟨h1, h2, ?_⟩) fun h e => ?_) (fun h2 => loop false (fun h => by cases h) fun _ e => h2 (by rw [e]))
  · rw [beq_iff_eq, encP_length, encP_length] at h; omega
  · rw [beq_eq_false_iff_ne, encP_length, encP_length] at h
    rw [e] at hxl
    exact h (by omega)
end Go.Proofs.YtehchnjnbbnkbaaGreat
set_option linter.unusedVariables false
set_option linter.unusedSimpArgs false
namespace Go.Proofs.YtehchnjnbbnkbaaGreat
open Go.Abs
abbrev hq (l : Rks) (A B : List Nd) (kn sm : List Int) (k : Int) : Heap :=
  [.cells [.ptr (.own 1) 0], .cells [.v (.sl t_Rank) (.l (encRks l)), .v (.sl t_path_node) (.l (encA A)), .osl (.own 2) B.length, .osl (.own 3) kn.length, .osl (.own 4) sm.length], .row t_path_node (encA B), .row t_uint8 (encP kn), .row t_uint8 (encP sm), .cells [.v (.int .i64) (.i k)]]
noncomputable abbrev gtR (l : Rks) : Tm → Tm → Bool := gtB (rankOf l)
def GrtC (l : Rks) (A B : List Nd) (i k : Nat) : Prop := ∀ (x y : Nd) (kn sm : List Int), A[i]? = some x → B[k]? = some y → Memo (gtR l) A B kn → Memo Tm.eqB A B sm →
  ∀ Q : D → Heap → Prop, (∀ kn' sm', Memo (gtR l) A B kn' → Memo Tm.eqB A B sm' → Q (bD (gtR l x.tm y.tm)) (hp l A B kn' sm')) →
  cl f_path_comparer_greater [.ptr (.own 0) 0, iD i, iD k] (hp l A B kn sm) Q
def Clo (l : Rks) (A B : List Nd) (f : FuncId) (k a : Int) (v : Bool) : Prop := ∀ (kn sm : List Int), Memo (gtR l) A B kn → Memo Tm.eqB A B sm →
  ∀ Q : D → Heap → Prop, (∀ kn' sm', Memo (gtR l) A B kn' → Memo Tm.eqB A B sm' → Q (bD v) (hq l A B kn' sm' k)) →
  cl f [iD a, .ptr (.own 0) 0, .ptr (.own 5) 0] (hq l A B kn sm k) Q
section
variable {l : Rks} {A B : List Nd} (hA : Good A) (hB : Good B) (hAB : A.length * B.length ≤ 1000000000)
include hA hB hAB
theorem compare_1_ok {i k : Nat} {x y : Nd} (hx : A[i]? = some x) (hy : B[k]? = some y) (hg : GrtC l A B i k) : Clo l A B f_path_comparer_compare_1 k i (Tm.eqB x.tm y.tm || gtR l x.tm y.tm) := fun kn sm hkn hsm Q hQ => by
  refine C_path_comparer_compare_1 _ _ _ _ _ _ _ _ _ _ _ ?_
  unfold vc_path_comparer_compare_1
  refine equal_ok l A B kn hA hB hAB (i + 1) i k x y sm (by omega) hx hy hsm _ fun sm' hsm' => ⟨rfl, rfl, ?_⟩
  refine iff_intro (fun h => ⟨trivial, ?_⟩) (fun h => ?_)
  · have h : Tm.eqB x.tm y.tm = true := h
    have := hQ kn sm' hkn hsm'
    rw [h, Bool.true_or] at this
    exact this
  · have h : Tm.eqB x.tm y.tm = false := h
    rw [h] at hQ
    exact hg x y kn sm' hx hy hkn hsm' _ fun kn2 sm2 h1 h2 => ⟨rfl, rfl, trivial, hQ kn2 sm2 h1 h2⟩
omit hA hB hAB in
theorem compare_2_ok {i k : Nat} {x y : Nd} (hx : A[i]? = some x) (hy : B[k]? = some y) (hg : GrtC l A B i k) : Clo l A B f_path_comparer_compare_2 i k (!gtR l x.tm y.tm) := fun kn sm hkn hsm Q hQ => by
  refine C_path_comparer_compare_2 _ _ _ _ _ _ _ _ _ _ _ ?_
  unfold vc_path_comparer_compare_2
  exact hg x y kn sm hx hy hkn hsm _ fun kn2 sm2 h1 h2 => ⟨rfl, rfl, trivial, hQ kn2 sm2 h1 h2⟩
end
section
variable {l : Rks} {A B : List Nd} {ix : List Int} {vs : List Bool} {k : Int}
theorem index_1_ok (hl : ix.length = vs.length) (hv : ∀ (j : Nat) (h : j < ix.length) (h' : j < vs.length), Clo l A B f_path_comparer_compare_1 k ix[j] vs[j]) (kn sm : List Int) (hkn : Memo (gtR l) A B kn) (hsm : Memo Tm.eqB A B sm)
    (Q : D → Heap → Prop) (hQ : ∀ kn' sm', Memo (gtR l) A B kn' → Memo Tm.eqB A B sm' → Q (iD (idx id vs)) (hq l A B kn' sm' k)) :
    cl f_slices_IndexFunc_int [psD ix, .fn f_path_comparer_compare_1 [.ptr (.own 0) 0, .ptr (.own 5) 0]] (hq l A B kn sm k) Q := by
  refine C_slices_IndexFunc_int_pathcomparercompare1 _ _ _ _ _ _ _ _ _ _ _ ?_
  unfold vc_slices_IndexFunc_int_pathcomparercompare1
  intro hb
  have he := encP_length ix
  rw [he] at hb ⊢
  refine range_slices_IndexFunc_int_pathcomparercompare1_0 Q _ _ hb (fun j h1_0 h1_1 h1_2n h1_3n h1_4n h2 h3 h4 h5_0 => ∃ kn sm, h1_0 = .l (encRks l) ∧ h1_1 = .l (encA A) ∧ h1_2n = B.length ∧ h1_3n = kn.length ∧ h1_4n = sm.length ∧ h2 = encA B ∧ h3 = encP kn ∧ h4 = encP sm ∧ h5_0 = .i k ∧ Memo (gtR l) A B kn ∧ Memo Tm.eqB A B sm ∧ (vs.take j).any id = false)
    (fun j h1_0 h1_1 h1_2n h1_3n h1_4n h2 h3 h4 h5_0 hj hJ K hK => ?_) (fun h1_0 h1_1 h1_2n h1_3n h1_4n h2 h3 h4 h5_0 hJ => ?_) 0 _ _ _ _ _ _ _ _ _ (Nat.zero_le _) ⟨kn, sm, rfl, rfl, rfl, rfl, rfl, rfl, rfl, rfl, rfl, hkn, hsm, rfl⟩
  · obtain ⟨kn1, sm1, rfl, rfl, rfl, rfl, rfl, rfl, rfl, rfl, rfl, h1, h2, h3⟩ := hJ
    have hj2 : j < vs.length := by omega
    rw [encP_getD _ _ hj]
    simp only [List.drop_zero, List.headD_cons]
    refine ⟨by omega, by omega, hv j hj hj2 kn1 sm1 h1 h2 _ fun kn2 sm2 g1 g2 => ⟨rfl, rfl, iff_intro (fun h => ⟨trivial, ?_⟩) (fun h => hK _ _ _ _ _ _ _ _ _ ⟨kn2, sm2, rfl, rfl, rfl, rfl, rfl, rfl, rfl, rfl, rfl, g1, g2, any_take hj2 h3 h⟩)⟩⟩
    have := hQ kn2 sm2 g1 g2
    rw [idx_at hj2 h3 h] at this
    exact this
  · obtain ⟨kn1, sm1, rfl, rfl, rfl, rfl, rfl, rfl, rfl, rfl, rfl, h1, h2, h3⟩ := hJ
    rw [hl, List.take_length] at h3
    have := hQ kn1 sm1 h1 h2
    rw [idx_none h3] at this
    exact ⟨trivial, this⟩
theorem contains_1_ok (hl : ix.length = vs.length) (hv : ∀ (j : Nat) (h : j < ix.length) (h' : j < vs.length), Clo l A B f_path_comparer_compare_1 k ix[j] vs[j]) (kn sm : List Int) (hkn : Memo (gtR l) A B kn) (hsm : Memo Tm.eqB A B sm)
    (Q : D → Heap → Prop) (hQ : ∀ kn' sm', Memo (gtR l) A B kn' → Memo Tm.eqB A B sm' → Q (bD (vs.any id)) (hq l A B kn' sm' k)) :
    cl f_slices_ContainsFunc_int [psD ix, .fn f_path_comparer_compare_1 [.ptr (.own 0) 0, .ptr (.own 5) 0]] (hq l A B kn sm k) Q := by
  refine C_slices_ContainsFunc_int_pathcomparercompare1 _ _ _ _ _ _ _ _ _ _ _ ?_
  unfold vc_slices_ContainsFunc_int_pathcomparercompare1
  refine index_1_ok hl hv kn sm hkn hsm _ fun kn2 sm2 g1 g2 => ⟨rfl, rfl, trivial, ?_⟩
  have := hQ kn2 sm2 g1 g2
  rw [← idx_any] at this
  exact this
theorem index_2_ok (hl : ix.length = vs.length) (hv : ∀ (j : Nat) (h : j < ix.length) (h' : j < vs.length), Clo l A B f_path_comparer_compare_2 k ix[j] vs[j]) (kn sm : List Int) (hkn : Memo (gtR l) A B kn) (hsm : Memo Tm.eqB A B sm)
    (Q : D → Heap → Prop) (hQ : ∀ kn' sm', Memo (gtR l) A B kn' → Memo Tm.eqB A B sm' → Q (iD (idx id vs)) (hq l A B kn' sm' k)) :
    cl f_slices_IndexFunc_int [psD ix, .fn f_path_comparer_compare_2 [.ptr (.own 0) 0, .ptr (.own 5) 0]] (hq l A B kn sm k) Q := by
  refine C_slices_IndexFunc_int_pathcomparercompare2 _ _ _ _ _ _ _ _ _ _ _ ?_
  unfold vc_slices_IndexFunc_int_pathcomparercompare2
  intro hb
  have he := encP_length ix
  rw [he] at hb ⊢
  refine range_slices_IndexFunc_int_pathcomparercompare2_0 Q _ _ hb (fun j h1_0 h1_1 h1_2n h1_3n h1_4n h2 h3 h4 h5_0 => ∃ kn sm, h1_0 = .l (encRks l) ∧ h1_1 = .l (encA A) ∧ h1_2n = B.length ∧ h1_3n = kn.length ∧ h1_4n = sm.length ∧ h2 = encA B ∧ h3 = encP kn ∧ h4 = encP sm ∧ h5_0 = .i k ∧ Memo (gtR l) A B kn ∧ Memo Tm.eqB A B sm ∧ (vs.take j).any id = false)
    (fun j h1_0 h1_1 h1_2n h1_3n h1_4n h2 h3 h4 h5_0 hj hJ K hK => ?_) (fun h1_0 h1_1 h1_2n h1_3n h1_4n h2 h3 h4 h5_0 hJ => ?_) 0 _ _ _ _ _ _ _ _ _ (Nat.zero_le _) ⟨kn, sm, rfl, rfl, rfl, rfl, rfl, rfl, rfl, rfl, rfl, hkn, hsm, rfl⟩
  · obtain ⟨kn1, sm1, rfl, rfl, rfl, rfl, rfl, rfl, rfl, rfl, rfl, h1, h2, h3⟩ := hJ
    have hj2 : j < vs.length := by omega
    rw [encP_getD _ _ hj]
    simp only [List.drop_zero, List.headD_cons]
    refine ⟨by omega, by omega, hv j hj hj2 kn1 sm1 h1 h2 _ fun kn2 sm2 g1 g2 => ⟨rfl, rfl, iff_intro (fun h => ⟨trivial, ?_⟩) (fun h => hK _ _ _ _ _ _ _ _ _ ⟨kn2, sm2, rfl, rfl, rfl, rfl, rfl, rfl, rfl, rfl, rfl, g1, g2, any_take hj2 h3 h⟩)⟩⟩
    have := hQ kn2 sm2 g1 g2
    rw [idx_at hj2 h3 h] at this
    exact this
  · obtain ⟨kn1, sm1, rfl, rfl, rfl, rfl, rfl, rfl, rfl, rfl, rfl, h1, h2, h3⟩ := hJ
    rw [hl, List.take_length] at h3
    have := hQ kn1 sm1 h1 h2
    rw [idx_none h3] at this
    exact ⟨trivial, this⟩
theorem contains_2_ok (hl : ix.length = vs.length) (hv : ∀ (j : Nat) (h : j < ix.length) (h' : j < vs.length), Clo l A B f_path_comparer_compare_2 k ix[j] vs[j]) (kn sm : List Int) (hkn : Memo (gtR l) A B kn) (hsm : Memo Tm.eqB A B sm)
    (Q : D → Heap → Prop) (hQ : ∀ kn' sm', Memo (gtR l) A B kn' → Memo Tm.eqB A B sm' → Q (bD (vs.any id)) (hq l A B kn' sm' k)) :
    cl f_slices_ContainsFunc_int [psD ix, .fn f_path_comparer_compare_2 [.ptr (.own 0) 0, .ptr (.own 5) 0]] (hq l A B kn sm k) Q := by
  refine C_slices_ContainsFunc_int_pathcomparercompare2 _ _ _ _ _ _ _ _ _ _ _ ?_
  unfold vc_slices_ContainsFunc_int_pathcomparercompare2
  refine index_2_ok hl hv kn sm hkn hsm _ fun kn2 sm2 g1 g2 => ⟨rfl, rfl, trivial, ?_⟩
  have := hQ kn2 sm2 g1 g2
  rw [← idx_any] at this
  exact this
end
end Go.Proofs.YtehchnjnbbnkbaaGreat
set_option linter.unusedVariables false
set_option linter.unusedSimpArgs false
namespace Go.Proofs.YtehchnjnbbnkbaaGreat
open Go.Abs
theorem compare_ok {l : Rks} {A B : List Nd} (hs : Sorted l) (hn : l.length ≤ 256) (hA : Good A) (hB : Good B) (hAB : A.length * B.length ≤ 1000000000)
    (hvA : ∀ x ∈ A, x.tm.var = true → x.tm.args = []) {i k : Nat} (ih : ∀ i' k', i' + k' < i + k → GrtC l A B i' k') {x y : Nd} (hx : A[i]? = some x) (hy : B[k]? = some y)
    (kn sm : List Int) (hkn : Memo (gtR l) A B kn) (hsm : Memo Tm.eqB A B sm) (Q : D → Heap → Prop)
    (hQ : ∀ kn' sm', Memo (gtR l) A B kn' → Memo Tm.eqB A B sm' → Q (bD (gtR l x.tm y.tm)) (hp l A B kn' sm')) :
    cl f_path_comparer_compare [.ptr (.own 0) 0, iD i, iD k] (hp l A B kn sm) Q := by
  have hi := (List.getElem?_eq_some_iff.1 hx).1
  have hk := (List.getElem?_eq_some_iff.1 hy).1
  have yes : Gt (rankOf l) x.tm y.tm → ∀ kn' sm', Memo (gtR l) A B kn' → Memo Tm.eqB A B sm' → Q (bD true) (hp l A B kn' sm') := fun h kn' sm' h1 h2 => by
    have := hQ kn' sm' h1 h2
    rw [show gtR l x.tm y.tm = true from gtB_true.2 h] at this
    exact this
  have no : ¬ Gt (rankOf l) x.tm y.tm → ∀ kn' sm', Memo (gtR l) A B kn' → Memo Tm.eqB A B sm' → Q (bD false) (hp l A B kn' sm') := fun h kn' sm' h1 h2 => by
    have := hQ kn' sm' h1 h2
    rw [show gtR l x.tm y.tm = false from gtB_false.2 h] at this
    exact this
  have hu := Gt.unfold_iff (r := rankOf l) x.tm y.tm
  obtain ⟨hxl, hxf⟩ := hA i x hx
  obtain ⟨hyl, hyf⟩ := hB k y hy
  have hxe := encP_length x.ix
  have hye := encP_length y.ix
  refine C_path_comparer_compare _ _ _ _ _ _ _ _ _ _ _ ?_
  unfold vc_path_comparer_compare
  simp only [Int.toNat_natCast, encA_getD A i x hx, encA_getD B k y hy, List.drop_zero, List.headD_cons, List.tail_cons, V.bool]
  refine ⟨by omega, by rw [encA_length]; omega, encA_length B, by omega, by omega, encA_length B, by omega, ?_⟩
  refine contains_1_ok (vs := x.tm.args.map fun a => Tm.eqB a y.tm || gtR l a y.tm) (by rw [List.length_map]; exact hxl) (fun j h h' => ?_) kn sm hkn hsm _ fun kn1 sm1 hkn1 hsm1 => ⟨rfl, rfl, ?_⟩
  · rw [List.length_map] at h'
    obtain ⟨m, a1, a2, x', a3, a4⟩ := hxf j _ (List.getElem?_eq_getElem h')
    rw [List.getElem?_eq_getElem h] at a1
    rw [Option.some.inj a1, List.getElem_map, ← a4]
    exact compare_1_ok hA hB hAB a3 hy (ih m k (by omega))
  rw [List.any_map]
  refine iff_intro (fun h => ⟨trivial, yes ?_ _ _ hkn1 hsm1⟩) (fun h => ?_)
  · have h : (x.tm.args.any (id ∘ fun a => Tm.eqB a y.tm || gtR l a y.tm)) = true := h
    obtain ⟨a, ha, hp⟩ := List.any_eq_true.1 h
    have hv : x.tm.var = false := by
      cases hv : x.tm.var with
      | false => rfl
      | true => rw [hvA x (List.mem_of_getElem? hx) hv] at ha; cases ha
    have hp : (Tm.eqB a y.tm || gtR l a y.tm) = true := hp
    rw [Bool.or_eq_true] at hp
    rcases hp with hp | hp
    · rw [Tm.eqB_iff] at hp
      exact .arg _ _ hv (hp ▸ ha)
    · exact .sub _ _ a hv ha (gtB_true.1 hp)
  have h : (x.tm.args.any (id ∘ fun a => Tm.eqB a y.tm || gtR l a y.tm)) = false := h
  have hnoarg : ¬ ∃ a ∈ x.tm.args, a = y.tm ∨ Gt (rankOf l) a y.tm := by
    rintro ⟨a, ha, hc⟩
    have h2 := List.any_eq_false.1 h a ha
    apply h2
    show (Tm.eqB a y.tm || gtR l a y.tm) = true
    rw [Bool.or_eq_true]
    rcases hc with hc | hc
    · exact .inl (Tm.eqB_iff.2 hc)
    · exact .inr (gtB_true.2 hc)
  refine iff_intro (fun hv => ⟨trivial, no (fun hg => ?_) _ _ hkn1 hsm1⟩) (fun hv => ?_)
  · have := hg.nonvar
    rw [hv] at this; cases this
  refine iff_intro (fun hw => ⟨trivial, no (fun hg => ?_) _ _ hkn1 hsm1⟩) (fun hw => ?_)
  · rcases hu.1 hg with ⟨_, h | ⟨h, _⟩⟩
    · exact hnoarg h
    · rw [hw] at h; cases h
  -- from here on both are applied symbols
  have j2 : ∀ same : Bool, (same = true → x.tm.name = y.tm.name ∧ x.tm.args.length = y.tm.args.length) → (same = false → rankOf l y.tm.name < rankOf l x.tm.name) →
      jp_path_comparer_compare_2 Q same i (.s x.tm.name) (.b x.tm.var) (.l (Tm.encL x.tm.args)) (.l (encP x.ix)) (.s y.tm.name) (.b y.tm.var) (.l (Tm.encL y.tm.args)) (.l (encP y.ix)) (.l (encRks l)) (.l (encA A)) B.length kn1.length sm1.length (encA B) (encP kn1) (encP sm1) := by
    intro same hsame hprec
    rw [jp_path_comparer_compare_2_s]
    unfold je_path_comparer_compare_2
    refine contains_2_ok (vs := y.tm.args.map fun b => !gtR l x.tm b) (by rw [List.length_map]; exact hyl) (fun j h h' => ?_) kn1 sm1 hkn1 hsm1 _ fun kn2 sm2 hkn2 hsm2 => ⟨rfl, rfl, ?_⟩
    · rw [List.length_map] at h'
      obtain ⟨m, a1, a2, y', a3, a4⟩ := hyf j _ (List.getElem?_eq_getElem h')
      rw [List.getElem?_eq_getElem h] at a1
      rw [Option.some.inj a1, List.getElem_map, ← a4]
      exact compare_2_ok hx a3 (ih i m (by omega))
    rw [List.any_map]
    refine iff_intro (fun h => ⟨trivial, no (fun hg => ?_) _ _ hkn2 hsm2⟩) (fun h => ?_)
    · have h : (y.tm.args.any (id ∘ fun b => !gtR l x.tm b)) = true := h
      obtain ⟨b, hb, hp⟩ := List.any_eq_true.1 h
      have hp : (!gtR l x.tm b) = true := hp
      rw [Bool.not_eq_true'] at hp
      exact gtB_false.1 hp (hg.trans (.arg _ _ hw hb))
    have h : (y.tm.args.any (id ∘ fun b => !gtR l x.tm b)) = false := h
    have hall : ∀ b ∈ y.tm.args, Gt (rankOf l) x.tm b := fun b hb => by
      have := List.any_eq_false.1 h b hb
      have : ¬ (!gtR l x.tm b) = true := this
      rw [Bool.not_eq_true', Bool.not_eq_false] at this
      exact gtB_true.1 this
    refine iff_not (iff_intro (fun h2 hb => ?_) (fun h2 => ⟨trivial, yes (.prec _ _ hv hw (hprec h2) hall) _ _ hkn2 hsm2⟩))
    obtain ⟨hnm, hlen⟩ := hsame h2
    have hb : (encP x.ix).length ≤ big := hb
    show ∃ m0, lp_path_comparer_compare_0 Q m0 ((encP x.ix).length : Int) 0 _ _ _ _ _ _ _ _ _ _ _ _ _ _ _ _
    rw [hxe] at hb ⊢
    have hb' := hb
    rw [big_eq] at hb'
    refine range_path_comparer_compare_0 Q _ _ _ _ _ _ _ _ _ hb (fun j h0_0 h0_1 h0_2n h0_3n h0_4n h1 h2 h3 => ∃ kn sm, h0_0 = .l (encRks l) ∧ h0_1 = .l (encA A) ∧ h0_2n = B.length ∧ h0_3n = kn.length ∧ h0_4n = sm.length ∧ h1 = encA B ∧ h2 = encP kn ∧ h3 = encP sm ∧ Memo (gtR l) A B kn ∧ Memo Tm.eqB A B sm ∧ x.tm.args.take j = y.tm.args.take j)
      (fun j h0_0 h0_1 h0_2n h0_3n h0_4n h1 h2 h3 hj hJ K hK => ?_) (fun h0_0 h0_1 h0_2n h0_3n h0_4n h1 h2 h3 hJ => ?_) 0 _ _ _ _ _ _ _ _ (Nat.zero_le _) ⟨kn2, sm2, rfl, rfl, rfl, rfl, rfl, rfl, rfl, rfl, hkn2, hsm2, rfl⟩
    · obtain ⟨kn3, sm3, rfl, rfl, rfl, rfl, rfl, rfl, rfl, rfl, h1, h2, h3⟩ := hJ
      have hj1 : j < x.tm.args.length := by omega
      have hj2 : j < y.tm.args.length := by omega
      have e1 := List.getElem?_eq_getElem hj1
      have e2 := List.getElem?_eq_getElem hj2
      obtain ⟨m1, a1, a2, x', a3, a4⟩ := hxf j _ e1
      obtain ⟨m2, b1, b2, y', b3, b4⟩ := hyf j _ e2
      simp only [V.list]
      rw [encP_get a1, encP_get b1]
      refine ⟨by omega, by omega, by omega, by omega, equal_ok l A B kn3 hA hB hAB (m1 + 1) m1 m2 x' y' sm3 (by omega) a3 b3 h2 _ fun sm4 g1 => ⟨rfl, rfl, ?_⟩⟩
      refine iff_not (iff_intro (fun h5 => hK _ _ _ _ _ _ _ _ ⟨kn3, sm4, rfl, rfl, rfl, rfl, rfl, rfl, rfl, rfl, h1, g1, ?_⟩) (fun h5 => ⟨by omega, by omega, by omega, by omega, ih m1 m2 (by omega) x' y' kn3 sm4 a3 b3 h1 g1 _ fun kn5 sm5 k1 k2 => ⟨rfl, rfl, trivial, ?_⟩⟩))
      · have h5 : Tm.eqB x'.tm y'.tm = true := h5
        rw [Tm.eqB_iff, a4, b4] at h5
        rw [List.take_succ_eq_append_getElem hj1, List.take_succ_eq_append_getElem hj2, h3, h5]
      · have h5 : Tm.eqB x'.tm y'.tm = false := h5
        rw [Tm.eqB_false, a4, b4] at h5
        show Q (bD (gtR l x'.tm y'.tm)) (hp l A B kn5 sm5)
        rw [a4, b4]
        cases hg : gtR l (x.tm.args[j]) (y.tm.args[j]) with
        | true => exact yes (.lex _ _ _ _ j hv hw hnm hlen hall h3 e1 e2 (gtB_true.1 hg)) _ _ k1 k2
        | false =>
          refine no (fun hgt => ?_) _ _ k1 k2
          rcases hu.1 hgt with ⟨_, h6 | ⟨_, _, h6 | ⟨_, _, i', a, b, h7, h8, h9, h10⟩⟩⟩
          · exact hnoarg h6
          · rw [hnm] at h6; omega
          · rcases Nat.lt_trichotomy i' j with hik | rfl | hik
            · have := congrArg (·[i']?) h3
              simp only [List.getElem?_take, if_pos hik] at this
              rw [h8, h9] at this
              obtain rfl := Option.some.inj this
              exact Gt.irrefl _ h10
            · rw [e1] at h8
              rw [e2] at h9
              obtain rfl := Option.some.inj h8
              obtain rfl := Option.some.inj h9
              exact gtB_false.1 hg h10
            · have := congrArg (·[j]?) h7
              simp only [List.getElem?_take, if_pos hik] at this
              rw [e1, e2] at this
              exact h5 (Option.some.inj this)
    · obtain ⟨kn3, sm3, rfl, rfl, rfl, rfl, rfl, rfl, rfl, rfl, h1, h2, h3⟩ := hJ
      refine ⟨trivial, no (fun hg => ?_) _ _ h1 h2⟩
      rw [hxl, List.take_length, hlen, List.take_length] at h3
      exact Gt.irrefl _ ((Tm.ext hnm (by rw [hv, hw]) h3 : x.tm = y.tm) ▸ hg)
  have j1 : ∀ same : Bool, same = decide (x.tm.name = y.tm.name ∧ x.tm.args.length = y.tm.args.length) →
      jp_path_comparer_compare_1 Q (.s x.tm.name) (.s y.tm.name) same i (.s x.tm.name) (.b x.tm.var) (.l (Tm.encL x.tm.args)) (.l (encP x.ix)) (.s y.tm.name) (.b y.tm.var) (.l (Tm.encL y.tm.args)) (.l (encP y.ix)) (.l (encRks l)) (.l (encA A)) B.length kn1.length sm1.length (encA B) (encP kn1) (encP sm1) := by
    rintro _ rfl
    rw [jp_path_comparer_compare_1_s]
    unfold je_path_comparer_compare_1
    refine iff_not (iff_dec (fun h2 => j2 _ (fun _ => h2) (fun h3 => by rw [decide_eq_true h2] at h3; cases h3)) (fun h2 => ?_))
    refine ⟨rkD (ofR l x.tm.name), (path_Of_ok l _ hs hn).here rfl, rkD (ofR l y.tm.name), (path_Of_ok l _ hs hn).here rfl, ?_⟩
    show iff (decide ((ofR l x.tm.name).rank ≤ (ofR l y.tm.name).rank)) _ _
    rw [ofR_rank, ofR_rank]
    refine iff_dec (fun h3 => ⟨trivial, no (fun hg => ?_) _ _ hkn1 hsm1⟩) (fun h3 => j2 _ (fun h4 => absurd (of_decide_eq_true h4) h2) (fun _ => by omega))
    rcases hu.1 hg with ⟨_, h6 | ⟨_, _, h6 | ⟨h7, h8, _⟩⟩⟩
    · exact hnoarg h6
    · omega
    · exact h2 ⟨h7, h8⟩
  rw [jp_path_comparer_compare_0_s]
  unfold je_path_comparer_compare_0
  simp only [V.str, V.list]
  rw [ba_beq]
  refine iff_dec (fun h2 _ _ => j1 _ ?_) (fun h2 => j1 _ ?_)
  · rw [Bool.eq_iff_iff, decide_eq_true_iff, beq_iff_eq]
    constructor
    · intro h3; exact ⟨h2, by omega⟩
    · intro h3; omega
  · rw [decide_eq_false (fun h3 => h2 h3.1)]
theorem greater_ok {l : Rks} {A B : List Nd} (hs : Sorted l) (hn : l.length ≤ 256) (hA : Good A) (hB : Good B) (hAB : A.length * B.length ≤ 1000000000)
    (hvA : ∀ x ∈ A, x.tm.var = true → x.tm.args = []) : ∀ (N i k : Nat), i + k < N → GrtC l A B i k := by
  intro N
  induction N with
  | zero => intro i k h; omega
  | succ N ih =>
  intro i k hN x y kn sm hx hy hkn hsm Q hQ
  have hi := (List.getElem?_eq_some_iff.1 hx).1
  have hk := (List.getElem?_eq_some_iff.1 hy).1
  have hlt := cell_lt hi hk
  have hsl := hkn.1
  refine C_path_comparer_greater _ _ _ _ _ _ _ _ _ _ _ ?_
  unfold vc_path_comparer_greater
  refine ⟨encA_length B, fun hb => ?_⟩
  rw [big_eq] at hb
  rw [at_eq (by omega)]
  have fin : ∀ kn' sm', Memo (gtR l) A B kn' → Memo Tm.eqB A B sm' → (∃ v, kn'[i * B.length + k]? = some v ∧ v ≠ 0) → jp_path_comparer_greater_0 Q ((i * B.length + k : Nat) : Int) (.l (encRks l)) (.l (encA A)) B.length kn'.length sm'.length (encA B) (encP kn') (encP sm') := fun kn' sm' hm' hm2 hv => by
    rw [jp_path_comparer_greater_0_s]
    unfold je_path_comparer_greater_0
    have hl' := hm'.1
    refine ⟨encP_length _, by omega, by omega, encP_length _, by omega, trivial, ?_⟩
    obtain ⟨v, h1, h2⟩ := hm'.2 i k x y hx hy
    obtain ⟨v', h3, h4⟩ := hv
    rw [h1] at h3
    obtain rfl := Option.some.inj h3
    rw [Int.toNat_natCast, encP_get h1]
    have hq := hQ kn' sm' hm' hm2
    have e : (v == 1) = gtR l x.tm y.tm := by
      rcases h2 with h2 | h2
      · exact absurd h2 h4
      · subst h2
        cases gtR l x.tm y.tm <;> rfl
    show Q (bD (v == 1)) _
    rw [e]
    exact hq
  obtain ⟨v0, hv0, hv0'⟩ := hkn.2 i k x y hx hy
  refine ⟨encP_length _, by omega, by omega, encP_length _, by omega, ?_⟩
  rw [Int.toNat_natCast, encP_get hv0]
  refine iff_beq (fun h0 => ?_) (fun h0 => fin kn sm hkn hsm ⟨v0, hv0, h0⟩)
  refine compare_ok hs hn hA hB hAB hvA (fun i' k' h => ih i' k' (by omega)) hx hy kn sm hkn hsm _ fun kn1 sm1 h1 h2 => ⟨rfl, rfl, ?_⟩
  have hl1 := h1.1
  have hj : i * B.length + k < kn1.length := by omega
  show (encP kn1).length = kn1.length ∧ 0 ≤ ((i * B.length + k : Nat) : Int) ∧ ((i * B.length + k : Nat) : Int) < (kn1.length : Int) ∧ (encP kn1).length = kn1.length ∧ i * B.length + k < kn1.length ∧
    iff (gtR l x.tm y.tm) (((encP kn1).set (i * B.length + k) (setV ((encP kn1).getD (i * B.length + k) []) 0 [V.i 2])).length = kn1.length ∧ 0 ≤ ((i * B.length + k : Nat) : Int) ∧ ((i * B.length + k : Nat) : Int) < (kn1.length : Int) ∧ ((encP kn1).set (i * B.length + k) (setV ((encP kn1).getD (i * B.length + k) []) 0 [V.i 2])).length = kn1.length ∧ i * B.length + k < kn1.length ∧
      jp_path_comparer_greater_0 Q ((i * B.length + k : Nat) : Int) (.l (encRks l)) (.l (encA A)) B.length kn1.length sm1.length (encA B) (((encP kn1).set (i * B.length + k) (setV ((encP kn1).getD (i * B.length + k) []) 0 [V.i 2])).set (i * B.length + k) (setV (((encP kn1).set (i * B.length + k) (setV ((encP kn1).getD (i * B.length + k) []) 0 [V.i 2])).getD (i * B.length + k) []) 0 [V.i 1])) (encP sm1))
    (jp_path_comparer_greater_0 Q ((i * B.length + k : Nat) : Int) (.l (encRks l)) (.l (encA A)) B.length kn1.length sm1.length (encA B) ((encP kn1).set (i * B.length + k) (setV ((encP kn1).getD (i * B.length + k) []) 0 [V.i 2])) (encP sm1))
  rw [encP_set _ _ _ hj]
  have hj2 : i * B.length + k < (kn1.set (i * B.length + k) 2).length := by rw [List.length_set]; exact hj
  rw [encP_set _ _ _ hj2, List.set_set]
  have e2 : (encP (kn1.set (i * B.length + k) 2)).length = kn1.length := by rw [encP_length, List.length_set]
  refine ⟨encP_length _, by omega, by omega, encP_length _, hj, iff_intro (fun h => ⟨e2, by omega, by omega, e2, hj, ?_⟩) (fun h => ?_)⟩
  · have := fin (kn1.set (i * B.length + k) 1) sm1 (h1.set hx hy (by rw [h]; rfl)) h2 ⟨1, by rw [List.getElem?_set_self hj], by omega⟩
    rw [List.length_set] at this
    exact this
  · have := fin (kn1.set (i * B.length + k) 2) sm1 (h1.set hx hy (by rw [h]; rfl)) h2 ⟨2, by rw [List.getElem?_set_self hj], by omega⟩
    rw [List.length_set] at this
    exact this
end Go.Proofs.YtehchnjnbbnkbaaGreat
set_option linter.unusedVariables false
set_option linter.unusedSimpArgs false
namespace Go.Proofs.YtehchnjnbbnkbaaGreat
open Go.Abs
theorem zeroRow_eq (n : Nat) : zeroRow [.int .u8] n = encP (List.replicate n 0) := by
  unfold zeroRow encP
  rw [List.map_replicate]
  rfl
theorem memo_start (p : Tm → Tm → Bool) (A B : List Nd) : Memo p A B (List.replicate (A.length * B.length) 0) := by
  refine ⟨List.length_replicate .., fun i k x y hx hy => ⟨0, ?_, .inl rfl⟩⟩
  have hi := (List.getElem?_eq_some_iff.1 hx).1
  have hk := (List.getElem?_eq_some_iff.1 hy).1
  rw [List.getElem?_replicate, if_pos (cell_lt hi hk)]
theorem formed_var {t : Tm} (h : t.formed = true) (hv : t.var = true) : t.args = [] := by
  rw [Tm.formed_eq, hv, if_pos rfl] at h
  simp only [Bool.and_eq_true, List.isEmpty_iff] at h
  exact h.2
theorem path_Above_ok (l : Rks) (s t : Tm) (hs : Sorted l) (hn : l.length ≤ 256) (hsf : s.formed = true) (hss : s.size ≤ 4000) (hts : t.size ≤ 4000) : Fn f_path_Above [rksD l, tD s, tD t] (bD (gtR l s t)) := fun Q hQ => by
  refine C_path_Above _ _ _ _ _ _ _ _ ?_
  unfold vc_path_Above
  have hlim := lim_eq
  have hG : Good [] := fun i n h => by simp at h
  have hA := ends_nds s [] hG
  simp only [List.nil_append, List.length_nil] at hA
  generalize hAe : nds 0 s = A at hA
  have hAl : A.length = 0 + s.size := hA.len
  refine ⟨.v (.sl t_path_node) (.l (encA A)), path_nodes_nil_ok s (by omega) _ fun C hC => ⟨?_, rfl⟩, ?_⟩
  · have := hC.eq
    rw [List.nil_append] at this
    rw [this, List.length_nil, hAe]; rfl
  refine path_nodes_ok t [] hG (by show 0 + _ ≤ _; omega) _ fun B hBe => ⟨rfl, rfl, ?_⟩
  have hBl : B.length = 0 + t.size := hBe.len
  have hprod : A.length * B.length ≤ 4000 * 4000 := Nat.mul_le_mul (by omega) (by omega)
  have hAe2 := encA_length A
  have hBe2 := encA_length B
  have hpa := Tm.size_pos s
  have hpb := Tm.size_pos t
  show (encA B).length = B.length ∧ 0 ≤ IntKind.i64.wrap (((encA A).length : Int) * (((B.length : Nat)) : Int)) ∧ _ ∧ IntKind.i64.wrap (((encA A).length : Int) * (((B.length : Nat)) : Int)) ≤ lim ∧ (encA B).length = B.length ∧ 0 ≤ IntKind.i64.wrap (((encA A).length : Int) * (((B.length : Nat)) : Int)) ∧ _ ∧ IntKind.i64.wrap (((encA A).length : Int) * (((B.length : Nat)) : Int)) ≤ lim ∧ ((encA A).length ≤ big → (encA B).length = B.length ∧ (B.length ≤ big →
    cl f_path_comparer_greater [.ptr (.own 0) 0, .v (.int .i64) (V.i (IntKind.i64.wrap (((encA A).length : Int) - (1 : Int)))), .v (.int .i64) (V.i (IntKind.i64.wrap ((((B.length : Nat) : Int)) - (1 : Int))))] [.cells [.v (.sl t_Rank) (V.l (encRks l)), .v (.sl t_path_node) (.l (encA A)), .osl (.own 1) B.length, .osl (.own 2) (IntKind.i64.wrap (((encA A).length : Int) * (((B.length : Nat)) : Int))).toNat, .osl (.own 3) (IntKind.i64.wrap (((encA A).length : Int) * (((B.length : Nat)) : Int))).toNat], .row t_path_node (encA B), .row t_uint8 (zeroRow [.int .u8] (IntKind.i64.wrap (((encA A).length : Int) * (((B.length : Nat)) : Int))).toNat), .row t_uint8 (zeroRow [.int .u8] (IntKind.i64.wrap (((encA A).length : Int) * (((B.length : Nat)) : Int))).toNat)] _))
  have ep : IntKind.i64.wrap (((encA A).length : Int) * (((B.length : Nat)) : Int)) = ((A.length * B.length : Nat) : Int) := by
    rw [hAe2, ← Int.natCast_mul, wrap_in _ (by omega) (by omega)]
  rw [ep]
  refine ⟨hBe2, by omega, rfl, by omega, hBe2, by omega, rfl, by omega, fun _ => ⟨hBe2, fun _ => ?_⟩⟩
  rw [wrap_in _ (by omega) (by omega), wrap_in _ (by omega) (by omega), Int.toNat_natCast, zeroRow_eq]
  obtain ⟨x, hx, hxt⟩ := hA.last
  obtain ⟨y, hy, hyt⟩ := hBe.last
  have e1 : ((encA A).length : Int) - 1 = ((A.length - 1 : Nat) : Int) := by omega
  have e2 : ((B.length : Nat) : Int) - 1 = ((B.length - 1 : Nat) : Int) := by omega
  rw [e1, e2]
  have hvA : ∀ x ∈ A, x.tm.var = true → x.tm.args = [] := fun z hz hv => by
    rcases hA.fm hsf z hz with h | h
    · cases h
    · exact formed_var h hv
  have g := greater_ok hs hn hA.good hBe.good (by omega) hvA _ _ _ (Nat.lt_succ_self _) x y _ _ hx hy (memo_start _ A B) (memo_start _ A B)
  have el : (List.replicate (A.length * B.length) (0 : Int)).length = A.length * B.length := List.length_replicate ..
  unfold hp at g
  rw [el] at g
  refine g _ fun kn sm h1 h2 => ⟨rfl, rfl, trivial, ?_⟩
  rw [hxt, hyt]
  exact hQ
def grErr (l : Rks) (s t : Tm) : Int := if rkErr l ≠ 0 then rkErr l else Tm.checkAll [s, t]
noncomputable def gr (l : Rks) (s t : Tm) : Bool := decide (grErr l s t = 0) && gtR l s t
theorem check_two {s t : Tm} (h : Tm.checkAll [s, t] = 0) : s.check = 0 ∧ t.check = 0 := by
  rw [Tm.checkAll_zero] at h
  exact ⟨h s (by simp), h t (by simp)⟩
theorem enc_two (s t : Tm) : [[V.s s.name, V.b s.var, V.l (Tm.encL s.args)], [V.s t.name, V.b t.var, V.l (Tm.encL t.args)]] = Tm.encL [s, t] := by
  rw [← Tm.enc_eq s, ← Tm.enc_eq t]; rfl
theorem path_Greater_ok (l : Rks) (s t : Tm) (hs : s.size ≤ small) (ht : t.size ≤ small) : Fn f_path_Greater [rksD l, tD s, tD t] (.tup [bD (gr l s t), iD (grErr l s t)]) := fun Q hQ => by
  refine C_path_Greater _ _ _ _ _ _ _ _ ?_
  unfold vc_path_Greater
  unfold gr grErr at hQ
  refine path_Check_ok l _ ⟨rfl, rfl, iff_bne (fun h => ⟨⟨trivial, trivial, trivial⟩, ?_⟩) (fun h => ?_)⟩
  · have h : rkErr l ≠ 0 := h
    rw [if_pos h, decide_eq_false h] at hQ
    exact hQ
  have h : rkErr l = 0 := h
  rw [if_neg (by simp [h])] at hQ
  rw [enc_two]
  refine term_All_ok [s, t] (fun x hx => ?_) _ ⟨rfl, rfl, iff_bne (fun h2 => ⟨⟨trivial, trivial, trivial⟩, ?_⟩) (fun h2 => ?_)⟩
  · rcases List.mem_cons.1 hx with rfl | hx
    · exact hs
    · rw [List.mem_singleton.1 hx]; exact ht
  · have h2 : Tm.checkAll [s, t] ≠ 0 := h2
    rw [decide_eq_false h2] at hQ
    exact hQ
  have h2 : Tm.checkAll [s, t] = 0 := h2
  obtain ⟨h3, h4⟩ := check_two h2
  rw [Tm.check_zero] at h3 h4
  obtain ⟨g1, g2⟩ := listed_zero (rkErr_zero h).1
  rw [h2, decide_eq_true rfl, Bool.true_and] at hQ
  exact path_Above_ok l s t (sorted_of g2) g1 h3.1 h3.2.1 h4.2.1 _ ⟨rfl, rfl, ⟨trivial, trivial, trivial⟩, hQ⟩
theorem l06_variable_ok (x : ByteArray) : Fn f_l06_variable [sD x] (tD (.mk x true [])) := Fn.as fun Q hQ => by
  refine C_l06_variable _ _ ?_
  unfold vc_l06_variable
  exact ⟨⟨trivial, trivial, trivial, trivial⟩, hQ _ (.last3 _ _ _)⟩
theorem l06_symbol_ok (x : ByteArray) (l : List Tm) : Fn f_l06_symbol [sD x, tsD l] (tD (.mk x false l)) := fun Q hQ => by
  refine C_l06_symbol _ _ _ ?_
  unfold vc_l06_symbol
  exact ⟨⟨trivial, trivial, trivial, trivial⟩, hQ⟩
def bAdd : ByteArray := ByteArray.mk #[97, 100, 100]
def bS : ByteArray := ByteArray.mk #[115]
def exL : Rks := [⟨bAdd, 2, 0⟩, ⟨bS, 1, 0⟩]
def exX : Tm := .mk (ByteArray.mk #[120]) true []
def exY : Tm := .mk (ByteArray.mk #[121]) true []
def exS : Tm := .mk bAdd false [.mk bS false [exX], exY]
def exT : Tm := .mk bS false [.mk bAdd false [exX, exY]]
theorem ex_err1 : grErr exL exS exT = 0 := by decide
theorem ex_err2 : grErr exL exT exS = 0 := by decide
theorem ex_gt : Gt (rankOf exL) exS exT := by
  have hx : Gt (rankOf exL) exS exX := .sub _ _ (.mk bS false [exX]) rfl (by simp [exS, Tm.args]) (.arg _ _ rfl (by simp [Tm.args]))
  have hy : Gt (rankOf exL) exS exY := .arg _ _ rfl (by simp [exS, Tm.args])
  refine .prec _ _ rfl rfl (by decide) fun b hb => ?_
  have hb : b ∈ [Tm.mk bAdd false [exX, exY]] := hb
  rw [List.mem_singleton.1 hb]
  refine .lex _ _ (.mk bS false [exX]) exX 0 rfl rfl rfl rfl (fun c hc => ?_) rfl rfl rfl (.arg _ _ rfl (by simp [Tm.args]))
  have hc : c ∈ [exX, exY] := hc
  rcases List.mem_cons.1 hc with rfl | hc
  · exact hx
  · rw [List.mem_singleton.1 hc]; exact hy
theorem ex_gr1 : gr exL exS exT = true := by unfold gr; rw [decide_eq_true ex_err1, Bool.true_and]; exact gtB_true.2 ex_gt
theorem ex_gr2 : gr exL exT exS = false := by unfold gr; rw [decide_eq_true ex_err2, Bool.true_and]; exact gtB_false.2 ex_gt.asymm
end Go.Proofs.YtehchnjnbbnkbaaGreat
set_option linter.unusedVariables false
set_option linter.unusedSimpArgs false
namespace Go.Proofs.YtehchnjnbbnkbaaGreat
open Go.Abs
theorem l06_alive_ok : Fn f_l06_alive [] (bD true) := fun Q hQ => by
  refine C_l06_alive _ ?_
  unfold vc_l06_alive
  refine l06_variable_ok _ _ ⟨rfl, rfl, l06_variable_ok _ _ ⟨rfl, rfl, tD (.mk bS false [exX]), (l06_symbol_ok _ [exX]).here rfl, tD exS, (l06_symbol_ok _ [.mk bS false [exX], exY]).here rfl,
    tD (.mk bAdd false [exX, exY]), (l06_symbol_ok _ [exX, exY]).here rfl, tD exT, (l06_symbol_ok _ [.mk bAdd false [exX, exY]]).here rfl, ?_⟩⟩
  refine path_Greater_ok exL exS exT (by decide) (by decide) _ ⟨rfl, rfl, path_Greater_ok exL exT exS (by decide) (by decide) _ ⟨rfl, rfl, ?_⟩⟩
  rw [ex_gr1, ex_gr2, ex_err1, ex_err2]
  exact ⟨trivial, hQ⟩
abbrev t3D (s t u : Tm) : D := .agg [.v .str (.s s.name), .v .bool (.b s.var), .v (.sl t_Term) (.l (Tm.encL s.args)), .v .str (.s t.name), .v .bool (.b t.var), .v (.sl t_Term) (.l (Tm.encL t.args)), .v .str (.s u.name), .v .bool (.b u.var), .v (.sl t_Term) (.l (Tm.encL u.args))]
end Go.Proofs.YtehchnjnbbnkbaaGreat
set_option linter.unusedVariables false
set_option linter.unusedSimpArgs false
namespace Go.Proofs.YtehchnjnbbnkbaaGreat
open Go Go.Abs
def encBs (l : List Bool) : LL := l.map fun b => [V.b b]
theorem encBs_length (l : List Bool) : (encBs l).length = l.length := by simp [encBs]
theorem encBs_getD (l : List Bool) (k : Nat) (h : k < l.length) : (encBs l).getD k [] = [V.b l[k]] := by
  unfold encBs
  rw [List.getD_eq_getElem?_getD, List.getElem?_map, List.getElem?_eq_getElem h]; rfl
noncomputable def orE (l : Rks) (r : Ru) : Int := if rkErr l ≠ 0 then rkErr l else sysE r
noncomputable def ors (l : Rks) (r : Ru) : List Bool := r.map fun x => gtR l x.1 x.2
noncomputable def orB (l : Rks) (r : Ru) : List Bool := if orE l r = 0 then ors l r else []
abbrev bsD (l : List Bool) : D := .v (.sl t_bool) (.l (encBs l))
theorem sysE_zero {r : Ru} (h : sysE r = 0) : r.length ≤ 64 ∧ (∀ x ∈ r, x.1.check = 0 ∧ x.2.check = 0) ∧ r.any extraB = false := by
  unfold sysE at h
  by_cases h1 : rules r ≠ 0
  · rw [if_pos h1] at h; exact absurd h h1
  · rw [if_neg h1] at h
    have h1' : rules r = 0 := Decidable.byContradiction h1
    obtain ⟨g1, g2⟩ := rules_zero h1'
    refine ⟨g1, g2, ?_⟩
    split at h
    · cases hb : r.any extraB with
      | false => rfl
      | true => rw [hb, if_pos rfl] at h; cases h
    · cases h
theorem path_Orients_ok (l : Rks) (r : Ru) (hB : ∀ x ∈ r, x.1.size ≤ small ∧ x.2.size ≤ small) : Fn f_path_Orients [rksD l, ruD r] (.tup [bsD (orB l r), iD (orE l r)]) := Fn.as fun Q hQ => by
  refine C_path_Orients _ _ _ ?_
  unfold vc_path_Orients
  have bad : ∀ e : Int, e ≠ 0 → orE l r = e → Q (.tup [.nil, iD e]) [] := fun e he h => by
    refine hQ _ (As.pair (.nil _ _ ?_) ?_)
    · show encBs (orB l r) = []
      unfold orB; rw [if_neg (by rw [h]; exact he)]; rfl
    · rw [h]; exact .refl _
  refine path_Check_ok l _ ⟨rfl, rfl, iff_bne (fun h => ⟨⟨trivial, trivial, trivial⟩, bad _ h ?_⟩) (fun h => ?_)⟩
  · have h : rkErr l ≠ 0 := h
    unfold orE; rw [if_pos h]
  have h : rkErr l = 0 := h
  have horE : orE l r = sysE r := by unfold orE; rw [if_neg (by simp [h])]
  refine term_CheckSystem_ok r hB _ ⟨rfl, rfl, iff_bne (fun h2 => ⟨⟨trivial, trivial, trivial⟩, bad _ h2 horE⟩) (fun h2 hb => ?_)⟩
  have h2 : sysE r = 0 := h2
  obtain ⟨g1, g2⟩ := listed_zero (rkErr_zero h).1
  obtain ⟨k1, k2, k3⟩ := sysE_zero h2
  have hl := encRs_length r
  rw [hl] at hb ⊢
  refine range_path_Orients_0 Q _ _ _ hb (fun k n y => n = k ∧ y = encBs ((ors l r).take k)) (fun k n y hk hJ K hK => ?_) (fun n y hJ => ?_) 0 _ _ (Nat.zero_le _) ⟨rfl, by simp [encBs]⟩
  · obtain ⟨rfl, rfl⟩ := hJ
    have hin := List.getElem_mem hk
    obtain ⟨c1, c2⟩ := k2 _ hin
    rw [Tm.check_zero] at c1 c2
    have hol : (ors l r).length = r.length := by simp [ors]
    simp only [encRs_getD _ _ hk, List.drop_zero, List.headD_cons, List.tail_cons]
    refine ⟨by omega, by rw [hl]; omega, path_Above_ok l (r[n]).1 (r[n]).2 (sorted_of g2) g1 c1.1 c1.2.1 c2.2.1 _ ⟨rfl, rfl, ?_, ?_, hK _ _ ⟨rfl, ?_⟩⟩⟩
    · rw [encBs_length, List.length_take]; omega
    · show n + 1 ≤ lim
      unfold lim; omega
    · rw [List.take_succ_eq_append_getElem (by omega)]
      have e : (ors l r)[n]'(by omega) = gtR l (r[n]).1 (r[n]).2 := by simp [ors]
      rw [e]
      simp [encBs]; rfl
  · obtain ⟨rfl, rfl⟩ := hJ
    have hol : (ors l r).length = r.length := by simp [ors]
    rw [List.take_of_length_le (by omega)]
    refine ⟨⟨by rw [encBs_length]; omega, trivial, trivial⟩, hQ _ ?_⟩
    have e : orB l r = ors l r := by unfold orB; rw [if_pos (by rw [horE]; exact h2)]
    rw [e, horE, h2]
    exact .refl _
theorem r06_SameBools_ok (a : List Bool) {Q : D → Heap → Prop} (hQ : Q (bD true) [.row t_bool (encBs a)]) : cl f_r06_SameBools [bsD a, .osl (.own 0) a.length] [.row t_bool (encBs a)] Q := by
  refine C_r06_SameBools _ _ _ _ fun hb => ?_
  have hl := encBs_length a
  rw [hl] at hb ⊢
  refine ⟨rfl, fun _ => iff_bne (fun h => absurd rfl h) (fun _ _ => ?_)⟩
  refine range_r06_SameBools_0 Q _ _ _ _ hb (fun _ => True) (fun k hk _ K hK => ?_) (fun _ => ⟨trivial, hQ⟩) 0 (Nat.zero_le _) trivial
  rw [encBs_getD a k hk, hl]
  refine ⟨by omega, by omega, rfl, by omega, by omega, rfl, hk, ?_⟩
  have e : (!((([V.b a[k]].drop 0).headD V.none).bool == (([V.b a[k]].drop 0).headD V.none).bool)) = false := by
    show (!(a[k] == a[k])) = false
    simp
  rw [e]
  exact hK trivial
theorem l06_PathOrients_ok (l : Rks) (r : Ru) (hB : ∀ x ∈ r, x.1.size ≤ small ∧ x.2.size ≤ small) : Fn f_l06_PathOrients [rksD l, ruD r] (bD true) := fun Q hQ => by
  refine C_l06_PathOrients _ _ _ ?_
  unfold vc_l06_PathOrients
  have alive : cl f_l06_alive [] [] fun r1 H2 => r1 = (.v .bool (r1.V)) ∧ H2 = [] ∧ True ∧ Q (.v .bool (r1.V)) [] := l06_alive_ok _ ⟨rfl, rfl, trivial, hQ⟩
  have fin : ∀ e : Int, e = orE l r → jp_l06_PathOrients_0 Q (encRks l) (encRs r) (.l (encBs (orB l r))) (.i (orE l r)) (.i e) := by
    rintro _ rfl
    rw [jp_l06_PathOrients_0_s]
    unfold je_l06_PathOrients_0
    refine iff_bne (fun h _ => ?_) (fun h hb => ?_)
    · have h : orE l r ≠ 0 := h
      have e : encBs (orB l r) = [] := by unfold orB; rw [if_neg h]; rfl
      rw [e]
      exact iff_beq (fun _ => iff_beq (fun _ => alive) (fun h2 => absurd rfl h2)) (fun h2 => absurd rfl h2)
    · have h : orE l r = 0 := h
      have e : orB l r = ors l r := by unfold orB; rw [if_pos h]
      rw [e]
      have hrk : rkErr l = 0 := by
        unfold orE at h
        by_cases h3 : rkErr l ≠ 0
        · rw [if_pos h3] at h; exact h
        · exact Decidable.byContradiction h3
      have hsy : sysE r = 0 := by unfold orE at h; rw [if_neg (by simp [hrk])] at h; exact h
      obtain ⟨k1, k2, k3⟩ := sysE_zero hsy
      have hl := encRs_length r
      rw [hl] at hb ⊢
      have hol : (ors l r).length = r.length := by simp [ors]
      refine range_l06_PathOrients_0 Q _ _ _ _ _ hb (fun k n y => n = k ∧ y = encBs ((ors l r).take k)) (fun k n y hk hJ K hK => ?_) (fun n y hJ => ?_) 0 _ _ (Nat.zero_le _) ⟨rfl, by simp [encBs]⟩
      · obtain ⟨rfl, rfl⟩ := hJ
        simp only [encRs_getD _ _ hk, List.drop_zero, List.headD_cons, List.tail_cons]
        refine ⟨by omega, by rw [hl]; omega, r06_Greater_ok l _ (r[n]).1 (r[n]).2 (Nat.le_refl _) _ ⟨rfl, rfl, ?_, ?_, hK _ _ ⟨rfl, ?_⟩⟩⟩
        · rw [encBs_length, List.length_take]; omega
        · show n + 1 ≤ lim
          unfold lim; omega
        · rw [List.take_succ_eq_append_getElem (by omega)]
          have e : (ors l r)[n]'(by omega) = gtR l (r[n]).1 (r[n]).2 := by simp [ors]
          rw [e]
          simp [encBs]; rfl
      · obtain ⟨rfl, rfl⟩ := hJ
        rw [List.take_of_length_le (by omega)]
        refine iff_beq (fun _ => ?_) (fun h2 => absurd h h2)
        rw [show (r.length) = (ors l r).length from hol.symm]
        exact r06_SameBools_ok (ors l r) ⟨rfl, rfl, alive⟩
  refine path_Orients_ok l r hB _ ⟨rfl, rfl, r06_Check_ok l _ ⟨rfl, rfl, iff_beq (fun h => ?_) (fun h => fin _ ?_)⟩⟩
  · have h : rkErr l = 0 := h
    refine r01_CheckSystem_ok r hB _ ⟨rfl, rfl, fin _ ?_⟩
    show sysE r = _
    unfold orE; rw [if_neg (by simp [h])]
  · have h : rkErr l ≠ 0 := h
    show rkErr l = _
    unfold orE; rw [if_pos h]
end Go.Proofs.YtehchnjnbbnkbaaGreat
