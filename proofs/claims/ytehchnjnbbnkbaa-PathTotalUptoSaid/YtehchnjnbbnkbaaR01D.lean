/-
  CONTRACTS of the reference's positions and lists of names.
-/
import Derived.Test.YtehchnjnbbnkbaaR01C
set_option linter.unusedVariables false
set_option linter.unusedSimpArgs false
namespace Go.Proofs.Ytehchnjnbbnkbaa
open Go.Abs

/-! Lists of names -/
def bz : ByteArray := ByteArray.mk #[]
def nameAt (m : Bool) (l : List ByteArray) (k : Nat) : Bool := nameOk (l.getD k bz) m && (decide (k = 0) || decide (cmpN (l.getD (k - 1) bz) (l.getD k bz) = -1))
/-- Names in increasing order. -/
def namesOk (m : Bool) (l : List ByteArray) : Bool := (List.range l.length).all (nameAt m l)
theorem namesOk_all {m : Bool} {l : List ByteArray} (h : ∀ k, k < l.length → nameAt m l k = true) : namesOk m l = true := by
  unfold namesOk; rw [List.all_eq_true]; intro k hk; exact h k (by simpa using hk)
theorem namesOk_not {m : Bool} {l : List ByteArray} {k : Nat} (hk : k < l.length) (h : nameAt m l k = false) : namesOk m l = false := by
  rw [← Bool.not_eq_true]
  intro ha
  unfold namesOk at ha
  have := (List.all_eq_true.1 ha) k (by simpa using hk)
  rw [h] at this; cases this
theorem namesOk_at {m : Bool} {l : List ByteArray} (h : namesOk m l = true) {k : Nat} (hk : k < l.length) : nameAt m l k = true := by
  unfold namesOk at h
  exact (List.all_eq_true.1 h) k (by simpa using hk)
theorem cmpN_lt (a b : ByteArray) : cmpN a b ≥ 0 ↔ ¬ cmpN a b = -1 := by rcases cmpN_cases a b with h | h | h <;> omega

def suNames (l : Su) : List ByteArray := l.map (·.1)
theorem suNames_getD (l : Su) (k : Nat) (h : k < l.length) : (suNames l).getD k bz = (l[k]).1 := by
  rw [suNames, List.getD_eq_getElem?_getD, List.getElem?_map, List.getElem?_eq_getElem h]; rfl
/-- The error of a substitution. -/
def suErr (l : Su) : Int := if namesOk false (suNames l) then Tm.checkAll (l.map (·.2)) else 4

theorem r01_CheckSubst_ok (l : Su) (hB : ∀ x ∈ l, x.2.size ≤ small) : Fn f_r01_CheckSubst [suD l] (iD (suErr l)) := fun Q hQ => by
  refine C_r01_CheckSubst _ _ fun hb => ?_
  have hl := encS_length l
  have hl2 : (suNames l).length = l.length := by simp [suNames]
  rw [hl] at hb ⊢
  rw [big_eq] at hb
  unfold suErr at hQ
  have bad : namesOk false (suNames l) = false → Q (iD 4) [] := fun h => by rw [h] at hQ; exact hQ
  refine range_r01_CheckSubst_0 Q _ _ _ (by rw [big_eq]; exact hb) (fun k => ∀ i, i < k → nameAt false (suNames l) i = true) (fun k hk hJ K hK => ?_) (fun hJ hb => ?_) 0 (Nat.zero_le _) (fun i hi => by omega)
  · simp only [encS_getD _ k hk, Tm.enc_eq, List.drop_zero, List.headD_cons, List.tail_cons]
    have hn := suNames_getD l k hk
    refine ⟨by omega, by omega, bD (nameOk (l[k]).1 false), (r01_IsName_ok _ _).here rfl, ?_⟩
    have next : nameAt false (suNames l) k = true → ∀ i, i < k + 1 → nameAt false (suNames l) i = true := fun h i hi => by
      rcases Nat.lt_succ_iff_lt_or_eq.1 hi with h8 | rfl
      · exact hJ i h8
      · exact h
    refine iff_not (iff_intro (fun h => iff_dec (fun h0 => ?_) (fun h0 => hK (next ?_))) (fun h => ⟨trivial, bad (namesOk_not (k := k) (by omega) ?_)⟩))
    · have h : nameOk (l[k]).1 false = true := h
      have hk1 : k - 1 < l.length := by omega
      have hp := suNames_getD l (k - 1) hk1
      rw [wrap_in _ (by omega) (by omega)]
      have e1 : ((k : Int) - 1).toNat = k - 1 := by omega
      rw [e1]
      simp only [encS_getD _ (k - 1) hk1, Tm.enc_eq, List.drop_zero, List.headD_cons, List.tail_cons]
      have hk0 : ¬ k = 0 := by omega
      refine ⟨by omega, by omega, r01_CompareNames_ok _ _ _ ⟨rfl, rfl, iff_dec (fun h2 => ⟨trivial, bad (namesOk_not (k := k) (by omega) ?_)⟩) (fun h2 => hK (next ?_))⟩⟩
      · have h2 : cmpN (l[k-1]).1 (l[k]).1 ≥ 0 := h2
        unfold nameAt
        rw [hn, hp, h, Bool.true_and, decide_eq_false hk0, decide_eq_false ((cmpN_lt _ _).1 h2)]; rfl
      · have h2 : ¬ cmpN (l[k-1]).1 (l[k]).1 ≥ 0 := h2
        unfold nameAt
        rw [hn, hp, h, Bool.true_and, decide_eq_false hk0, decide_eq_true (Classical.byContradiction fun h3 => h2 ((cmpN_lt _ _).2 h3))]; rfl
    · have h : nameOk (l[k]).1 false = true := h
      unfold nameAt
      rw [hn, h, decide_eq_true (show k = 0 by omega)]; rfl
    · have h : nameOk (l[k]).1 false = false := h
      unfold nameAt
      rw [hn, h]; rfl
  · rw [namesOk_all (fun k hk => hJ k (by omega)), if_pos rfl] at hQ
    have hl3 : (l.map (·.2)).length = l.length := by simp
    rw [hl] at hb ⊢
    refine range_r01_CheckSubst_1 Q _ _ hb (fun k => Tm.checkAll ((l.map (·.2)).take k) = 0) (fun k hk hJ K hK => ?_) (fun hJ => ?_) 0 (Nat.zero_le _) rfl
    · simp only [encS_getD _ k hk, Tm.enc_eq, List.drop_zero, List.headD_cons, List.tail_cons]
      have hk' : k < (l.map (·.2)).length := by omega
      have he : (l.map (·.2))[k] = (l[k]).2 := by simp
      refine ⟨by omega, by omega, r01_Check_ok _ (hB _ (List.getElem_mem hk)) _ ⟨rfl, rfl, iff_bne (fun h => ⟨trivial, ?_⟩) (fun h => hK ?_)⟩⟩
      · have h' : ((l[k]).2).check ≠ 0 := h
        rw [checkAll_take hJ hk' (by rw [he]; exact h'), he] at hQ
        exact hQ
      · have h' : ((l[k]).2).check = 0 := h
        rw [Tm.checkAll_zero] at hJ ⊢
        rw [List.take_succ_eq_append_getElem hk']
        intro t ht
        rcases List.mem_append.1 ht with ht | ht
        · exact hJ t ht
        · rw [List.mem_singleton.1 ht, he]; exact h'
    · rw [← hl3, List.take_length] at hJ
      rw [hJ] at hQ
      exact ⟨trivial, hQ⟩

/-! Positions -/
def encP (p : List Int) : List (List V) := p.map fun i => [.i i]
abbrev psD (p : List Int) : D := .v (.sl t_int) (.l (encP p))
theorem encP_length (p : List Int) : (encP p).length = p.length := by simp [encP]
theorem encP_getD (p : List Int) (k : Nat) (h : k < p.length) : (encP p).getD k [] = [.i p[k]] := by
  rw [encP, List.getD_eq_getElem?_getD, List.getElem?_map, List.getElem?_eq_getElem h]; rfl
namespace Tm
def dflt : Tm := mk bz false []
/-- The subterm at a position. -/
def at_ : Tm → List Int → Option Tm
  | t, [] => some t
  | t, i :: p => if i < 0 then none else if i ≥ (t.args.length : Int) then none else at_ (t.args.getD i.toNat dflt) p
/-- Another subterm at a position. -/
def put : Tm → List Int → Tm → Tm
  | _, [], u => u
  | t, i :: p, u => mk t.name false (t.args.set i.toNat (put (t.args.getD i.toNat dflt) p u))
end Tm
/-- A term, or nothing. -/
def opD : Option Tm → D
  | none => .tup [tD Tm.dflt, bD false]
  | some t => .tup [tD t, bD true]

theorem r01_At_ok (t : Tm) (p : List Int) : Fn f_r01_At [tD t, psD p] (opD (Tm.at_ t p)) := Fn.as fun Q hQ => by
  refine C_r01_At _ _ _ _ _ ?_
  unfold vc_r01_At
  intro hb
  have hl := encP_length p
  rw [hl] at hb ⊢
  have none_ : Tm.at_ t p = none → Q (.tup [.agg [.v .str (V.s (ByteArray.mk #[])), .v .bool (V.b false), .nil], .v .bool (V.b false)]) [] := fun h => by
    rw [h] at hQ; exact hQ _ (.pair (.last3 _ _ _) (.refl _))
  refine range_r01_At_0 Q _ _ _ _ hb (fun k y0 y1 y2 => ∃ s : Tm, y0 = .s s.name ∧ y1 = .b s.var ∧ y2 = .l (Tm.encL s.args) ∧ Tm.at_ s (p.drop k) = Tm.at_ t p) (fun k y0 y1 y2 hk hJ m0 hK => ?_) (fun y0 y1 y2 hJ => ?_) 0 _ _ _ (Nat.zero_le _) ⟨t, rfl, rfl, rfl, rfl⟩
  · obtain ⟨s, rfl, rfl, rfl, hs⟩ := hJ
    simp only [encP_getD _ k hk, List.drop_zero, List.headD_cons, List.tail_cons, V.int, V.list]
    rw [List.drop_eq_getElem_cons hk] at hs
    simp only [Tm.at_] at hs
    have hsl := Tm.encL_length s.args
    refine ⟨by omega, by omega, iff_dec (fun h => ⟨⟨⟨trivial, trivial, trivial, trivial⟩, trivial, trivial⟩, ?_⟩) (fun h _ => ?_)⟩
    · rw [if_pos h] at hs
      exact none_ hs.symm
    · rw [if_neg h] at hs
      rw [hsl]
      refine iff_dec (fun h2 => ⟨⟨⟨trivial, trivial, trivial, trivial⟩, trivial, trivial⟩, ?_⟩) (fun h2 => ?_)
      · rw [if_pos h2] at hs
        exact none_ hs.symm
      · rw [if_neg h2] at hs
        rw [jp_r01_At_0_s]
        unfold je_r01_At_0
        simp only [V.int, V.list]
        have hj : (p[k]).toNat < s.args.length := by omega
        refine ⟨by omega, by omega, ?_⟩
        rw [Tm.encL_getD _ _ hj]
        simp only [Tm.enc_eq, List.drop_zero, List.headD_cons, List.tail_cons]
        refine hK _ _ _ ⟨s.args[(p[k]).toNat], rfl, rfl, rfl, ?_⟩
        rw [← hs, List.getD_eq_getElem?_getD, List.getElem?_eq_getElem hj]; rfl
  · obtain ⟨s, rfl, rfl, rfl, hs⟩ := hJ
    rw [List.drop_length] at hs
    refine ⟨⟨⟨trivial, trivial, trivial, trivial⟩, trivial, trivial⟩, ?_⟩
    rw [← hs] at hQ
    exact hQ _ (.refl _)

theorem r01_Put_ok : ∀ (p : List Int) (t u : Tm), Tm.at_ t p ≠ none → t.args.length ≤ lim → t.size ≤ lim → Fn f_r01_Put [tD t, psD p, tD u] (tD (Tm.put t p u))
  | [], t, u, _, _, _ => fun Q hQ => by
    refine C_r01_Put _ _ _ _ _ _ _ _ ?_
    unfold vc_r01_Put
    exact fun _ => iff_beq (fun _ => ⟨⟨trivial, trivial, trivial, trivial⟩, hQ⟩) (fun h => absurd rfl h)
  | i :: p, t, u, ha, hB, hS => fun Q hQ => by
    refine C_r01_Put _ _ _ _ _ _ _ _ ?_
    unfold vc_r01_Put
    intro hb
    have hl := encP_length (i :: p)
    have hl' : (encP (i :: p)).length = p.length + 1 := hl
    rw [big_eq] at hb
    simp only [Tm.at_] at ha
    have h1 : ¬ i < 0 := fun h => by rw [if_pos h] at ha; exact ha rfl
    rw [if_neg h1] at ha
    have h2 : ¬ i ≥ (t.args.length : Int) := fun h => by rw [if_pos h] at ha; exact ha rfl
    rw [if_neg h2] at ha
    have hi : i.toNat < t.args.length := by omega
    have htl := Tm.encL_length t.args
    have e0 : (encP (i :: p)).getD ((0 : Int)).toNat [] = [.i i] := rfl
    have e1 : ((encP (i :: p)).take (((encP (i :: p)).length : Int)).toNat).drop (1 : Int).toNat = encP p := by
      rw [Int.toNat_natCast, List.take_length]; rfl
    have eg : t.args.getD i.toNat Tm.dflt = t.args[i.toNat] := by rw [List.getD_eq_getElem?_getD, List.getElem?_eq_getElem hi]; rfl
    rw [eg] at ha
    simp only [e0, e1, List.nil_append, Nat.zero_add, List.drop_zero, List.headD_cons, V.int, Tm.encL_getD _ _ hi, Tm.enc_eq, List.tail_cons]
    have hm := Tm.size_mem (List.getElem_mem hi)
    have hal := Tm.length_sizeL (t.args[i.toNat]).args
    have has := Tm.size_eq (t.args[i.toNat])
    refine iff_beq (fun h => by omega) (fun _ => ?_)
    repeat' (first | (refine ⟨(by first | omega | rfl | simp), ?_⟩) | (refine ⟨tD (Tm.put (t.args[i.toNat]) p u), (r01_Put_ok p _ u ha (by omega) (by omega)).here rfl, ?_⟩) | (refine ⟨⟨trivial, trivial, by simp, trivial⟩, ?_⟩) | fail)
    simp only [Tm.put] at hQ
    rw [eg] at hQ
    have : (Tm.encL t.args).set i.toNat (setV [.s (t.args[i.toNat]).name, .b (t.args[i.toNat]).var, .l (Tm.encL (t.args[i.toNat]).args)] 0 [.s (Tm.put (t.args[i.toNat]) p u).name, .b (Tm.put (t.args[i.toNat]) p u).var, .l (Tm.encL (Tm.put (t.args[i.toNat]) p u).args)]) = Tm.encL (t.args.set i.toNat (Tm.put (t.args[i.toNat]) p u)) := by
      rw [Tm.encL_eq (List.set _ _ _), List.map_set, ← Tm.encL_eq, Tm.enc_eq (Tm.put _ _ _)]
      rfl
    exact this ▸ hQ
end Go.Proofs.Ytehchnjnbbnkbaa
