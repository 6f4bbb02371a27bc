import Derived.Test.YtgohjdaepcmonaaUniU
set_option linter.unusedVariables false
set_option linter.unusedSimpArgs false
namespace Go.Proofs.Ytgohjdaepcmonaa
open Go.Abs
def fnS (s : Su) : Bd := fun x => if boundS s x then some (Tm.image s x) else none
theorem fnS_none {s : Su} {x : ByteArray} : fnS s x = none ↔ boundS s x = false := by
  unfold fnS; cases boundS s x <;> simp
theorem fnS_some {s : Su} {x : ByteArray} {t : Tm} (h : fnS s x = some t) : boundS s x = true ∧ Tm.image s x = t := by
  unfold fnS at h
  cases hb : boundS s x with
  | false => rw [hb] at h; cases h
  | true => rw [hb] at h; exact ⟨rfl, by injection h⟩
theorem fnS_of {s : Su} {x : ByteArray} (h : boundS s x = true) : fnS s x = some (Tm.image s x) := by unfold fnS; rw [if_pos h]
theorem fnS_nil : fnS [] = fun _ => none := by funext x; rfl
theorem image_with (v : ByteArray) (t : Tm) : ∀ (s : Su) (y : ByteArray), (∀ z ∈ s, z.1 ≠ v) → Tm.image (withS s v t) y = if y = v then t else Tm.image s y
  | [], y, _ => by
    simp only [withS, Tm.image]
    by_cases h : v = y
    · rw [if_pos h, if_pos h.symm]
    · rw [if_neg h, if_neg fun e => h e.symm]
  | x :: r, y, h => by
    unfold withS
    split
    · rw [Tm.image, Tm.image]
      by_cases hx : x.1 = y
      · rw [if_pos hx, if_pos hx, if_neg fun e => h x (by simp) (hx.trans e)]
      · rw [if_neg hx, if_neg hx]; exact image_with v t r y fun z hz => h z (List.mem_cons_of_mem _ hz)
    · rw [Tm.image]
      by_cases hy : v = y
      · rw [if_pos hy, if_pos hy.symm]
      · rw [if_neg hy, if_neg fun e => hy e.symm]
theorem fnS_with {s : Su} {v : ByteArray} (t : Tm) (h : fnS s v = none) : fnS (withS s v t) = updB (fnS s) v t := by
  rw [fnS_none, boundS_false] at h
  funext y
  by_cases hy : y = v
  · subst hy
    rw [updB_self, fnS_of (boundS_iff.2 ⟨(y, t), withS_mem.2 (.inl rfl), rfl⟩), image_with _ _ _ _ h, if_pos rfl]
  · rw [updB_ne _ _ hy]
    have hb : boundS (withS s v t) y = boundS s y := by
      rw [Bool.eq_iff_iff, boundS_iff, boundS_iff]
      constructor
      · rintro ⟨z, hz, e⟩
        rcases withS_mem.1 hz with rfl | hz
        · exact absurd e.symm hy
        · exact ⟨z, hz, e⟩
      · rintro ⟨z, hz, e⟩; exact ⟨z, withS_mem.2 (.inr hz), e⟩
    unfold fnS
    rw [hb, image_with _ _ _ _ h, if_neg hy]
theorem Occ.congr {σ : Bd} {y : ByteArray} {t u : Tm} (h : ∀ z, z ∈ Tm.vs t → z ∈ Tm.vs u) (ho : Occ σ y t) : Occ σ y u := by
  cases ho with
  | here _ h1 => exact .here u (h _ h1)
  | step _ w x h1 h2 h3 => exact .step u w x (h _ h1) h2 h3
theorem Occ.fn {σ : Bd} {y : ByteArray} {t : Tm} (hv : t.var = false) : Occ σ y t ↔ ∃ a ∈ t.args, Occ σ y a := by
  constructor
  · intro ho
    cases ho with
    | here _ h1 =>
      obtain ⟨a, ha, h2⟩ := (Tm.vs_fn hv).1 h1
      exact ⟨a, ha, .here a h2⟩
    | step _ w x h1 h2 h3 =>
      obtain ⟨a, ha, h4⟩ := (Tm.vs_fn hv).1 h1
      exact ⟨a, ha, .step a w x h4 h2 h3⟩
  · rintro ⟨a, ha, ho⟩
    exact ho.congr fun z hz => (Tm.vs_fn hv).2 ⟨a, ha, hz⟩
theorem Occ.vr {σ : Bd} {y : ByteArray} {t : Tm} (hv : t.var = true) : Occ σ y t ↔ y = t.name ∨ ∃ u, σ t.name = some u ∧ Occ σ y u := by
  constructor
  · intro ho
    cases ho with
    | here _ h1 => exact .inl ((Tm.vs_var hv).1 h1)
    | step _ w x h1 h2 h3 => rw [(Tm.vs_var hv).1 h1] at h2; exact .inr ⟨w, h2, h3⟩
  · rintro (rfl | ⟨u, hu, ho⟩)
    · exact .here t ((Tm.vs_var hv).2 rfl)
    · exact .step t u t.name ((Tm.vs_var hv).2 rfl) hu ho
theorem Occ.rank {σ : Bd} {θ : ByteArray → Tm} {r : ByteArray → Nat} (h : Tri σ θ r) {y : ByteArray} {t : Tm} (ho : Occ σ y t) : ∃ z ∈ Tm.vs t, r y ≤ r z := by
  induction ho with
  | here t h1 => exact ⟨y, h1, Nat.le_refl _⟩
  | step t u x h1 h2 _ ih =>
    obtain ⟨z, hz, hr⟩ := ih
    have := h.rk x u h2 z hz
    exact ⟨x, h1, by omega⟩
theorem Occ.acyc {σ : Bd} {θ : ByteArray → Tm} {r : ByteArray → Nat} (h : Tri σ θ r) {x : ByteArray} {u : Tm} (hx : σ x = some u) : ¬ Occ σ x u := fun ho => by
  obtain ⟨z, hz, hr⟩ := ho.rank h
  have := h.rk x u hx z hz
  omega
theorem Occ.inU {U : List ByteArray} {σ : Bd} (hU : InU U σ) {y : ByteArray} {t : Tm} (ho : Occ σ y t) : (∀ z ∈ Tm.vs t, z ∈ U) → y ∈ U := by
  induction ho with
  | here t h1 => exact fun h => h _ h1
  | step t u x h1 h2 _ ih => exact fun h => ih (hU x u h2)
theorem nodup_length : ∀ {l U : List ByteArray}, l.Nodup → (∀ x ∈ l, x ∈ U) → l.length ≤ U.length
  | [], _, _, _ => by simp
  | x :: l, U, hn, hs => by
    rw [List.nodup_cons] at hn
    obtain ⟨A, B, rfl⟩ := List.append_of_mem (hs x (by simp))
    have : l.length ≤ (A ++ B).length := nodup_length hn.2 fun y hy => by
      have h1 := hs y (List.mem_cons_of_mem _ hy)
      have hne : y ≠ x := fun e => hn.1 (e ▸ hy)
      rcases List.mem_append.1 h1 with h | h
      · exact List.mem_append_left _ h
      · rcases List.mem_cons.1 h with h | h
        · exact absurd h hne
        · exact List.mem_append_right _ h
    simp at this ⊢; omega
structure MetOk (U : List ByteArray) (σ : Bd) (P met : List ByteArray) : Prop where
  nd : met.Nodup
  sub : ∀ w ∈ met, w ∈ U
  cl : ∀ w ∈ met, w ∈ P ∨ ∀ x, Occ σ x (Tm.vr w) → x ∈ met
structure MetTo (U : List ByteArray) (σ : Bd) (P met : List ByteArray) (t : Tm) (met' : List ByteArray) : Prop where
  ok : MetOk U σ P met'
  old : ∀ w ∈ met, w ∈ met'
  all : ∀ x, Occ σ x t → x ∈ met'
  new : ∀ x ∈ met', x ∈ met ∨ Occ σ x t
def RTo (U : List ByteArray) (s : Su) (P met : List ByteArray) (t : Tm) : Prop :=
  ∃ met', MetTo U (fnS s) P met t met' ∧ ∀ Q : D → Heap → Prop, Q (.osl (.own 0) met'.length) [.row t_string (encN met')] → cl f_r03_reach [suD s, tD t, .osl (.own 0) met.length] [.row t_string (encN met)] Q
end Go.Proofs.Ytgohjdaepcmonaa
