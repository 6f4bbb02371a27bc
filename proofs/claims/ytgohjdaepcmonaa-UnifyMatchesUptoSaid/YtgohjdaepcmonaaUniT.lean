import Derived.Test.YtgohjdaepcmonaaR03A
set_option linter.unusedVariables false
set_option linter.unusedSimpArgs false
namespace Go.Proofs.Ytgohjdaepcmonaa
open Go.Abs
namespace Tm
mutual
def sub (f : ByteArray → Tm) : Tm → Tm | mk n v xs => if v then f n else mk n false (subL f xs)
def subL (f : ByteArray → Tm) : List Tm → List Tm | [] => [] | t :: r => sub f t :: subL f r
end
theorem subL_map (f : ByteArray → Tm) : ∀ l : List Tm, subL f l = l.map (sub f)
  | [] => rfl
  | t :: r => by rw [subL, subL_map f r]; rfl
theorem sub_eq (f : ByteArray → Tm) : ∀ t : Tm, sub f t = if t.var then f t.name else mk t.name false (t.args.map (sub f))
  | mk n v xs => by rw [sub, subL_map]; rfl
theorem sub_var (f : ByteArray → Tm) {t : Tm} (h : t.var = true) : sub f t = f t.name := by rw [sub_eq, if_pos h]
theorem sub_fn (f : ByteArray → Tm) {t : Tm} (h : t.var = false) : sub f t = mk t.name false (t.args.map (sub f)) := by rw [sub_eq, if_neg (by rw [h]; simp)]
mutual
def vs : Tm → List ByteArray | mk n v xs => if v then [n] else vsL xs
def vsL : List Tm → List ByteArray | [] => [] | t :: r => vs t ++ vsL r
end
theorem vsL_mem {x : ByteArray} : ∀ {l : List Tm}, x ∈ vsL l ↔ ∃ a ∈ l, x ∈ vs a
  | [] => by simp [vsL]
  | t :: r => by rw [vsL, List.mem_append, vsL_mem]; simp
theorem vs_eq : ∀ t : Tm, vs t = if t.var then [t.name] else vsL t.args | mk _ _ _ => rfl
theorem vs_var {t : Tm} (h : t.var = true) {x : ByteArray} : x ∈ vs t ↔ x = t.name := by rw [vs_eq, if_pos h]; simp
theorem vs_fn {t : Tm} (h : t.var = false) {x : ByteArray} : x ∈ vs t ↔ ∃ a ∈ t.args, x ∈ vs a := by rw [vs_eq, if_neg (by rw [h]; simp), vsL_mem]
theorem sub_congr {f g : ByteArray → Tm} : ∀ t : Tm, (∀ x ∈ vs t, f x = g x) → sub f t = sub g t := ind fun t ih h => by
  cases hv : t.var with
  | true => rw [sub_var _ hv, sub_var _ hv]; exact h _ ((vs_var hv).2 rfl)
  | false =>
    rw [sub_fn _ hv, sub_fn _ hv]
    congr 1
    exact List.map_congr_left fun a ha => ih a ha fun x hx => h x ((vs_fn hv).2 ⟨a, ha, hx⟩)
theorem sub_sub (f g : ByteArray → Tm) : ∀ t : Tm, sub g (sub f t) = sub (fun x => sub g (f x)) t := ind fun t ih => by
  cases hv : t.var with
  | true => rw [sub_var _ hv, sub_var _ hv]
  | false =>
    rw [sub_fn _ hv, sub_fn _ hv, sub_fn _ rfl]
    show mk t.name false _ = _
    congr 1
    rw [show (mk t.name false (t.args.map (sub f))).args = t.args.map (sub f) from rfl, List.map_map]
    exact List.map_congr_left fun a ha => ih a ha
theorem vs_sub {f : ByteArray → Tm} {x : ByteArray} : ∀ t : Tm, x ∈ vs (sub f t) ↔ ∃ y ∈ vs t, x ∈ vs (f y) := ind fun t ih => by
  cases hv : t.var with
  | true =>
    rw [sub_var _ hv]
    constructor
    · exact fun h => ⟨_, (vs_var hv).2 rfl, h⟩
    · rintro ⟨y, hy, h⟩; rw [(vs_var hv).1 hy] at h; exact h
  | false =>
    rw [sub_fn _ hv, vs_fn rfl]
    constructor
    · rintro ⟨a, ha, h⟩
      obtain ⟨b, hb, rfl⟩ := List.mem_map.1 ha
      obtain ⟨y, hy, h2⟩ := (ih b hb).1 h
      exact ⟨y, (vs_fn hv).2 ⟨b, hb, hy⟩, h2⟩
    · rintro ⟨y, hy, h⟩
      obtain ⟨b, hb, hy2⟩ := (vs_fn hv).1 hy
      exact ⟨sub f b, List.mem_map.2 ⟨b, hb, rfl⟩, (ih b hb).2 ⟨y, hy2, h⟩⟩
theorem size_sub {f : ByteArray → Tm} {y : ByteArray} : ∀ t : Tm, y ∈ vs t → (f y).size ≤ (sub f t).size := ind fun t ih h => by
  cases hv : t.var with
  | true => rw [sub_var _ hv, (vs_var hv).1 h]; exact Nat.le_refl _
  | false =>
    obtain ⟨a, ha, hy⟩ := (vs_fn hv).1 h
    have h1 := ih a ha hy
    have h2 := size_mem (t := sub f t) (a := sub f a) (by rw [sub_fn _ hv]; exact List.mem_map.2 ⟨a, ha, rfl⟩)
    omega
theorem size_sub_lt {f : ByteArray → Tm} {y : ByteArray} {t : Tm} (hv : t.var = false) (h : y ∈ vs t) : (f y).size < (sub f t).size := by
  obtain ⟨a, ha, hy⟩ := (vs_fn hv).1 h
  have h1 := size_sub (f := f) a hy
  have h2 := size_mem (t := sub f t) (a := sub f a) (by rw [sub_fn _ hv]; exact List.mem_map.2 ⟨a, ha, rfl⟩)
  omega
abbrev vr (x : ByteArray) : Tm := mk x true []
end Tm
open Tm
abbrev Bd := ByteArray → Option Tm
def updB (σ : Bd) (x : ByteArray) (t : Tm) : Bd := fun y => if y = x then some t else σ y
theorem updB_self (σ : Bd) (x : ByteArray) (t : Tm) : updB σ x t x = some t := by simp [updB]
theorem updB_ne (σ : Bd) {x y : ByteArray} (t : Tm) (h : y ≠ x) : updB σ x t y = σ y := by simp [updB, h]
structure Tri (σ : Bd) (θ : ByteArray → Tm) (r : ByteArray → Nat) : Prop where
  bnd : ∀ x t, σ x = some t → θ x = sub θ t
  fre : ∀ x, σ x = none → θ x = vr x
  rk : ∀ x t, σ x = some t → ∀ y ∈ vs t, r y < r x
theorem Tri.free {σ : Bd} {θ : ByteArray → Tm} {r : ByteArray → Nat} (h : Tri σ θ r) : ∀ (n : Nat) (x : ByteArray), r x ≤ n → ∀ y ∈ vs (θ x), σ y = none := by
  intro n
  induction n with
  | zero =>
    intro x hx y hy
    cases hs : σ x with
    | none => rw [h.fre x hs, vs_var rfl] at hy; rw [hy]; exact hs
    | some t =>
      rw [h.bnd x t hs] at hy
      obtain ⟨z, hz, _⟩ := (vs_sub t).1 hy
      have := h.rk x t hs z hz; omega
  | succ n ih =>
    intro x hx y hy
    cases hs : σ x with
    | none => rw [h.fre x hs, vs_var rfl] at hy; rw [hy]; exact hs
    | some t =>
      rw [h.bnd x t hs] at hy
      obtain ⟨z, hz, hzy⟩ := (vs_sub t).1 hy
      have := h.rk x t hs z hz
      exact ih z (by omega) y hzy
theorem Tri.fr {σ : Bd} {θ : ByteArray → Tm} {r : ByteArray → Nat} (h : Tri σ θ r) {x y : ByteArray} (hy : y ∈ vs (θ x)) : σ y = none := h.free _ x (Nat.le_refl _) y hy
theorem Tri.idem {σ : Bd} {θ : ByteArray → Tm} {r : ByteArray → Nat} (h : Tri σ θ r) (t : Tm) : sub θ (sub θ t) = sub θ t := by
  rw [sub_sub]
  refine sub_congr t fun x _ => ?_
  have key : ∀ u : Tm, (∀ y ∈ vs u, σ y = none) → (∀ y ∈ vs u, vr y = θ y) := fun u hu y hy => (h.fre y (hu y hy)).symm
  have e : sub θ (θ x) = sub vr (θ x) := sub_congr _ fun y hy => h.fre y (h.fr hy)
  rw [e]
  -- what vr does to what θ yields
  have id1 : ∀ n (x : ByteArray), r x ≤ n → sub vr (θ x) = θ x := by
    intro n
    induction n with
    | zero =>
      intro x hx
      cases hs : σ x with
      | none => rw [h.fre x hs, sub_var _ rfl]; rfl
      | some t =>
        rw [h.bnd x t hs, sub_sub]
        exact sub_congr t fun z hz => by have := h.rk x t hs z hz; omega
    | succ n ih =>
      intro x hx
      cases hs : σ x with
      | none => rw [h.fre x hs, sub_var _ rfl]; rfl
      | some t =>
        rw [h.bnd x t hs, sub_sub]
        exact sub_congr t fun z hz => ih z (by have := h.rk x t hs z hz; omega)
  exact id1 _ x (Nat.le_refl _)
def maxR (r : ByteArray → Nat) : List ByteArray → Nat | [] => 0 | x :: l => max (r x) (maxR r l)
theorem maxR_mem {r : ByteArray → Nat} : ∀ {l : List ByteArray} {x : ByteArray}, x ∈ l → r x ≤ maxR r l
  | y :: l, x, h => by
    rw [maxR]
    rcases List.mem_cons.1 h with rfl | h
    · omega
    · have := maxR_mem (r := r) h; omega
open Classical in
theorem Tri.upd {σ : Bd} {θ : ByteArray → Tm} {r : ByteArray → Nat} (h : Tri σ θ r) {x : ByteArray} {t : Tm} (hx : σ x = none) (ho : x ∉ vs (sub θ t)) :
    Tri (updB σ x t) (fun y => sub (fun z => if z = x then sub θ t else vr z) (θ y)) (fun y => if x ∈ vs (θ y) then r y + (maxR r (vs t) + 1) else r y) := by
  have hθx : θ x = vr x := h.fre x hx
  have keep : ∀ u : Tm, x ∉ vs u → sub (fun z => if z = x then sub θ t else vr z) u = sub vr u := fun u hu => sub_congr u fun z hz => by
    exact if_neg fun e : z = x => hu (e ▸ hz)
  have vrθ : ∀ u : Tm, sub vr (sub θ u) = sub θ u := fun u => by
    rw [sub_sub]
    refine sub_congr u fun y _ => ?_
    have := h.idem (vr y)
    rw [sub_var θ (t := vr y) rfl] at this
    have e : sub θ (θ y) = sub vr (θ y) := sub_congr _ fun z hz => h.fre z (h.fr hz)
    rw [← e]; exact this
  refine ⟨fun y u hy => ?_, fun y hy => ?_, fun y u hy z hz => ?_⟩
  · by_cases hyx : y = x
    · subst hyx
      rw [updB_self] at hy
      cases hy
      show sub _ (θ y) = _
      rw [hθx, sub_var _ rfl]
      show (if y = y then sub θ t else vr y) = _
      rw [if_pos rfl, ← sub_sub, keep _ ho, vrθ]
    · rw [updB_ne _ _ hyx] at hy
      show sub _ (θ y) = _
      rw [h.bnd y u hy, sub_sub]
  · by_cases hyx : y = x
    · subst hyx; rw [updB_self] at hy; cases hy
    · rw [updB_ne _ _ hyx] at hy
      show sub _ (θ y) = _
      rw [h.fre y hy, sub_var _ rfl]
      show (if y = x then sub θ t else vr y) = _
      rw [if_neg hyx]
  · show (if x ∈ vs (θ z) then r z + (maxR r (vs t) + 1) else r z) < (if x ∈ vs (θ y) then r y + (maxR r (vs t) + 1) else r y)
    by_cases hyx : y = x
    · subst hyx
      rw [updB_self] at hy
      cases hy
      have hm := maxR_mem (r := r) hz
      rw [if_neg fun hin => ho ((vs_sub t).2 ⟨z, hz, hin⟩), if_pos (by rw [hθx]; simp [vs])]
      omega
    · rw [updB_ne _ _ hyx] at hy
      have hr := h.rk y u hy z hz
      by_cases h1 : x ∈ vs (θ z)
      · rw [if_pos h1, if_pos (by rw [h.bnd y u hy]; exact (vs_sub u).2 ⟨z, hz, h1⟩)]; omega
      · rw [if_neg h1]; split <;> omega
theorem Tri.empty : Tri (fun _ => none) vr (fun _ => 0) := ⟨fun x t h => (by cases h), fun _ _ => rfl, fun x t h => (by cases h)⟩
def Resp (τ : ByteArray → Tm) (σ : Bd) : Prop := ∀ x t, σ x = some t → τ x = sub τ t
theorem Tri.resp {σ : Bd} {θ : ByteArray → Tm} {r : ByteArray → Nat} (h : Tri σ θ r) : Resp θ σ := h.bnd
theorem Resp.upd {τ : ByteArray → Tm} {σ : Bd} {x : ByteArray} {t : Tm} (hx : σ x = none) (h : Resp τ (updB σ x t)) : Resp τ σ ∧ τ x = sub τ t := by
  refine ⟨fun y u hy => h y u ?_, h x t (updB_self _ _ _)⟩
  rw [updB_ne _ _ (fun e => by rw [e, hx] at hy; cases hy)]; exact hy
theorem Resp.mk {τ : ByteArray → Tm} {σ : Bd} {x : ByteArray} {t : Tm} (h : Resp τ σ) (ht : τ x = sub τ t) : Resp τ (updB σ x t) := fun y u hy => by
  by_cases hyx : y = x
  · subst hyx; rw [updB_self] at hy; cases hy; exact ht
  · rw [updB_ne _ _ hyx] at hy; exact h y u hy
theorem Tri.through {σ : Bd} {θ : ByteArray → Tm} {r : ByteArray → Nat} (h : Tri σ θ r) {τ : ByteArray → Tm} (hτ : Resp τ σ) : ∀ (n : Nat) (x : ByteArray), r x ≤ n → sub τ (θ x) = τ x := by
  intro n
  induction n with
  | zero =>
    intro x hx
    cases hs : σ x with
    | none => rw [h.fre x hs, sub_var _ rfl]; rfl
    | some t =>
      rw [h.bnd x t hs, sub_sub, hτ x t hs]
      exact sub_congr t fun z hz => by have := h.rk x t hs z hz; omega
  | succ n ih =>
    intro x hx
    cases hs : σ x with
    | none => rw [h.fre x hs, sub_var _ rfl]; rfl
    | some t =>
      rw [h.bnd x t hs, sub_sub, hτ x t hs]
      exact sub_congr t fun z hz => ih z (by have := h.rk x t hs z hz; omega)
theorem Tri.thr {σ : Bd} {θ : ByteArray → Tm} {r : ByteArray → Nat} (h : Tri σ θ r) {τ : ByteArray → Tm} (hτ : Resp τ σ) (t : Tm) : sub τ (sub θ t) = sub τ t := by
  rw [sub_sub]; exact sub_congr t fun x _ => h.through hτ _ x (Nat.le_refl _)
inductive Head (σ : Bd) : Tm → Tm → Prop
  | fn (t : Tm) : t.var = false → Head σ t t
  | free (t : Tm) : t.var = true → σ t.name = none → Head σ t t
  | step (t u h : Tm) : t.var = true → σ t.name = some u → Head σ u h → Head σ t h
theorem Head.end_ {σ : Bd} {t h : Tm} (a : Head σ t h) : h.var = true → σ h.name = none := by
  induction a with
  | fn t hv => intro h; rw [hv] at h; cases h
  | free t hv hs => exact fun _ => hs
  | step t u h hv hs _ ih => exact ih
theorem Head.sub {σ : Bd} {t h : Tm} (a : Head σ t h) {τ : ByteArray → Tm} (hτ : Resp τ σ) : Tm.sub τ t = Tm.sub τ h := by
  induction a with
  | fn t hv => rfl
  | free t hv hs => rfl
  | step t u h hv hs _ ih => rw [sub_var _ hv, hτ _ _ hs]; exact ih
theorem Head.total {σ : Bd} {θ : ByteArray → Tm} {r : ByteArray → Nat} (h : Tri σ θ r) : ∀ (n : Nat) (t : Tm), (t.var = true → r t.name ≤ n) → ∃ u, Head σ t u := by
  intro n
  induction n with
  | zero =>
    intro t ht
    cases hv : t.var with
    | false => exact ⟨t, .fn t hv⟩
    | true =>
      cases hs : σ t.name with
      | none => exact ⟨t, .free t hv hs⟩
      | some u =>
        cases hu : u.var with
        | false => exact ⟨u, .step t u u hv hs (.fn u hu)⟩
        | true => have := h.rk _ u hs u.name ((vs_var hu).2 rfl); have := ht hv; omega
  | succ n ih =>
    intro t ht
    cases hv : t.var with
    | false => exact ⟨t, .fn t hv⟩
    | true =>
      cases hs : σ t.name with
      | none => exact ⟨t, .free t hv hs⟩
      | some u =>
        obtain ⟨w, hw⟩ := ih u fun hu => by have := h.rk _ u hs u.name ((vs_var hu).2 rfl); have := ht hv; omega
        exact ⟨w, .step t u w hv hs hw⟩
theorem Head.ex {σ : Bd} {θ : ByteArray → Tm} {r : ByteArray → Nat} (h : Tri σ θ r) (t : Tm) : ∃ u, Head σ t u := Head.total h (r t.name) t fun _ => Nat.le_refl _
inductive Occ (σ : Bd) (v : ByteArray) : Tm → Prop
  | here (t : Tm) : v ∈ vs t → Occ σ v t
  | step (t u : Tm) (x : ByteArray) : x ∈ vs t → σ x = some u → Occ σ v u → Occ σ v t
theorem Occ.iff {σ : Bd} {θ : ByteArray → Tm} {r : ByteArray → Nat} (h : Tri σ θ r) {v : ByteArray} (hv : σ v = none) (t : Tm) : Occ σ v t ↔ v ∈ vs (sub θ t) := by
  constructor
  · intro ho
    induction ho with
    | here t ht => exact (vs_sub t).2 ⟨v, ht, by rw [h.fre v hv]; simp [vs]⟩
    | step t u x hx hs _ ih => exact (vs_sub t).2 ⟨x, hx, by rw [h.bnd x u hs]; exact ih⟩
  · have key : ∀ n (x : ByteArray), r x ≤ n → v ∈ vs (θ x) → v = x ∨ ∃ u, σ x = some u ∧ Occ σ v u := by
      intro n
      induction n with
      | zero =>
        intro x hx hm
        cases hs : σ x with
        | none => rw [h.fre x hs, vs_var rfl] at hm; exact .inl hm
        | some u =>
          rw [h.bnd x u hs] at hm
          obtain ⟨z, hz, _⟩ := (vs_sub u).1 hm
          have := h.rk x u hs z hz; omega
      | succ n ih =>
        intro x hx hm
        cases hs : σ x with
        | none => rw [h.fre x hs, vs_var rfl] at hm; exact .inl hm
        | some u =>
          rw [h.bnd x u hs] at hm
          obtain ⟨z, hz, hzm⟩ := (vs_sub u).1 hm
          have := h.rk x u hs z hz
          rcases ih z (by omega) hzm with rfl | ⟨w, hw, ho⟩
          · exact .inr ⟨u, rfl, .here u hz⟩
          · exact .inr ⟨u, rfl, .step u w z hz hw ho⟩
    intro hm
    obtain ⟨x, hx, hxm⟩ := (vs_sub t).1 hm
    rcases key _ x (Nat.le_refl _) hxm with rfl | ⟨u, hu, ho⟩
    · exact .here t hx
    · exact .step t u x hx hu ho
end Go.Proofs.Ytgohjdaepcmonaa
