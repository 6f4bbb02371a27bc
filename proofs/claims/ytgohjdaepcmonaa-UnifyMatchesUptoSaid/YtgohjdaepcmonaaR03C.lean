import Derived.Test.YtgohjdaepcmonaaR03B
set_option linter.unusedVariables false
set_option linter.unusedSimpArgs false
namespace Go.Proofs.Ytgohjdaepcmonaa
open Go.Abs
abbrev Prs := List (ByteArray × ByteArray)
def encQ (l : Prs) : List (List V) := l.map fun p => [.s p.1, .s p.2]
def knP (l : Prs) (a b : ByteArray) : Bool := l.any fun p => decide (p.1 = a) && decide (p.2 = b)
theorem knP_iff {l : Prs} {a b : ByteArray} : knP l a b = true ↔ (a, b) ∈ l := by
  unfold knP; rw [List.any_eq_true]
  constructor
  · rintro ⟨p, hp, h⟩
    rw [Bool.and_eq_true, decide_eq_true_iff, decide_eq_true_iff] at h
    exact h.1 ▸ h.2 ▸ hp
  · exact fun h => ⟨_, h, by simp⟩
theorem knP_false {l : Prs} {a b : ByteArray} : knP l a b = false ↔ (a, b) ∉ l := by rw [← knP_iff, Bool.not_eq_true]
abbrev solH (s : Su) (l : Prs) : Heap := [.cells [suD s, .osl (.own 1) l.length], .row t_a2_string (encQ l)]
def CntOk (U : List ByteArray) (s : Su) : Prop := s.length + unb U (fnS s) ≤ U.length
theorem CntOk.with {U : List ByteArray} {s : Su} {v : ByteArray} (t : Tm) (h : CntOk U s) (hv : fnS s v = none) (hU : v ∈ U) : CntOk U (withS s v t) := by
  unfold CntOk at *
  rw [fnS_with t hv, withS_length]
  have := unb_upd (t := t) hv hU
  omega
structure PrOk (U : List ByteArray) (σ : Bd) (l : Prs) : Prop where
  nd : l.Nodup
  inU : ∀ p ∈ l, p.1 ∈ U ∧ p.2 ∈ U
  eq : ∀ p ∈ l, ∀ τ, Resp τ σ → τ p.1 = τ p.2
def PrNew (σ : Bd) (xs : List Tm) (l l' : Prs) : Prop := ∀ p ∈ l', p ∈ l ∨ ∀ τ, Resp τ σ → (τ p.1).size ≤ Tm.sizeL (xs.map (Tm.sub τ))
def RunR : List Tm → List Tm → Su → Prs → (Bool → Su → Prs → Prop) → Prop
  | a :: xs, b :: ys, s, l, post => cl f_r03_solver_solve [.ptr (.own 0) 0, tD a, tD b] (solH s l) fun r H' => ∃ s' l', H' = solH s' l' ∧ ((r = bD true ∧ RunR xs ys s' l' post) ∨ (r = bD false ∧ post false s' l'))
  | _, _, s, l, post => post true s l
end Go.Proofs.Ytgohjdaepcmonaa
