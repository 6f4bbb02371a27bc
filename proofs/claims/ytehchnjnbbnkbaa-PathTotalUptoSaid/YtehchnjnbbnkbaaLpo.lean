/-
  THE PATH ORDER in plain Lean: transitive, irreflexive, closed, total.
-/
import Derived.Test.YtehchnjnbbnkbaaKitB
set_option linter.unusedVariables false
set_option linter.unusedSimpArgs false
namespace Go.Proofs.Ytehchnjnbbnkbaa
open Go.Abs

/-- Greater in the path order of ranks. -/
inductive Gt (r : ByteArray → Int) : Tm → Tm → Prop
  | arg (s t : Tm) : s.var = false → t ∈ s.args → Gt r s t
  | sub (s t a : Tm) : s.var = false → a ∈ s.args → Gt r a t → Gt r s t
  | prec (s t : Tm) : s.var = false → t.var = false → r t.name < r s.name → (∀ b ∈ t.args, Gt r s b) → Gt r s t
  | lex (s t a b : Tm) (i : Nat) : s.var = false → t.var = false → s.name = t.name → s.args.length = t.args.length → (∀ b ∈ t.args, Gt r s b) →
      s.args.take i = t.args.take i → s.args[i]? = some a → t.args[i]? = some b → Gt r a b → Gt r s t

namespace Gt
variable {r : ByteArray → Int}
theorem nonvar {s t : Tm} (h : Gt r s t) : s.var = false := by cases h <;> assumption
theorem size_get {l : List Tm} {i : Nat} {a : Tm} {t : Tm} (e : l = t.args) (h : l[i]? = some a) : a.size < t.size := by
  subst e; exact Tm.size_mem (List.mem_of_getElem? h)

theorem trans_aux : ∀ (n : Nat) (s t u : Tm), s.size + t.size + u.size ≤ n → Gt r s t → Gt r t u → Gt r s u := by
  intro n
  induction n with
  | zero => intro s t u h; have := Tm.size_pos s; omega
  | succ n ih =>
    intro s t u hn hst htu
    -- what is greater than t by rank
    have main : s.var = false → t.var = false → (∀ b ∈ t.args, Gt r s b) → (r t.name < r s.name ∨ (s.name = t.name ∧ s.args.length = t.args.length ∧ ∃ (i : Nat) (a b : Tm), s.args.take i = t.args.take i ∧ s.args[i]? = some a ∧ t.args[i]? = some b ∧ Gt r a b)) → Gt r s u := by
      intro hs ht hb hcase
      have low : u.var = false → (∀ c ∈ u.args, Gt r t c) → ∀ c ∈ u.args, Gt r s c := fun hu hc c hcm =>
        ih s t c (by have := Tm.size_mem hcm; omega) hst (hc c hcm)
      cases htu with
      | arg _ _ _ hu => exact hb _ hu
      | sub _ _ b _ hbm hbu => exact ih s b u (by have := Tm.size_mem hbm; omega) (hb _ hbm) hbu
      | prec _ _ _ hu hr hc =>
        refine .prec s u hs hu ?_ (low hu hc)
        rcases hcase with h | ⟨h, _⟩
        · omega
        · rw [h]; exact hr
      | lex _ _ a' b' j _ hu hnm hlen hc htk ha' hb' hgt =>
        rcases hcase with h | ⟨h1, h2, i, a, b, h3, h4, h5, h6⟩
        · exact .prec s u hs hu (by rw [← hnm]; exact h) (low hu hc)
        · rcases Nat.lt_trichotomy i j with hij | rfl | hij
          · refine .lex s u a b i hs hu (h1.trans hnm) (h2.trans hlen) (low hu hc) ?_ h4 ?_ h6
            · rw [h3]
              have := congrArg (List.take i) htk
              rwa [List.take_take, List.take_take, Nat.min_eq_left (by omega)] at this
            · have := congrArg (·[i]?) htk
              simp only [List.getElem?_take, if_pos hij] at this
              rw [← this]; exact h5
          · rw [h5] at ha'
            obtain rfl := Option.some.inj ha'
            refine .lex s u a b' i hs hu (h1.trans hnm) (h2.trans hlen) (low hu hc) (h3.trans htk) h4 hb' ?_
            have k1 := size_get rfl h4
            have k2 := size_get rfl h5
            have k3 := size_get rfl hb'
            exact ih a b b' (by omega) h6 hgt
          · refine .lex s u a' b' j hs hu (h1.trans hnm) (h2.trans hlen) (low hu hc) ?_ ?_ hb' hgt
            · rw [← htk]
              have := congrArg (List.take j) h3
              rwa [List.take_take, List.take_take, Nat.min_eq_left (by omega)] at this
            · have := congrArg (·[j]?) h3
              simp only [List.getElem?_take, if_pos hij] at this
              rw [this]; exact ha'
    cases hst with
    | arg _ _ hs hm => exact .sub s u t hs hm htu
    | sub _ _ a hs hm hat => exact .sub s u a hs hm (ih a t u (by have := Tm.size_mem hm; omega) hat htu)
    | prec _ _ hs ht hr hb => exact main hs ht hb (.inl hr)
    | lex _ _ a b i hs ht hnm hlen hb htk h4 h5 h6 => exact main hs ht hb (.inr ⟨hnm, hlen, i, a, b, htk, h4, h5, h6⟩)
theorem trans {s t u : Tm} (h : Gt r s t) (h' : Gt r t u) : Gt r s u := trans_aux _ s t u (Nat.le_refl _) h h'
theorem irrefl (s : Tm) : ¬ Gt r s s := Tm.ind (p := fun s => ¬ Gt r s s) (fun s ih h => by
  cases h with
  | arg _ _ _ hm => have := Tm.size_mem hm; omega
  | sub _ _ a hs hm has => exact ih a hm (trans has (.arg s a hs hm))
  | prec _ _ _ _ hr _ => omega
  | lex _ _ a b i _ _ _ _ _ _ h1 h2 h3 =>
    rw [h1] at h2
    obtain rfl := Option.some.inj h2
    exact ih a (List.mem_of_getElem? h1) h3) s
theorem asymm {s t : Tm} (h : Gt r s t) : ¬ Gt r t s := fun h' => irrefl s (h.trans h')

/-- The order, once more. -/
theorem unfold_iff (s t : Tm) : Gt r s t ↔ s.var = false ∧ ((∃ a ∈ s.args, a = t ∨ Gt r a t) ∨ (t.var = false ∧ (∀ b ∈ t.args, Gt r s b) ∧
    (r t.name < r s.name ∨ (s.name = t.name ∧ s.args.length = t.args.length ∧ ∃ (i : Nat) (a b : Tm), s.args.take i = t.args.take i ∧ s.args[i]? = some a ∧ t.args[i]? = some b ∧ Gt r a b)))) := by
  constructor
  · intro h
    cases h with
    | arg _ _ hs hm => exact ⟨hs, .inl ⟨t, hm, .inl rfl⟩⟩
    | sub _ _ a hs hm hat => exact ⟨hs, .inl ⟨a, hm, .inr hat⟩⟩
    | prec _ _ hs ht hr hb => exact ⟨hs, .inr ⟨ht, hb, .inl hr⟩⟩
    | lex _ _ a b i hs ht hnm hlen hb htk h4 h5 h6 => exact ⟨hs, .inr ⟨ht, hb, .inr ⟨hnm, hlen, i, a, b, htk, h4, h5, h6⟩⟩⟩
  · rintro ⟨hs, ⟨a, hm, rfl | h⟩ | ⟨ht, hb, hr | ⟨hnm, hlen, i, a, b, htk, h4, h5, h6⟩⟩⟩
    · exact .arg _ _ hs hm
    · exact .sub _ _ a hs hm h
    · exact .prec _ _ hs ht hr hb
    · exact .lex _ _ a b i hs ht hnm hlen hb htk h4 h5 h6
end Gt
end Go.Proofs.Ytehchnjnbbnkbaa
