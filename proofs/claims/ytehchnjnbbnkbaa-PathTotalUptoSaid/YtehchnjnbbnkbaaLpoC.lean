/-
  THE PATH ORDER in plain Lean: total.
-/
import Derived.Test.YtehchnjnbbnkbaaLpo
set_option linter.unusedVariables false
set_option linter.unusedSimpArgs false
namespace Go.Proofs.Ytehchnjnbbnkbaa
open Go.Abs

/-- Every symbol stands with its arity in a list; no variables. -/
inductive Within (M : List (ByteArray × Nat)) : Tm → Prop
  | mk (t : Tm) : t.var = false → (t.name, t.args.length) ∈ M → (∀ a ∈ t.args, Within M a) → Within M t
theorem Within.inv {M : List (ByteArray × Nat)} {t : Tm} (h : Within M t) : t.var = false ∧ (t.name, t.args.length) ∈ M ∧ ∀ a ∈ t.args, Within M a := by
  cases h with | mk _ h1 h2 h3 => exact ⟨h1, h2, h3⟩
theorem Within.mono {M M' : List (ByteArray × Nat)} (h : ∀ x ∈ M, x ∈ M') : ∀ t, Within M t → Within M' t := Tm.ind fun t ih ht => by
  obtain ⟨h1, h2, h3⟩ := ht.inv
  exact .mk t h1 (h _ h2) fun a ha => ih a ha (h3 a ha)
/-- One arity for each name, one name for each rank. -/
def Plain (r : ByteArray → Int) (M : List (ByteArray × Nat)) : Prop := ∀ x ∈ M, ∀ y ∈ M, (x.1 = y.1 → x.2 = y.2) ∧ (x.1 ≠ y.1 → r x.1 ≠ r y.1)

namespace Gt
variable {r : ByteArray → Int}
theorem first_diff : ∀ {l m : List Tm}, l.length = m.length → l ≠ m → ∃ (i : Nat) (a b : Tm), l.take i = m.take i ∧ l[i]? = some a ∧ m[i]? = some b ∧ a ≠ b
  | [], [], _, h => absurd rfl h
  | [], _ :: _, h, _ => by simp at h
  | _ :: _, [], h, _ => by simp at h
  | a :: l, b :: m, h, hn => by
    by_cases hab : a = b
    · subst hab
      obtain ⟨i, x, y, h1, h2, h3, h4⟩ := first_diff (l := l) (m := m) (by simpa using h) (fun h => hn (by rw [h]))
      exact ⟨i + 1, x, y, by simp [h1], by simpa using h2, by simpa using h3, h4⟩
    · exact ⟨0, a, b, rfl, rfl, rfl, hab⟩
theorem total_aux {M : List (ByteArray × Nat)} (hM : Plain r M) : ∀ (n : Nat) (s t : Tm), s.size + t.size ≤ n → Within M s → Within M t → s = t ∨ Gt r s t ∨ Gt r t s := by
  intro n
  induction n with
  | zero => intro s t h; have := Tm.size_pos s; omega
  | succ n ih =>
    intro s t hn hs ht
    obtain ⟨hs1, hs2, hs3⟩ := hs.inv
    obtain ⟨ht1, ht2, ht3⟩ := ht.inv
    by_cases hA : ∃ a ∈ s.args, a = t ∨ Gt r a t
    · obtain ⟨a, ha, rfl | h⟩ := hA
      · exact .inr (.inl (.arg _ _ hs1 ha))
      · exact .inr (.inl (.sub _ _ a hs1 ha h))
    by_cases hB : ∃ b ∈ t.args, b = s ∨ Gt r b s
    · obtain ⟨b, hb, rfl | h⟩ := hB
      · exact .inr (.inr (.arg _ _ ht1 hb))
      · exact .inr (.inr (.sub _ _ b ht1 hb h))
    have hA' : ∀ a ∈ s.args, Gt r t a := fun a ha => by
      rcases ih a t (by have := Tm.size_mem ha; omega) (hs3 a ha) ht with h | h | h
      · exact absurd ⟨a, ha, .inl h⟩ hA
      · exact absurd ⟨a, ha, .inr h⟩ hA
      · exact h
    have hB' : ∀ b ∈ t.args, Gt r s b := fun b hb => by
      rcases ih s b (by have := Tm.size_mem hb; omega) hs (ht3 b hb) with h | h | h
      · exact absurd ⟨b, hb, .inl h.symm⟩ hB
      · exact h
      · exact absurd ⟨b, hb, .inr h⟩ hB
    obtain ⟨k1, k2⟩ := hM _ hs2 _ ht2
    by_cases hnm : s.name = t.name
    · have hlen := k1 hnm
      by_cases hargs : s.args = t.args
      · exact .inl (Tm.ext hnm (by rw [hs1, ht1]) hargs)
      · obtain ⟨i, a, b, h1, h2, h3, h4⟩ := first_diff hlen hargs
        have ha := List.mem_of_getElem? h2
        have hb := List.mem_of_getElem? h3
        rcases ih a b (by have := Tm.size_mem ha; have := Tm.size_mem hb; omega) (hs3 a ha) (ht3 b hb) with h | h | h
        · exact absurd h h4
        · exact .inr (.inl (.lex _ _ a b i hs1 ht1 hnm hlen hB' h1 h2 h3 h))
        · exact .inr (.inr (.lex _ _ b a i ht1 hs1 hnm.symm hlen.symm hA' h1.symm h3 h2 h))
    · have := k2 hnm
      rcases Int.lt_or_gt_of_ne this with h | h
      · exact .inr (.inr (.prec _ _ ht1 hs1 h hA'))
      · exact .inr (.inl (.prec _ _ hs1 ht1 h hB'))
theorem total {M : List (ByteArray × Nat)} (hM : Plain r M) {s t : Tm} (hs : Within M s) (ht : Within M t) : s = t ∨ Gt r s t ∨ Gt r t s := total_aux hM _ s t (Nat.le_refl _) hs ht
end Gt
end Go.Proofs.Ytehchnjnbbnkbaa
