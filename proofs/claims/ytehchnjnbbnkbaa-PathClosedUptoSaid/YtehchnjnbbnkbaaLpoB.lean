/-
  THE PATH ORDER in plain Lean: closed under substitutions and contexts, total.
-/
import Derived.Test.YtehchnjnbbnkbaaLpo
import Derived.Test.YtehchnjnbbnkbaaR01D
set_option linter.unusedVariables false
set_option linter.unusedSimpArgs false
namespace Go.Proofs.Ytehchnjnbbnkbaa
open Go.Abs
namespace Gt
variable {r : ByteArray → Int}
theorem app {l : Su} {s t : Tm} (h : Gt r s t) : Gt r (Tm.app l s) (Tm.app l t) := by
  have hv : ∀ u : Tm, u.var = false → Tm.app l u = .mk u.name false (u.args.map (Tm.app l)) := fun u hu => by rw [Tm.app_eq, hu]; rfl
  induction h with
  | arg s t hs hm => rw [hv s hs]; exact .arg _ _ rfl (List.mem_map_of_mem hm)
  | sub s t a hs hm _ ih => rw [hv s hs]; exact .sub _ _ (Tm.app l a) rfl (List.mem_map_of_mem hm) ih
  | prec s t hs ht hr _ ih =>
    rw [hv s hs] at *
    rw [hv t ht]
    refine .prec _ _ rfl rfl hr fun b hb => ?_
    obtain ⟨c, hc, rfl⟩ := List.mem_map.1 hb
    exact ih c hc
  | lex s t a b i hs ht hnm hlen _ htk h4 h5 _ ih ih2 =>
    rw [hv s hs] at *
    rw [hv t ht]
    refine .lex _ _ (Tm.app l a) (Tm.app l b) i rfl rfl hnm ?_ (fun b hb => ?_) ?_ ?_ ?_ ih2
    · show (s.args.map _).length = (t.args.map _).length; simp [hlen]
    · obtain ⟨c, hc, rfl⟩ := List.mem_map.1 hb
      exact ih c hc
    · show (s.args.map _).take i = (t.args.map _).take i
      rw [← List.map_take, ← List.map_take, htk]
    · show (s.args.map _)[i]? = _; rw [List.getElem?_map, h4]; rfl
    · show (t.args.map _)[i]? = _; rw [List.getElem?_map, h5]; rfl

theorem getD_get {l : List Tm} {i : Nat} (h : i < l.length) : l.getD i Tm.dflt = l[i] := by rw [List.getD_eq_getElem?_getD, List.getElem?_eq_getElem h]; rfl
theorem at_cons {c : Tm} {i : Int} {p : List Int} {x : Tm} (h : Tm.at_ c (i :: p) = some x) : ∃ h : i.toNat < c.args.length, Tm.at_ c.args[i.toNat] p = some x := by
  simp only [Tm.at_] at h
  by_cases h1 : i < 0
  · rw [if_pos h1] at h; cases h
  · rw [if_neg h1] at h
    by_cases h2 : i ≥ (c.args.length : Int)
    · rw [if_pos h2] at h; cases h
    · rw [if_neg h2] at h
      have h3 : i.toNat < c.args.length := by omega
      rw [getD_get h3] at h
      exact ⟨h3, h⟩
theorem put {s t : Tm} (h : Gt r s t) : ∀ (p : List Int) (c x : Tm), Tm.at_ c p = some x → Gt r (Tm.put c p s) (Tm.put c p t)
  | [], c, x, _ => by simpa [Tm.put] using h
  | i :: p, c, x, hx => by
    obtain ⟨hi, hx⟩ := at_cons hx
    have ih := put h p _ _ hx
    simp only [Tm.put, getD_get hi]
    generalize hS : Tm.put c.args[i.toNat] p s = S at *
    generalize hT : Tm.put c.args[i.toNat] p t = T at *
    generalize i.toNat = j at *
    refine .lex _ _ S T j rfl rfl rfl ?_ (fun b hb => ?_) ?_ ?_ ?_ ih
    · show (c.args.set j S).length = (c.args.set j T).length; simp
    · have hb : b ∈ c.args.set j T := hb
      have hSm : S ∈ c.args.set j S := List.mem_iff_getElem?.2 ⟨j, by simp [hi]⟩
      obtain ⟨k, hk⟩ := List.mem_iff_getElem?.1 hb
      by_cases hjk : j = k
      · subst hjk
        have : (c.args.set j T)[j]? = some T := by simp [hi]
        rw [this] at hk
        obtain rfl := Option.some.inj hk
        exact .sub _ _ S rfl hSm ih
      · rw [List.getElem?_set_ne hjk] at hk
        refine .arg _ _ rfl ?_
        show b ∈ c.args.set j S
        exact List.mem_iff_getElem?.2 ⟨k, by rw [List.getElem?_set_ne hjk]; exact hk⟩
    · show (c.args.set j S).take j = (c.args.set j T).take j
      rw [List.take_set_of_le (Nat.le_refl _), List.take_set_of_le (Nat.le_refl _)]
    · show (c.args.set j S)[j]? = _; simp [hi]
    · show (c.args.set j T)[j]? = _; simp [hi]
theorem sub_at : ∀ (p : List Int) (c x : Tm), p ≠ [] → c.formed = true → Tm.at_ c p = some x → Gt r c x
  | [], _, _, h, _, _ => absurd rfl h
  | i :: p, c, x, _, hf, hx => by
    obtain ⟨hi, hx⟩ := at_cons hx
    rw [Tm.formed_eq] at hf
    have hv : c.var = false := by
      cases hv : c.var with
      | false => rfl
      | true =>
        rw [hv, if_pos rfl] at hf
        simp only [Bool.and_eq_true, List.isEmpty_iff] at hf
        rw [hf.2] at hi; simp at hi
    have hm := List.getElem_mem hi
    cases p with
    | nil =>
      simp only [Tm.at_] at hx
      exact .arg _ _ hv (Option.some.inj hx ▸ hm)
    | cons j q =>
      rw [hv, if_neg (by simp)] at hf
      simp only [Bool.and_eq_true] at hf
      exact .sub _ _ _ hv hm (sub_at (j :: q) _ x (by simp) (List.all_eq_true.1 hf.2 _ hm) hx)
end Gt
end Go.Proofs.Ytehchnjnbbnkbaa
