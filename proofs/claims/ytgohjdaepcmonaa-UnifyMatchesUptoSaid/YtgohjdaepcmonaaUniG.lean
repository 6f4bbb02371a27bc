import Derived.Test.YtgohjdaepcmonaaUniF
set_option linter.unusedVariables false
set_option linter.unusedSimpArgs false
namespace Go.Proofs.Ytgohjdaepcmonaa
open Go.Abs
theorem names_inj {m : Su} (h : NamesOk m) : ∀ i j (hi : i < m.length) (hj : j < m.length), (m[i]).1 = (m[j]).1 → i = j := by
  induction m with
  | nil => intro i j hi; simp at hi
  | cons x m ih =>
    intro i j hi hj e
    have h : (x.1 :: suNames m).Nodup := h
    rw [List.nodup_cons] at h
    have hnin : ∀ k (hk : k < m.length), (m[k]).1 ≠ x.1 := fun k hk e => h.1 (e ▸ List.mem_map.2 ⟨_, List.getElem_mem hk, rfl⟩)
    cases i with
    | zero =>
      cases j with
      | zero => rfl
      | succ j => simp only [List.getElem_cons_zero, List.getElem_cons_succ] at e; exact absurd e.symm (hnin j (by simpa using hj))
    | succ i =>
      cases j with
      | zero => simp only [List.getElem_cons_zero, List.getElem_cons_succ] at e; exact absurd e (hnin i (by simpa using hi))
      | succ j =>
        simp only [List.getElem_cons_succ] at e
        rw [ih h.2 i j (by simpa using hi) (by simpa using hj) e]
structure Drawn (m : Su) (θ : ByteArray → Tm) (seen : List Nat) (out : Su) : Prop where
  sort : SortS out
  len : out.length = seen.length
  mem : ∀ y : ByteArray × Tm, y ∈ out ↔ ∃ j, j ∈ seen ∧ ∃ h : j < m.length, y.1 = (m[j]).1 ∧ y.2 = θ y.1
  fit : ∀ j, j ∈ seen → ∀ h : j < m.length, fitsT (θ (m[j]).1)
theorem bound_at {m : Su} {x : ByteArray} : fnS m x ≠ none ↔ ∃ j, ∃ h : j < m.length, (m[j]).1 = x := by
  rw [Ne, fnS_none, Bool.not_eq_false, boundS_iff]
  constructor
  · rintro ⟨y, hy, e⟩
    obtain ⟨j, hj, rfl⟩ := List.mem_iff_getElem.1 hy
    exact ⟨j, hj, e⟩
  · rintro ⟨j, hj, e⟩; exact ⟨_, List.getElem_mem hj, e⟩
theorem solve_end (m : Su) (l : Prs) {θ : ByteArray → Tm} {r : ByteArray → Nat} (ht : Tri (fnS m) θ r) (hn : NamesOk m) (hlen : m.length ≤ 1099511627776) (hθ : ∀ x, (θ x).depth ≤ dlim) (hσ : ∀ x t, fnS m x = some t → t.size ≤ lim)
    (Q : D → Heap → Prop) (hlarge : (∃ x, fnS m x ≠ none ∧ ¬ fitsT (θ x)) → Q (.tup [.nil, bD false, iD 3]) []) (hyes : (∀ x, fnS m x ≠ none → fitsT (θ x)) → ∀ out, UnOk (fnS m) θ out → Q (.tup [suD out, bD true, iD 0]) []) :
    ∃ m1, lp_unify_Solve_1 Q m1 0 (encS m) (encD l) [] (encS m).length [] [] := by
  have hl := encS_length m
  refine rule_unify_Solve_1 Q (fun x8n y13 y14 y31 y36n y36s y62 => y13 = encS m ∧ y14 = encD l ∧ (∃ kn, y31 = encK kn ∧ KnOk θ kn) ∧ y36n = m.length ∧ ∃ out, y62 = encS out ∧ x8n = out.length ∧ Drawn m θ y36s out) (fun _ _ _ _ _ y36s _ => m.length - y36s.length) ?_ _ _ _ _ _ _ _ ⟨rfl, rfl, ⟨[], rfl, fun p hp => by simp at hp⟩, hl, [], rfl, rfl, ⟨trivial, rfl, fun y => by simp, fun j hj => by simp at hj⟩⟩
  rintro x8n y13 y14 y31 y36n seen y62 ⟨rfl, rfl, ⟨kn, rfl, hk⟩, rfl, out, rfl, rfl, hd⟩ m0 ih
  unfold st_unify_Solve_1
  refine ⟨hl, fun hall => ?_, fun j hj hjs hsl => ⟨hl, ?_⟩⟩
  · refine ⟨⟨(encS_length out).symm, trivial, trivial, trivial⟩, hyes (fun x hx => ?_) out ⟨hd.sort, fun y => ?_⟩⟩
    · obtain ⟨j, hj, rfl⟩ := bound_at.1 hx
      exact hd.fit j (hall j hj) hj
    · rw [hd.mem]
      constructor
      · rintro ⟨j, _, hj, e1, e2⟩; exact ⟨bound_at.2 ⟨j, hj, e1.symm⟩, e2⟩
      · rintro ⟨h1, h2⟩
        obtain ⟨j, hj, e⟩ := bound_at.1 h1
        exact ⟨j, hall j hj, hj, e.symm, h2⟩
  · have hb : boundS m (m[j]).1 = true := boundS_iff.2 ⟨_, List.getElem_mem hj, rfl⟩
    have hbn : fnS m (m[j]).1 ≠ none := bound_at.2 ⟨j, hj, rfl⟩
    have e0 : (encS m).getD j [] = V.s (m[j]).1 :: (m[j]).2.enc := encS_getD m j hj
    rw [e0]
    refine unify_measure_var m l ht hθ hb kn hk _ fun kn' hk' => ⟨rfl, rfl, ?_⟩
    refine iff_dec (fun h1 => ⟨⟨trivial, trivial, trivial, trivial⟩, hlarge ⟨_, hbn, fun hf => ?_⟩⟩) (fun h1 => iff_dec (fun h2 => ⟨⟨trivial, trivial, trivial, trivial⟩, hlarge ⟨_, hbn, fun hf => ?_⟩⟩) (fun h2 => ?_))
    · have h1 : capS (θ (m[j]).1).size > 4000 := h1
      have := hf.1
      unfold capS at h1
      split at h1 <;> omega
    · have h2 : ((θ (m[j]).1).depth : Int) > 200 := h2
      have := hf.2
      omega
    · have hf : fitsT (θ (m[j]).1) := by
        have h1 : ¬ capS (θ (m[j]).1).size > 4000 := h1
        have h2 : ¬ ((θ (m[j]).1).depth : Int) > 200 := h2
        unfold capS at h1
        refine ⟨?_, by omega⟩
        split at h1 <;> omega
      rw [jp_unify_Solve_0_s]
      unfold je_unify_Solve_0
      refine unify_whole_var m l ht hσ hb _ ⟨rfl, rfl, ?_⟩
      have hno : ∀ y ∈ out, y.1 ≠ (m[j]).1 := fun y hy e => by
        obtain ⟨i, hi, hi2, e1, _⟩ := (hd.mem y).1 hy
        have := names_inj hn i j hi2 hj (e1.symm.trans e)
        exact hjs (this ▸ hi)
      refine unify_bind_ok out (m[j]).1 (θ (m[j]).1) hd.sort (by have := hd.len; omega) _ ⟨rfl, rfl, ?_⟩
      refine ih _ _ _ _ _ _ _ ⟨rfl, rfl, ⟨kn', rfl, hk'⟩, rfl, withS out (m[j]).1 (θ (m[j]).1), rfl, (withS_length _ _ _).symm, ?_⟩ (by simp only [List.length_cons]; omega)
      refine ⟨withS_sort hd.sort hno, by rw [withS_length, hd.len]; rfl, fun y => ?_, fun i hi h => ?_⟩
      · rw [withS_mem, hd.mem]
        constructor
        · rintro (rfl | ⟨i, hi, h, e1, e2⟩)
          · exact ⟨j, by simp, hj, rfl, rfl⟩
          · exact ⟨i, List.mem_cons_of_mem _ hi, h, e1, e2⟩
        · rintro ⟨i, hi, h, e1, e2⟩
          rcases List.mem_cons.1 hi with rfl | hi
          · exact .inl (Prod.ext e1 (by rw [e2, e1]))
          · exact .inr ⟨i, hi, h, e1, e2⟩
      · rcases List.mem_cons.1 hi with e | hi
        · subst e; exact hf
        · exact hd.fit i hi h
end Go.Proofs.Ytgohjdaepcmonaa
