import Derived.Test.YtgohjdaepcmonaaR03B
set_option linter.unusedVariables false
set_option linter.unusedSimpArgs false
namespace Go.Proofs.Ytgohjdaepcmonaa
open Go.Abs Tm
theorem filter_lt {α : Type} {p q : α → Bool} : ∀ {W : List α}, (∀ y ∈ W, p y = true → q y = true) → (∃ a ∈ W, q a = true ∧ p a = false) → (W.filter p).length < (W.filter q).length
  | [], _, ⟨a, ha, _⟩ => by simp at ha
  | x :: W, h, ⟨a, ha, h1, h2⟩ => by
    have le : ∀ V : List α, (∀ y ∈ V, p y = true → q y = true) → (V.filter p).length ≤ (V.filter q).length := fun V => by
      induction V with
      | nil => intro _; exact Nat.le_refl _
      | cons y V ih =>
        intro h
        have ih := ih fun z hz => h z (List.mem_cons_of_mem _ hz)
        have hy := h y (by simp)
        cases hp : p y with
        | true => rw [List.filter_cons_of_pos hp, List.filter_cons_of_pos (hy hp)]; simpa using ih
        | false =>
          rw [List.filter_cons_of_neg (by rw [hp]; simp)]
          cases hq : q y with
          | true => rw [List.filter_cons_of_pos hq]; simp; omega
          | false => rw [List.filter_cons_of_neg (by rw [hq]; simp)]; exact ih
    have hx := h x (by simp)
    have hW : ∀ y ∈ W, p y = true → q y = true := fun y hy => h y (List.mem_cons_of_mem _ hy)
    by_cases hax : a = x
    · subst hax
      rw [List.filter_cons_of_pos h1, List.filter_cons_of_neg (by rw [h2]; simp)]
      have := le W hW
      simp; omega
    · have ih := filter_lt hW ⟨a, by rcases List.mem_cons.1 ha with e | e; exact absurd e hax; exact e, h1, h2⟩
      cases hp : p x with
      | true => rw [List.filter_cons_of_pos hp, List.filter_cons_of_pos (hx hp)]; simpa using ih
      | false =>
        rw [List.filter_cons_of_neg (by rw [hp]; simp)]
        cases hq : q x with
        | true => rw [List.filter_cons_of_pos hq]; simp; omega
        | false => rw [List.filter_cons_of_neg (by rw [hq]; simp)]; exact ih
theorem Tri.comp {σ : Bd} {θ : ByteArray → Tm} {r : ByteArray → Nat} (h : Tri σ θ r) (W : List ByteArray) (hW : ∀ x, σ x ≠ none → x ∈ W) : ∃ r', Tri σ θ r' ∧ (∀ x, r' x ≤ W.length) ∧ ∀ x, σ x ≠ none → 1 ≤ r' x := by
  classical
  let p : ByteArray → ByteArray → Bool := fun x y => decide (σ y ≠ none ∧ Occ σ y (vr x))
  refine ⟨fun x => if σ x = none then 0 else (W.filter (p x)).length, ⟨h.bnd, h.fre, fun x t hx z hz => ?_⟩, fun x => ?_, fun x hx => ?_⟩
  · have hxn : σ x ≠ none := by rw [hx]; simp
    have hxp : p x x = true := decide_eq_true ⟨hxn, .here _ (by simp [vs])⟩
    show (if σ z = none then 0 else (W.filter (p z)).length) < (if σ x = none then 0 else (W.filter (p x)).length)
    rw [if_neg hxn]
    split
    · have : x ∈ W.filter (p x) := List.mem_filter.2 ⟨hW x hxn, hxp⟩
      exact List.length_pos_of_mem this
    · refine filter_lt (fun y _ hy => ?_) ⟨x, hW x hxn, hxp, decide_eq_false fun ⟨_, ho⟩ => ?_⟩
      · obtain ⟨h1, h2⟩ := of_decide_eq_true hy
        refine decide_eq_true ⟨h1, .step (vr x) t x (by simp [vs]) hx (h2.congr fun w hw => ?_)⟩
        rw [(vs_var rfl).1 hw]; exact hz
      · exact Occ.acyc h hx (ho.congr fun w hw => by rw [(vs_var rfl).1 hw]; exact hz)
  · show (if σ x = none then 0 else (W.filter (p x)).length) ≤ W.length
    split
    · exact Nat.zero_le _
    · exact List.length_filter_le _ _
  · show 1 ≤ (if σ x = none then 0 else (W.filter (p x)).length)
    rw [if_neg hx]
    exact List.length_pos_of_mem (List.mem_filter.2 ⟨hW x hx, decide_eq_true ⟨hx, .here _ (by simp [vs])⟩⟩ : x ∈ W.filter (p x))
theorem Head.term {P : Tm → Prop} {σ : Bd} (hσ : ∀ x t, σ x = some t → P t) {t u : Tm} (a : Head σ t u) : P t → P u := by
  induction a with
  | fn t hv => exact id
  | free t hv hs => exact id
  | step t u h hv hs _ ih => exact fun _ => ih (hσ _ _ hs)
theorem Sl.terms {P : Tm → Prop} (hP : ∀ t, P t → ∀ a ∈ t.args, P a) {σ : Bd} {xs ys : List Tm} {o : Option Bd} (h : Sl σ xs ys o) : ∀ σ', o = some σ' → (∀ x t, σ x = some t → P t) → (∀ t ∈ xs, P t) → (∀ t ∈ ys, P t) → ∀ x t, σ' x = some t → P t := by
  have hupd : ∀ {σ : Bd} {x : ByteArray} {t : Tm}, (∀ x t, σ x = some t → P t) → P t → ∀ y u, updB σ x t y = some u → P u := fun {σ x t} h1 h2 y u hy => by
    by_cases hyx : y = x
    · subst hyx; rw [updB_self] at hy; cases hy; exact h2
    · rw [updB_ne _ _ hyx] at hy; exact h1 y u hy
  induction h with
  | nil σ => intro σ' e h1 _ _; cases e; exact h1
  | same σ a b a' b' xs ys o ha hb va vb hn _ ih => exact fun σ' e h1 h2 h3 => ih σ' e h1 (fun t ht => h2 t (List.mem_cons_of_mem _ ht)) (fun t ht => h3 t (List.mem_cons_of_mem _ ht))
  | setA σ a b a' b' xs ys o ha hb va hne ho _ ih => exact fun σ' e h1 h2 h3 => ih σ' e (hupd h1 (hb.term h1 (h3 b (by simp)))) (fun t ht => h2 t (List.mem_cons_of_mem _ ht)) (fun t ht => h3 t (List.mem_cons_of_mem _ ht))
  | occA => intro σ' e; cases e
  | setB σ a b a' b' xs ys o ha hb va vb ho _ ih => exact fun σ' e h1 h2 h3 => ih σ' e (hupd h1 (ha.term h1 (h2 a (by simp)))) (fun t ht => h2 t (List.mem_cons_of_mem _ ht)) (fun t ht => h3 t (List.mem_cons_of_mem _ ht))
  | occB => intro σ' e; cases e
  | clash => intro σ' e; cases e
  | args σ σ1 a b a' b' xs ys o ha hb va vb hn hl _ _ ih1 ih2 =>
    intro σ' e h1 h2 h3
    exact ih2 σ' e (ih1 σ1 rfl h1 (hP _ (ha.term h1 (h2 a (by simp)))) (hP _ (hb.term h1 (h3 b (by simp))))) (fun t ht => h2 t (List.mem_cons_of_mem _ ht)) (fun t ht => h3 t (List.mem_cons_of_mem _ ht))
  | argsN => intro σ' e; cases e
theorem depthL_le {l : List Tm} {n : Nat} (h : ∀ a ∈ l, a.depth ≤ n) : depthL l ≤ n := by
  induction l with
  | nil => simp [depthL]
  | cons a l ih =>
    have h1 := h a (by simp)
    have h2 := ih fun b hb => h b (List.mem_cons_of_mem _ hb)
    simp only [depthL]; omega
theorem depth_sub {f : ByteArray → Tm} {n : Nat} : ∀ t : Tm, (∀ x ∈ vs t, (f x).depth ≤ n) → (sub f t).depth ≤ t.depth + n := ind fun t ih h => by
  cases hv : t.var with
  | true =>
    have := h _ ((vs_var hv).2 rfl)
    rw [sub_var _ hv]; omega
  | false =>
    rw [sub_fn _ hv, depth_eq, depth_eq t]
    have : depthL (t.args.map (sub f)) ≤ depthL t.args + n := depthL_le fun a ha => by
      obtain ⟨b, hb, rfl⟩ := List.mem_map.1 ha
      have h1 := ih b hb fun x hx => h x ((vs_fn hv).2 ⟨b, hb, hx⟩)
      have h2 := depthL_mem hb
      omega
    show depthL (t.args.map (sub f)) + 1 ≤ _
    omega
theorem Tri.depth {σ : Bd} {θ : ByteArray → Tm} {r : ByteArray → Nat} (h : Tri σ θ r) {M : Nat} (hM : ∀ x t, σ x = some t → t.depth ≤ M) : ∀ (n : Nat) (x : ByteArray), r x ≤ n → (θ x).depth ≤ (n + 1) * M + 1 := by
  intro n
  induction n with
  | zero =>
    intro x hx
    cases hs : σ x with
    | none => rw [h.fre x hs]; simp [vr, Tm.depth, depthL]
    | some t =>
      rw [h.bnd x t hs]
      have h1 : (sub θ t).depth ≤ t.depth + 0 := depth_sub t fun y hy => by have := h.rk x t hs y hy; omega
      have h2 := hM x t hs
      omega
  | succ n ih =>
    intro x hx
    cases hs : σ x with
    | none => rw [h.fre x hs]; simp [vr, Tm.depth, depthL]
    | some t =>
      rw [h.bnd x t hs]
      have h1 : (sub θ t).depth ≤ t.depth + ((n + 1) * M + 1) := depth_sub t fun y hy => ih y (by have := h.rk x t hs y hy; omega)
      have h2 := hM x t hs
      have e : (n + 1 + 1) * M = (n + 1) * M + M := by rw [Nat.add_mul (n + 1), Nat.one_mul]
      omega
end Go.Proofs.Ytgohjdaepcmonaa
