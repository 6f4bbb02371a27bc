import Derived.Test.YtgohjdaepcmonaaUniT
set_option linter.unusedVariables false
set_option linter.unusedSimpArgs false
namespace Go.Proofs.Ytgohjdaepcmonaa
open Go.Abs Tm
inductive Sl : Bd → List Tm → List Tm → Option Bd → Prop
  | nil (σ : Bd) : Sl σ [] [] (some σ)
  | same (σ : Bd) (a b a' b' : Tm) (xs ys : List Tm) (o : Option Bd) : Head σ a a' → Head σ b b' → a'.var = true → b'.var = true → a'.name = b'.name → Sl σ xs ys o → Sl σ (a :: xs) (b :: ys) o
  | setA (σ : Bd) (a b a' b' : Tm) (xs ys : List Tm) (o : Option Bd) : Head σ a a' → Head σ b b' → a'.var = true → ¬ (b'.var = true ∧ a'.name = b'.name) → ¬ Occ σ a'.name b' → Sl (updB σ a'.name b') xs ys o → Sl σ (a :: xs) (b :: ys) o
  | occA (σ : Bd) (a b a' b' : Tm) (xs ys : List Tm) : Head σ a a' → Head σ b b' → a'.var = true → ¬ (b'.var = true ∧ a'.name = b'.name) → Occ σ a'.name b' → Sl σ (a :: xs) (b :: ys) none
  | setB (σ : Bd) (a b a' b' : Tm) (xs ys : List Tm) (o : Option Bd) : Head σ a a' → Head σ b b' → a'.var = false → b'.var = true → ¬ Occ σ b'.name a' → Sl (updB σ b'.name a') xs ys o → Sl σ (a :: xs) (b :: ys) o
  | occB (σ : Bd) (a b a' b' : Tm) (xs ys : List Tm) : Head σ a a' → Head σ b b' → a'.var = false → b'.var = true → Occ σ b'.name a' → Sl σ (a :: xs) (b :: ys) none
  | clash (σ : Bd) (a b a' b' : Tm) (xs ys : List Tm) : Head σ a a' → Head σ b b' → a'.var = false → b'.var = false → ¬ (a'.name = b'.name ∧ a'.args.length = b'.args.length) → Sl σ (a :: xs) (b :: ys) none
  | args (σ σ1 : Bd) (a b a' b' : Tm) (xs ys : List Tm) (o : Option Bd) : Head σ a a' → Head σ b b' → a'.var = false → b'.var = false → a'.name = b'.name → a'.args.length = b'.args.length → Sl σ a'.args b'.args (some σ1) → Sl σ1 xs ys o → Sl σ (a :: xs) (b :: ys) o
  | argsN (σ : Bd) (a b a' b' : Tm) (xs ys : List Tm) : Head σ a a' → Head σ b b' → a'.var = false → b'.var = false → a'.name = b'.name → a'.args.length = b'.args.length → Sl σ a'.args b'.args none → Sl σ (a :: xs) (b :: ys) none
theorem sub_fn2 {τ : ByteArray → Tm} {a b : Tm} (ha : a.var = false) (hb : b.var = false) (hn : a.name = b.name) (h : a.args.map (sub τ) = b.args.map (sub τ)) : sub τ a = sub τ b := by
  rw [sub_fn _ ha, sub_fn _ hb, hn, h]
theorem Sl.mono {σ : Bd} {xs ys : List Tm} {o : Option Bd} (h : Sl σ xs ys o) : ∀ σ', o = some σ' → ∀ τ, Resp τ σ' → Resp τ σ ∧ xs.map (sub τ) = ys.map (sub τ) := by
  induction h with
  | nil σ => intro σ' e τ hτ; cases e; exact ⟨hτ, rfl⟩
  | same σ a b a' b' xs ys o ha hb va vb hn _ ih =>
    intro σ' e τ hτ
    obtain ⟨h1, h2⟩ := ih σ' e τ hτ
    refine ⟨h1, ?_⟩
    rw [List.map_cons, List.map_cons, h2, ha.sub h1, hb.sub h1, sub_var _ va, sub_var _ vb, hn]
  | setA σ a b a' b' xs ys o ha hb va hne ho _ ih =>
    intro σ' e τ hτ
    obtain ⟨h1, h2⟩ := ih σ' e τ hτ
    obtain ⟨h3, h4⟩ := Resp.upd (ha.end_ va) h1
    refine ⟨h3, ?_⟩
    rw [List.map_cons, List.map_cons, h2, ha.sub h3, hb.sub h3, sub_var _ va, h4]
  | occA => intro σ' e; cases e
  | setB σ a b a' b' xs ys o ha hb va vb ho _ ih =>
    intro σ' e τ hτ
    obtain ⟨h1, h2⟩ := ih σ' e τ hτ
    obtain ⟨h3, h4⟩ := Resp.upd (hb.end_ vb) h1
    refine ⟨h3, ?_⟩
    rw [List.map_cons, List.map_cons, h2, ha.sub h3, hb.sub h3, sub_var _ vb, h4]
  | occB => intro σ' e; cases e
  | clash => intro σ' e; cases e
  | args σ σ1 a b a' b' xs ys o ha hb va vb hn hl _ _ ih1 ih2 =>
    intro σ' e τ hτ
    obtain ⟨h1, h2⟩ := ih2 σ' e τ hτ
    obtain ⟨h3, h4⟩ := ih1 σ1 rfl τ h1
    refine ⟨h3, ?_⟩
    rw [List.map_cons, List.map_cons, h2, ha.sub h3, hb.sub h3, sub_fn2 va vb hn h4]
  | argsN => intro σ' e; cases e
theorem Sl.tri {σ : Bd} {xs ys : List Tm} {o : Option Bd} (h : Sl σ xs ys o) : ∀ σ', o = some σ' → ∀ θ r, Tri σ θ r → ∃ θ' r', Tri σ' θ' r' := by
  induction h with
  | nil σ => intro σ' e θ r ht; cases e; exact ⟨θ, r, ht⟩
  | same σ a b a' b' xs ys o ha hb va vb hn _ ih => exact ih
  | setA σ a b a' b' xs ys o ha hb va hne ho _ ih =>
    intro σ' e θ r ht
    have hx := ha.end_ va
    exact ih σ' e _ _ (ht.upd hx fun hin => ho ((Occ.iff ht hx b').2 hin))
  | occA => intro σ' e; cases e
  | setB σ a b a' b' xs ys o ha hb va vb ho _ ih =>
    intro σ' e θ r ht
    have hx := hb.end_ vb
    exact ih σ' e _ _ (ht.upd hx fun hin => ho ((Occ.iff ht hx a').2 hin))
  | occB => intro σ' e; cases e
  | clash => intro σ' e; cases e
  | args σ σ1 a b a' b' xs ys o ha hb va vb hn hl _ _ ih1 ih2 =>
    intro σ' e θ r ht
    obtain ⟨θ1, r1, h1⟩ := ih1 σ1 rfl θ r ht
    exact ih2 σ' e θ1 r1 h1
  | argsN => intro σ' e; cases e
theorem map_cons_inj {α β : Type} {f : α → β} {a b : α} {xs ys : List α} (h : (a :: xs).map f = (b :: ys).map f) : f a = f b ∧ xs.map f = ys.map f := by
  simpa using h
theorem occ_no {σ : Bd} {θ : ByteArray → Tm} {r : ByteArray → Nat} (ht : Tri σ θ r) {x : ByteArray} (hx : σ x = none) {u : Tm} (hu : u.var = true → σ u.name = none) (hne : ¬ (u.var = true ∧ x = u.name)) (ho : Occ σ x u) {τ : ByteArray → Tm} (hτ : Resp τ σ) : τ x ≠ sub τ u := by
  intro he
  have hin := (Occ.iff ht hx u).1 ho
  cases hv : u.var with
  | true =>
    rw [sub_var _ hv, ht.fre _ (hu hv), vs_var rfl] at hin
    exact hne ⟨hv, hin⟩
  | false =>
    have h1 : (sub θ u).var = false := by rw [sub_fn _ hv]; rfl
    have h2 := size_sub_lt (f := τ) h1 hin
    rw [ht.thr hτ, ← he] at h2
    omega
theorem Sl.idle {σ : Bd} {xs ys : List Tm} {o : Option Bd} (h : Sl σ xs ys o) : ∀ θ r, Tri σ θ r → xs.map (sub θ) = ys.map (sub θ) → o = some σ := by
  induction h with
  | nil σ => intro θ r ht _; rfl
  | same σ a b a' b' xs ys o ha hb va vb hn _ ih => exact fun θ r ht he => ih θ r ht (map_cons_inj he).2
  | setA σ a b a' b' xs ys o ha hb va hne ho _ ih =>
    intro θ r ht he
    obtain ⟨h1, h2⟩ := map_cons_inj he
    rw [ha.sub ht.resp, hb.sub ht.resp, sub_var _ va, ht.fre _ (ha.end_ va)] at h1
    cases hv : b'.var with
    | true =>
      rw [sub_var _ hv, ht.fre _ (hb.end_ hv)] at h1
      injection h1 with e1
      exact absurd ⟨hv, e1⟩ hne
    | false =>
      rw [sub_fn _ hv] at h1
      injection h1 with _ e2; cases e2
  | occA σ a b a' b' xs ys ha hb va hne ho =>
    intro θ r ht he
    obtain ⟨h1, h2⟩ := map_cons_inj he
    rw [ha.sub ht.resp, hb.sub ht.resp, sub_var _ va] at h1
    exact absurd h1 (occ_no ht (ha.end_ va) hb.end_ hne ho ht.resp)
  | setB σ a b a' b' xs ys o ha hb va vb ho _ ih =>
    intro θ r ht he
    obtain ⟨h1, h2⟩ := map_cons_inj he
    rw [ha.sub ht.resp, hb.sub ht.resp, sub_var _ vb, ht.fre _ (hb.end_ vb), sub_fn _ va] at h1
    injection h1 with _ e2; cases e2
  | occB σ a b a' b' xs ys ha hb va vb ho =>
    intro θ r ht he
    obtain ⟨h1, h2⟩ := map_cons_inj he
    rw [ha.sub ht.resp, hb.sub ht.resp, sub_var _ vb, ht.fre _ (hb.end_ vb), sub_fn _ va] at h1
    injection h1 with _ e2; cases e2
  | clash σ a b a' b' xs ys ha hb va vb hne =>
    intro θ r ht he
    obtain ⟨h1, h2⟩ := map_cons_inj he
    rw [ha.sub ht.resp, hb.sub ht.resp, sub_fn _ va, sub_fn _ vb] at h1
    injection h1 with e1 e2 e3
    exact absurd ⟨e1, by simpa using congrArg List.length e3⟩ hne
  | args σ σ1 a b a' b' xs ys o ha hb va vb hn hl s1 _ ih1 ih2 =>
    intro θ r ht he
    obtain ⟨h1, h2⟩ := map_cons_inj he
    rw [ha.sub ht.resp, hb.sub ht.resp, sub_fn _ va, sub_fn _ vb] at h1
    injection h1 with e1 e2 e3
    have e4 := ih1 θ r ht e3
    cases e4
    exact ih2 θ r ht h2
  | argsN σ a b a' b' xs ys ha hb va vb hn hl s1 ih1 =>
    intro θ r ht he
    obtain ⟨h1, h2⟩ := map_cons_inj he
    rw [ha.sub ht.resp, hb.sub ht.resp, sub_fn _ va, sub_fn _ vb] at h1
    injection h1 with e1 e2 e3
    have e4 := ih1 θ r ht e3
    cases e4
def InU (U : List ByteArray) (σ : Bd) : Prop := ∀ x t, σ x = some t → ∀ y ∈ vs t, y ∈ U
def unb (U : List ByteArray) (σ : Bd) : Nat := (U.filter fun x => (σ x).isNone).length
theorem InU.upd {U : List ByteArray} {σ : Bd} (h : InU U σ) {x : ByteArray} {t : Tm} (ht : ∀ y ∈ vs t, y ∈ U) : InU U (updB σ x t) := fun y u hy z hz => by
  by_cases hyx : y = x
  · subst hyx; rw [updB_self] at hy; cases hy; exact ht z hz
  · rw [updB_ne _ _ hyx] at hy; exact h y u hy z hz
theorem unb_upd {U : List ByteArray} {σ : Bd} {x : ByteArray} {t : Tm} (hx : σ x = none) (hU : x ∈ U) : unb U (updB σ x t) < unb U σ := by
  unfold unb
  have le : ∀ V : List ByteArray, (V.filter fun y => (updB σ x t y).isNone).length ≤ (V.filter fun y => (σ y).isNone).length := fun V => by
    induction V with
    | nil => exact Nat.le_refl _
    | cons y V ih =>
      by_cases hy : y = x
      · subst hy; simp [List.filter_cons, updB_self, hx]; omega
      · simp only [List.filter_cons, updB_ne _ _ hy]; split <;> (try simp) <;> omega
  induction U with
  | nil => simp at hU
  | cons y U ih =>
    by_cases hy : y = x
    · subst hy
      have := le U
      simp only [List.filter_cons, updB_self, hx]
      simp
      omega
    · have := ih (by rcases List.mem_cons.1 hU with rfl | h; exact absurd rfl hy; exact h)
      simp only [List.filter_cons, updB_ne _ _ hy]; split <;> (try simp) <;> omega
theorem Head.inU {U : List ByteArray} {σ : Bd} (hU : InU U σ) {t h : Tm} (a : Head σ t h) : (∀ y ∈ vs t, y ∈ U) → ∀ y ∈ vs h, y ∈ U := by
  induction a with
  | fn t hv => exact id
  | free t hv hs => exact id
  | step t u h hv hs _ ih => exact fun _ => ih (hU _ _ hs)
def AllU (U : List ByteArray) (l : List Tm) : Prop := ∀ t ∈ l, ∀ y ∈ vs t, y ∈ U
theorem allU_args {U : List ByteArray} {t : Tm} (hv : t.var = false) (h : ∀ y ∈ vs t, y ∈ U) : AllU U t.args := fun a ha y hy => h y ((vs_fn hv).2 ⟨a, ha, hy⟩)
theorem Sl.less {U : List ByteArray} {σ : Bd} {xs ys : List Tm} {o : Option Bd} (h : Sl σ xs ys o) : ∀ σ', o = some σ' → InU U σ → AllU U xs → AllU U ys → InU U σ' ∧ (σ' = σ ∨ unb U σ' < unb U σ) := by
  induction h with
  | nil σ => intro σ' e hU _ _; cases e; exact ⟨hU, .inl rfl⟩
  | same σ a b a' b' xs ys o ha hb va vb hn _ ih => exact fun σ' e hU h1 h2 => ih σ' e hU (fun t ht => h1 t (List.mem_cons_of_mem _ ht)) (fun t ht => h2 t (List.mem_cons_of_mem _ ht))
  | setA σ a b a' b' xs ys o ha hb va hne ho _ ih =>
    intro σ' e hU h1 h2
    have hin : a'.name ∈ U := ha.inU hU (h1 a (by simp)) _ ((vs_var va).2 rfl)
    have hl := unb_upd (t := b') (ha.end_ va) hin
    obtain ⟨g1, g2⟩ := ih σ' e (hU.upd (hb.inU hU (h2 b (by simp)))) (fun t ht => h1 t (List.mem_cons_of_mem _ ht)) (fun t ht => h2 t (List.mem_cons_of_mem _ ht))
    refine ⟨g1, .inr ?_⟩
    rcases g2 with rfl | g2
    · exact hl
    · omega
  | occA => intro σ' e; cases e
  | setB σ a b a' b' xs ys o ha hb va vb ho _ ih =>
    intro σ' e hU h1 h2
    have hin : b'.name ∈ U := hb.inU hU (h2 b (by simp)) _ ((vs_var vb).2 rfl)
    have hl := unb_upd (t := a') (hb.end_ vb) hin
    obtain ⟨g1, g2⟩ := ih σ' e (hU.upd (ha.inU hU (h1 a (by simp)))) (fun t ht => h1 t (List.mem_cons_of_mem _ ht)) (fun t ht => h2 t (List.mem_cons_of_mem _ ht))
    refine ⟨g1, .inr ?_⟩
    rcases g2 with rfl | g2
    · exact hl
    · omega
  | occB => intro σ' e; cases e
  | clash => intro σ' e; cases e
  | args σ σ1 a b a' b' xs ys o ha hb va vb hn hl s1 _ ih1 ih2 =>
    intro σ' e hU h1 h2
    obtain ⟨g1, g2⟩ := ih1 σ1 rfl hU (allU_args va (ha.inU hU (h1 a (by simp)))) (allU_args vb (hb.inU hU (h2 b (by simp))))
    obtain ⟨g3, g4⟩ := ih2 σ' e g1 (fun t ht => h1 t (List.mem_cons_of_mem _ ht)) (fun t ht => h2 t (List.mem_cons_of_mem _ ht))
    refine ⟨g3, ?_⟩
    rcases g2 with rfl | g2
    · exact g4
    · rcases g4 with rfl | g4
      · exact .inr g2
      · exact .inr (by omega)
  | argsN => intro σ' e; cases e
def szL (θ : ByteArray → Tm) (l : List Tm) : Nat := sizeL (l.map (sub θ))
theorem Sl.ex (U : List ByteArray) : ∀ (n m : Nat) (σ : Bd) (θ : ByteArray → Tm) (r : ByteArray → Nat), Tri σ θ r → unb U σ ≤ n → InU U σ → ∀ (xs ys : List Tm), xs.length = ys.length → AllU U xs → AllU U ys → szL θ xs ≤ m → ∃ o, Sl σ xs ys o := by
  intro n
  induction n using Nat.strongRecOn with
  | _ n ihn =>
    intro m
    induction m using Nat.strongRecOn with
    | _ m ihm =>
      intro σ θ r ht hn hU xs ys hl h1 h2 hm
      match xs, ys, hl with
      | [], [], _ => exact ⟨_, .nil σ⟩
      | a :: xs, b :: ys, hl =>
        have hl : xs.length = ys.length := by simpa using hl
        have h1a := h1 a (by simp)
        have h2b := h2 b (by simp)
        have h1t : AllU U xs := fun t ht => h1 t (List.mem_cons_of_mem _ ht)
        have h2t : AllU U ys := fun t ht => h2 t (List.mem_cons_of_mem _ ht)
        have hsz : szL θ (a :: xs) = (sub θ a).size + szL θ xs := rfl
        have hp := size_pos (sub θ a)
        have tail : ∃ o, Sl σ xs ys o := ihm (szL θ xs) (by omega) σ θ r ht hn hU xs ys hl h1t h2t (Nat.le_refl _)
        have tail1 : ∀ σ1 θ1 r1, Tri σ1 θ1 r1 → InU U σ1 → unb U σ1 < unb U σ → ∃ o, Sl σ1 xs ys o := fun σ1 θ1 r1 ht1 hU1 hlt =>
          ihn (unb U σ1) (by omega) (szL θ1 xs) σ1 θ1 r1 ht1 (Nat.le_refl _) hU1 xs ys hl h1t h2t (Nat.le_refl _)
        obtain ⟨a', ha⟩ := Head.ex ht a
        obtain ⟨b', hb⟩ := Head.ex ht b
        cases va : a'.var with
        | true =>
          by_cases hs : b'.var = true ∧ a'.name = b'.name
          · obtain ⟨o, ho⟩ := tail
            exact ⟨o, .same σ a b a' b' xs ys o ha hb va hs.1 hs.2 ho⟩
          · rcases Classical.em (Occ σ a'.name b') with hoc | hoc
            · exact ⟨none, .occA σ a b a' b' xs ys ha hb va hs hoc⟩
            · have hx := ha.end_ va
              obtain ⟨o, ho⟩ := tail1 (updB σ a'.name b') _ _ (ht.upd hx fun hin => hoc ((Occ.iff ht hx b').2 hin)) (hU.upd (hb.inU hU h2b)) (unb_upd hx (ha.inU hU h1a _ ((vs_var va).2 rfl)))
              exact ⟨o, .setA σ a b a' b' xs ys o ha hb va hs hoc ho⟩
        | false =>
          cases vb : b'.var with
          | true =>
            rcases Classical.em (Occ σ b'.name a') with hoc | hoc
            · exact ⟨none, .occB σ a b a' b' xs ys ha hb va vb hoc⟩
            · have hx := hb.end_ vb
              obtain ⟨o, ho⟩ := tail1 (updB σ b'.name a') _ _ (ht.upd hx fun hin => hoc ((Occ.iff ht hx a').2 hin)) (hU.upd (ha.inU hU h1a)) (unb_upd hx (hb.inU hU h2b _ ((vs_var vb).2 rfl)))
              exact ⟨o, .setB σ a b a' b' xs ys o ha hb va vb hoc ho⟩
          | false =>
            by_cases hc : a'.name = b'.name ∧ a'.args.length = b'.args.length
            · have hlt : szL θ a'.args < m := by
                have e : sub θ a = sub θ a' := ha.sub ht.resp
                have e2 : (sub θ a').size = 1 + szL θ a'.args := by rw [sub_fn _ va, size_eq]; rfl
                rw [← e] at e2
                omega
              have ua := allU_args va (ha.inU hU h1a)
              have ub := allU_args vb (hb.inU hU h2b)
              obtain ⟨o1, ho1⟩ := ihm (szL θ a'.args) hlt σ θ r ht hn hU a'.args b'.args hc.2 ua ub (Nat.le_refl _)
              cases o1 with
              | none => exact ⟨none, .argsN σ a b a' b' xs ys ha hb va vb hc.1 hc.2 ho1⟩
              | some σ1 =>
                obtain ⟨θ1, r1, ht1⟩ := ho1.tri σ1 rfl θ r ht
                obtain ⟨hU1, hlt1⟩ := ho1.less σ1 rfl hU ua ub
                have : ∃ o, Sl σ1 xs ys o := by
                  rcases hlt1 with rfl | hlt1
                  · exact tail
                  · exact tail1 σ1 θ1 r1 ht1 hU1 hlt1
                obtain ⟨o, ho⟩ := this
                exact ⟨o, .args σ σ1 a b a' b' xs ys o ha hb va vb hc.1 hc.2 ho1 ho⟩
            · exact ⟨none, .clash σ a b a' b' xs ys ha hb va vb hc⟩
end Go.Proofs.Ytgohjdaepcmonaa
