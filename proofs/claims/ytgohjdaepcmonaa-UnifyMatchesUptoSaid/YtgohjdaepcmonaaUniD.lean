import Derived.Test.YtgohjdaepcmonaaUniC
set_option linter.unusedVariables false
set_option linter.unusedSimpArgs false
namespace Go.Proofs.Ytgohjdaepcmonaa
open Go.Abs
theorem sizeL_cons' (τ : ByteArray → Tm) (a : Tm) (xs : List Tm) : Tm.sizeL ((a :: xs).map (Tm.sub τ)) = (Tm.sub τ a).size + Tm.sizeL (xs.map (Tm.sub τ)) := rfl
def PD (σ : Bd) (xs : List Tm) (l : Prs) : Prop := ∀ p ∈ l, (∀ τ, Resp τ σ → τ p.1 = τ p.2) ∨ ∀ τ, Resp τ σ → Tm.sizeL (xs.map (Tm.sub τ)) < (τ p.1).size
def PE (σ : Bd) (l l' : Prs) : Prop := ∀ p ∈ l', p ∈ l ∨ ∀ τ, Resp τ σ → τ p.1 = τ p.2
def mark (a b : Tm) (l : Prs) : Prs := if a.var && b.var then l ++ [(a.name, b.name)] else l
abbrev NamesOk (m : Su) : Prop := (suNames m).Nodup
theorem NamesOk.push {m : Su} (h : NamesOk m) {v : ByteArray} (t : Tm) (hv : fnS m v = none) : NamesOk (m ++ [(v, t)]) := by
  rw [fnS_none, boundS_false] at hv
  show (suNames (m ++ [(v, t)])).Nodup
  have e : suNames (m ++ [(v, t)]) = suNames m ++ [v] := by simp [suNames]
  rw [e, List.nodup_append]
  refine ⟨h, by simp, fun x hx y hy e => ?_⟩
  rw [List.mem_singleton.1 hy] at e
  obtain ⟨z, hz, rfl⟩ := List.mem_map.1 hx
  exact hv z hz e
theorem PE.trans {σ : Bd} {l l1 l2 : Prs} {σ1 : Bd} (h1 : PE σ1 l l1) (h2 : PE σ l1 l2) (hm : ∀ τ, Resp τ σ → Resp τ σ1) : PE σ l l2 := fun p hp => by
  rcases h2 p hp with h | h
  · exact (h1 p h).imp id fun h τ hτ => h τ (hm τ hτ)
  · exact .inr h
theorem PE.unmark {σ σ1 : Bd} {a b : Tm} {l l1 : Prs} (hd : Sl σ [a] [b] (some σ1)) (h : PE σ1 (mark a b l) l1) : PE σ1 l l1 := fun p hp => by
  rcases h p hp with h | h
  · unfold mark at h
    split at h
    · rename_i hb
      rw [Bool.and_eq_true] at hb
      rcases List.mem_append.1 h with h | h
      · exact .inl h
      · rw [List.mem_singleton.1 h]
        refine .inr fun τ hτ => ?_
        have h5 := (hd.mono σ1 rfl τ hτ).2
        simp only [List.map_cons, List.map_nil, List.cons.injEq, and_true] at h5
        rwa [Tm.sub_var _ hb.1, Tm.sub_var _ hb.2] at h5
    · exact .inl h
  · exact .inr h
theorem PE.refl (σ : Bd) (l : Prs) : PE σ l l := fun p hp => .inl hp
def SolveP (a b : Tm) (m : Su) (l : Prs) (o : Option Bd) : Prop :=
  ∀ Q : D → Heap → Prop, (∀ σ1, o = some σ1 → ∀ m1 l1, fnS m1 = σ1 → NamesOk m1 → PE σ1 l l1 → Q (bD true) (uniH m1 l1)) → (o = none → ∀ m1 l1, Q (bD false) (uniH m1 l1)) →
    cl f_unify_unifier_solve [.ptr (.own 0) 0, tD a, tD b] (uniH m l) Q
def RunP : List Tm → List Tm → Su → Prs → (Bool → Su → Prs → Prop) → Prop
  | a :: xs, b :: ys, m, l, post => cl f_unify_unifier_solve [.ptr (.own 0) 0, tD a, tD b] (uniH m l) fun r H' => ∃ m' l', H' = uniH m' l' ∧ ((r = bD true ∧ RunP xs ys m' l' post) ∨ (r = bD false ∧ post false m' l'))
  | _, _, m, l, post => post true m l
theorem consP {a b : Tm} {xs ys : List Tm} {m : Su} {l : Prs} {σ1 : Bd} {o : Option Bd} (h1 : SolveP a b m l (some σ1)) (hd : Sl σ1 xs ys o) (hpd : PD (fnS m) (a :: xs) l) (hs : Sl (fnS m) [a] [b] (some σ1))
    (ih : ∀ m l, fnS m = σ1 → NamesOk m → PD σ1 xs l → ∀ post, (∀ σ', o = some σ' → ∀ m' l', fnS m' = σ' → NamesOk m' → PE σ' l l' → post true m' l') → (o = none → ∀ m' l', post false m' l') → RunP xs ys m l post)
    (post : Bool → Su → Prs → Prop) (hp : ∀ σ', o = some σ' → ∀ m' l', fnS m' = σ' → NamesOk m' → PE σ' l l' → post true m' l') (hn : o = none → ∀ m' l', post false m' l') : RunP (a :: xs) (b :: ys) m l post := by
  unfold RunP
  refine h1 _ (fun σ2 e m1 l1 e1 hi hpe => ?_) (fun e => by cases e)
  cases e
  refine ⟨m1, l1, rfl, .inl ⟨rfl, ih m1 l1 e1 hi (fun p hp' => ?_) post (fun σ' e m' l' e' hi' hpe' => hp σ' e m' l' e' hi' (hpe.trans hpe' fun τ hτ => (hd.mono σ' e τ hτ).1)) hn⟩⟩
  rcases hpe p hp' with h | h
  · rcases hpd p h with h2 | h2
    · exact .inl fun τ hτ => h2 τ (hs.mono σ1 rfl τ hτ).1
    · refine .inr fun τ hτ => ?_
      have := h2 τ (hs.mono σ1 rfl τ hτ).1
      rw [sizeL_cons'] at this; omega
  · exact .inl h
theorem noneP {a b : Tm} {xs ys : List Tm} {m : Su} {l : Prs} (h1 : SolveP a b m l none) (post : Bool → Su → Prs → Prop) (hn : ∀ m' l', post false m' l') : RunP (a :: xs) (b :: ys) m l post := by
  unfold RunP
  exact h1 _ (fun σ2 e => by cases e) fun _ m1 l1 => ⟨m1, l1, rfl, .inr ⟨rfl, hn m1 l1⟩⟩
theorem enterP {m : Su} {l : Prs} {xs : List Tm} {θ : ByteArray → Tm} {r : ByteArray → Nat} (ht : Tri (fnS m) θ r) (hi : NamesOk m) {a b a' b' : Tm} (hpd : PD (fnS m) (a :: xs) l) (ha : Head (fnS m) a a') (hb : Head (fnS m) b b') {o : Option Bd} (hd : Sl (fnS m) [a] [b] o)
    (h2 : ∀ Q : D → Heap → Prop, (∀ σ1, o = some σ1 → ∀ m1 l1, fnS m1 = σ1 → NamesOk m1 → PE σ1 (mark a b l) l1 → Q (bD true) (uniH m1 l1)) → (o = none → ∀ m1 l1, Q (bD false) (uniH m1 l1)) →
      jp_unify_unifier_solve_2 Q (a'.var && b'.var && decide (a'.name = b'.name)) (V.s a'.name) (V.b a'.var) (V.l (Tm.encL a'.args)) (V.s b'.name) (V.b b'.var) (V.l (Tm.encL b'.args)) (encS m) (encD (mark a b l))) : SolveP a b m l o := by
  intro Q hQ1 hQ2
  have h2 := h2 Q (fun σ1 e m1 l1 e1 hi1 hpe => hQ1 σ1 e m1 l1 e1 hi1 (by cases e; exact hpe.unmark hd)) hQ2
  have mid : jp_unify_unifier_solve_1 Q a.name a.var (Tm.encL a.args) b.name b.var (Tm.encL b.args) (encS m) (encD (mark a b l)) := by
    rw [jp_unify_unifier_solve_1_s]
    refine ⟨tD a', unify_head_ok m (mark a b l) ha _ ⟨rfl, rfl⟩, unify_head_ok m (mark a b l) hb _ ⟨rfl, rfl, ?_⟩⟩
    refine iff_intro (fun h3 => iff_intro (fun h4 => ?_) (fun h4 => ?_)) (fun h3 => ?_)
    · have h3 : a'.var = true := h3
      have h4 : b'.var = true := h4
      show jp_unify_unifier_solve_2 Q (a'.name.toList == b'.name.toList) _ _ _ _ _ _ _ _
      rw [ba_beq]
      have e : (a'.var && b'.var && decide (a'.name = b'.name)) = decide (a'.name = b'.name) := by rw [h3, h4]; rfl
      rw [← e]; exact h2
    · have h4 : b'.var = false := h4
      have e : (a'.var && b'.var && decide (a'.name = b'.name)) = false := by rw [h4]; simp
      rw [e] at h2; exact h2
    · have h3 : a'.var = false := h3
      have e : (a'.var && b'.var && decide (a'.name = b'.name)) = false := by rw [h3]; rfl
      rw [e] at h2; exact h2
  have both : jp_unify_unifier_solve_0 Q (a.var && b.var) a.name a.var (Tm.encL a.args) b.name b.var (Tm.encL b.args) (encS m) (encD l) := by
    rw [jp_unify_unifier_solve_0_s]
    unfold je_unify_unifier_solve_0
    rw [mget_prs]
    refine iff_intro (fun h => iff_intro (fun h3 => ⟨trivial, ?_⟩) (fun h3 => ?_)) (fun h => ?_)
    · rw [Bool.and_eq_true] at h
      have hin := knP_iff.1 h3
      have heq : θ a.name = θ b.name := by
        rcases hpd _ hin with h4 | h4
        · exact h4 θ ht.resp
        · have := h4 θ ht.resp
          rw [sizeL_cons', Tm.sub_var _ h.1] at this
          have h5 : (θ a.name).size + _ < (θ a.name).size := this
          omega
      have e := hd.idle θ r ht (by
        simp only [List.map_cons, List.map_nil]
        rw [Tm.sub_var _ h.1, Tm.sub_var _ h.2, heq])
      exact hQ1 _ e m l rfl hi (PE.refl _ _)
    · rw [mset_prs _ _ _ (knP_false.1 h3)]
      unfold mark at mid
      rw [if_pos h] at mid; exact mid
    · unfold mark at mid
      rw [if_neg (by rw [h]; simp)] at mid; exact mid
  refine C_unify_unifier_solve _ _ _ _ _ _ _ _ _ ?_
  unfold vc_unify_unifier_solve
  refine iff_intro (fun h => ?_) (fun h => ?_)
  · rw [show (a.var && b.var) = b.var by rw [h]; rfl] at both; exact both
  · rw [show (a.var && b.var) = false by rw [h]; rfl] at both; exact both
section
variable {m : Su} {l : Prs} {xs : List Tm} {θ : ByteArray → Tm} {r : ByteArray → Nat} {a b a' b' : Tm}
theorem same_P (ht : Tri (fnS m) θ r) (hi : NamesOk m) (hpd : PD (fnS m) (a :: xs) l) (ha : Head (fnS m) a a') (hb : Head (fnS m) b b') (va : a'.var = true) (vb : b'.var = true) (hn : a'.name = b'.name) : SolveP a b m l (some (fnS m)) :=
  enterP ht hi hpd ha hb (.same _ _ _ _ _ _ _ _ ha hb va vb hn (.nil _)) fun Q hQ1 _ => by
    rw [jp_unify_unifier_solve_2_s]
    unfold je_unify_unifier_solve_2
    rw [show (a'.var && b'.var && decide (a'.name = b'.name)) = true by rw [va, vb, decide_eq_true hn]; rfl]
    exact ⟨trivial, hQ1 _ rfl m _ rfl hi (PE.refl _ _)⟩
theorem A_P (ht : Tri (fnS m) θ r) (hi : NamesOk m) (hpd : PD (fnS m) (a :: xs) l) (ha : Head (fnS m) a a') (hb : Head (fnS m) b b') (va : a'.var = true) (hne : ¬ (b'.var = true ∧ a'.name = b'.name))
    {o : Option Bd} (ho : (Occ (fnS m) a'.name b' ∧ o = none) ∨ (¬ Occ (fnS m) a'.name b' ∧ o = some (updB (fnS m) a'.name b'))) : SolveP a b m l o := by
  have hd : Sl (fnS m) [a] [b] o := by
    rcases ho with ⟨h1, rfl⟩ | ⟨h1, rfl⟩
    · exact .occA _ _ _ _ _ _ _ ha hb va hne h1
    · exact .setA _ _ _ _ _ _ _ _ ha hb va hne h1 (.nil _)
  refine enterP ht hi hpd ha hb hd fun Q hQ1 hQ2 => ?_
  have hx := ha.end_ va
  rw [jp_unify_unifier_solve_2_s]
  unfold je_unify_unifier_solve_2
  have e : (a'.var && b'.var && decide (a'.name = b'.name)) = false := by
    rw [va, Bool.true_and]
    cases hv : b'.var with
    | false => rfl
    | true => rw [Bool.true_and]; exact decide_eq_false fun e => hne ⟨hv, e⟩
  rw [e]
  refine iff_intro (fun h => by cases h) fun _ => iff_intro (fun _ => ?_) (fun h => by rw [show (V.b a'.var).bool = a'.var from rfl, va] at h; cases h)
  refine unify_set_ok m _ ht a'.name b' hx _ (fun h1 => ⟨rfl, rfl, trivial, ?_⟩) (fun h1 => ⟨rfl, rfl, trivial, ?_⟩)
  · rcases ho with ⟨_, e⟩ | ⟨h2, _⟩
    · exact hQ2 e m _
    · exact absurd h1 h2
  · rcases ho with ⟨h2, _⟩ | ⟨_, e⟩
    · exact absurd h2 h1
    · exact hQ1 _ e _ _ (fnS_push b' hx) (hi.push b' hx) (PE.refl _ _)
theorem B_P (ht : Tri (fnS m) θ r) (hi : NamesOk m) (hpd : PD (fnS m) (a :: xs) l) (ha : Head (fnS m) a a') (hb : Head (fnS m) b b') (va : a'.var = false) (vb : b'.var = true)
    {o : Option Bd} (ho : (Occ (fnS m) b'.name a' ∧ o = none) ∨ (¬ Occ (fnS m) b'.name a' ∧ o = some (updB (fnS m) b'.name a'))) : SolveP a b m l o := by
  have hd : Sl (fnS m) [a] [b] o := by
    rcases ho with ⟨h1, rfl⟩ | ⟨h1, rfl⟩
    · exact .occB _ _ _ _ _ _ _ ha hb va vb h1
    · exact .setB _ _ _ _ _ _ _ _ ha hb va vb h1 (.nil _)
  refine enterP ht hi hpd ha hb hd fun Q hQ1 hQ2 => ?_
  have hx := hb.end_ vb
  rw [jp_unify_unifier_solve_2_s]
  unfold je_unify_unifier_solve_2
  have e : (a'.var && b'.var && decide (a'.name = b'.name)) = false := by rw [va]; rfl
  rw [e]
  refine iff_intro (fun h => by cases h) fun _ => iff_intro (fun h => by rw [show (V.b a'.var).bool = a'.var from rfl, va] at h; cases h) fun _ => iff_intro (fun _ => ?_) (fun h => by rw [show (V.b b'.var).bool = b'.var from rfl, vb] at h; cases h)
  refine unify_set_ok m _ ht b'.name a' hx _ (fun h1 => ⟨rfl, rfl, trivial, ?_⟩) (fun h1 => ⟨rfl, rfl, trivial, ?_⟩)
  · rcases ho with ⟨_, e⟩ | ⟨h2, _⟩
    · exact hQ2 e m _
    · exact absurd h1 h2
  · rcases ho with ⟨h2, _⟩ | ⟨_, e⟩
    · exact absurd h2 h1
    · exact hQ1 _ e _ _ (fnS_push a' hx) (hi.push a' hx) (PE.refl _ _)
theorem fn_P (ht : Tri (fnS m) θ r) (hi : NamesOk m) (hpd : PD (fnS m) (a :: xs) l) (ha : Head (fnS m) a a') (hb : Head (fnS m) b b') (va : a'.var = false) (vb : b'.var = false) {o : Option Bd} (hd : Sl (fnS m) [a] [b] o)
    (hc : ¬ (a'.name = b'.name ∧ a'.args.length = b'.args.length) → o = none)
    (h2 : a'.name = b'.name → a'.args.length = b'.args.length → ∀ Q : D → Heap → Prop, (∀ σ1, o = some σ1 → ∀ m1 l1, fnS m1 = σ1 → NamesOk m1 → PE σ1 (mark a b l) l1 → Q (bD true) (uniH m1 l1)) → (o = none → ∀ m1 l1, Q (bD false) (uniH m1 l1)) →
      RunP a'.args b'.args m (mark a b l) (fun ok m1 l1 => match ok with | true => Q (bD true) (uniH m1 l1) | false => Q (bD false) (uniH m1 l1))) : SolveP a b m l o := by
  refine enterP ht hi hpd ha hb hd fun Q hQ1 hQ2 => ?_
  rw [jp_unify_unifier_solve_2_s]
  unfold je_unify_unifier_solve_2
  have e : (a'.var && b'.var && decide (a'.name = b'.name)) = false := by rw [va]; rfl
  rw [e]
  refine iff_intro (fun h => by cases h) fun _ => iff_intro (fun h => by rw [show (V.b a'.var).bool = a'.var from rfl, va] at h; cases h) fun _ => iff_intro (fun h => by rw [show (V.b b'.var).bool = b'.var from rfl, vb] at h; cases h) fun _ => ?_
  show iff (!(a'.name.toList == b'.name.toList)) _ _
  rw [ba_beq]
  refine iff_not (iff_dec (fun h3 hb1 hb2 => ?_) (fun h3 => ⟨trivial, hQ2 (hc fun h => h3 h.1) m _⟩))
  simp only [list_l, Tm.encL_length]
  refine iff_bne (fun h4 => ⟨trivial, hQ2 (hc fun h => h4 (by rw [h.2])) m _⟩) (fun h4 => ?_)
  have hl : a'.args.length = b'.args.length := by omega
  have hrun := h2 h3 hl Q hQ1 hQ2
  rw [jp_unify_unifier_solve_3_s]
  unfold je_unify_unifier_solve_3
  simp only [list_l, Tm.encL_length]
  intro hb1
  refine range_unify_unifier_solve_0 Q _ _ _ _ _ _ _ hb1 (fun k h1 h2 => ∃ m1 l1, h1 = encS m1 ∧ h2 = encD l1 ∧ RunP (a'.args.drop k) (b'.args.drop k) m1 l1 (fun ok m1 l1 => match ok with | true => Q (bD true) (uniH m1 l1) | false => Q (bD false) (uniH m1 l1))) (fun k h1 h2 hk hJ K hK => ?_) (fun h1 h2 hJ => ?_) 0 _ _ (Nat.zero_le _) ⟨m, _, rfl, rfl, hrun⟩
  · obtain ⟨m1, l1, rfl, rfl, hr⟩ := hJ
    have hk2 : k < b'.args.length := by omega
    rw [List.drop_eq_getElem_cons hk, List.drop_eq_getElem_cons hk2] at hr
    unfold RunP at hr
    simp only [list_l, Tm.encL_length, Tm.encL_getD _ k hk, Tm.encL_getD _ k hk2, Tm.enc_eq, List.drop_zero, List.headD_cons, List.tail_cons]
    refine ⟨by omega, by omega, by omega, by omega, hr.mono ?_⟩
    rintro r1 H' ⟨m2, l2, rfl, ⟨rfl, hr2⟩ | ⟨rfl, hf⟩⟩
    · exact ⟨rfl, rfl, iff_intro (fun h => by cases h) fun _ => hK _ _ ⟨m2, l2, rfl, rfl, hr2⟩⟩
    · exact ⟨rfl, rfl, iff_intro (fun _ => ⟨trivial, hf⟩) fun h => by cases h⟩
  · obtain ⟨m1, l1, rfl, rfl, hr⟩ := hJ
    rw [List.drop_length] at hr
    exact ⟨trivial, hr⟩
theorem PD.inner (hm : ∀ τ, Resp τ (fnS m) → Tm.sub τ a = Tm.sub τ a') (va : a'.var = false) (hpd : PD (fnS m) (a :: xs) l) : PD (fnS m) a'.args (mark a b l) := by
  have hsz : ∀ τ, Resp τ (fnS m) → (Tm.sub τ a).size = 1 + Tm.sizeL (a'.args.map (Tm.sub τ)) := fun τ hτ => by
    rw [hm τ hτ, Tm.sub_fn _ va, Tm.size_eq]; rfl
  have old : ∀ p ∈ l, (∀ τ, Resp τ (fnS m) → τ p.1 = τ p.2) ∨ ∀ τ, Resp τ (fnS m) → Tm.sizeL (a'.args.map (Tm.sub τ)) < (τ p.1).size := fun p hp => (hpd p hp).imp id fun h τ hτ => by
    have h1 := h τ hτ
    have h2 := hsz τ hτ
    rw [sizeL_cons'] at h1; omega
  intro p hp
  unfold mark at hp
  split at hp
  · rename_i hb
    rw [Bool.and_eq_true] at hb
    rcases List.mem_append.1 hp with h | h
    · exact old p h
    · rw [List.mem_singleton.1 h]
      refine .inr fun τ hτ => ?_
      have h2 := hsz τ hτ
      rw [Tm.sub_var _ hb.1] at h2
      show _ < (τ a.name).size
      omega
  · exact old p hp
end
theorem progRun {σ : Bd} {xs ys : List Tm} {o : Option Bd} (h : Sl σ xs ys o) :
    ∀ m l, fnS m = σ → (∃ θ r, Tri σ θ r) → NamesOk m → PD σ xs l → ∀ post, (∀ σ', o = some σ' → ∀ m' l', fnS m' = σ' → NamesOk m' → PE σ' l l' → post true m' l') → (o = none → ∀ m' l', post false m' l') → RunP xs ys m l post := by
  induction h with
  | nil σ =>
    intro m l e _ hi _ post hp _
    exact hp σ rfl m l e hi (PE.refl _ _)
  | same σ a b a' b' xs ys o ha hb va vb hn d ih =>
    intro m l e ht hi hpd post hp hpn
    subst e
    obtain ⟨θ, r, ht⟩ := ht
    exact consP (same_P ht hi hpd ha hb va vb hn) d hpd (.same _ _ _ _ _ _ _ _ ha hb va vb hn (.nil _)) (fun m' l' e' hi' hpd' => ih m' l' e' ⟨θ, r, ht⟩ hi' hpd') post hp hpn
  | setA σ a b a' b' xs ys o ha hb va hne ho d ih =>
    intro m l e ht hi hpd post hp hpn
    subst e
    obtain ⟨θ, r, ht⟩ := ht
    have hxn := ha.end_ va
    exact consP (A_P ht hi hpd ha hb va hne (.inr ⟨ho, rfl⟩)) d hpd (.setA _ _ _ _ _ _ _ _ ha hb va hne ho (.nil _)) (fun m' l' e' hi' hpd' => ih m' l' e' ⟨_, _, ht.upd hxn fun hin => ho ((Occ.iff ht hxn b').2 hin)⟩ hi' hpd') post hp hpn
  | occA σ a b a' b' xs ys ha hb va hne ho =>
    intro m l e ht hi hpd post hp hpn
    subst e
    obtain ⟨θ, r, ht⟩ := ht
    exact noneP (A_P ht hi hpd ha hb va hne (.inl ⟨ho, rfl⟩)) post (hpn rfl)
  | setB σ a b a' b' xs ys o ha hb va vb ho d ih =>
    intro m l e ht hi hpd post hp hpn
    subst e
    obtain ⟨θ, r, ht⟩ := ht
    have hxn := hb.end_ vb
    exact consP (B_P ht hi hpd ha hb va vb (.inr ⟨ho, rfl⟩)) d hpd (.setB _ _ _ _ _ _ _ _ ha hb va vb ho (.nil _)) (fun m' l' e' hi' hpd' => ih m' l' e' ⟨_, _, ht.upd hxn fun hin => ho ((Occ.iff ht hxn a').2 hin)⟩ hi' hpd') post hp hpn
  | occB σ a b a' b' xs ys ha hb va vb ho =>
    intro m l e ht hi hpd post hp hpn
    subst e
    obtain ⟨θ, r, ht⟩ := ht
    exact noneP (B_P ht hi hpd ha hb va vb (.inl ⟨ho, rfl⟩)) post (hpn rfl)
  | clash σ a b a' b' xs ys ha hb va vb hne =>
    intro m l e ht hi hpd post hp hpn
    subst e
    obtain ⟨θ, r, ht⟩ := ht
    exact noneP (fn_P ht hi hpd ha hb va vb (.clash _ _ _ _ _ _ _ ha hb va vb hne) (fun _ => rfl) fun h1 h2 => absurd ⟨h1, h2⟩ hne) post (hpn rfl)
  | args σ σ1 a b a' b' xs ys o ha hb va vb hn hl d1 d2 ih1 ih2 =>
    intro m l e ht hi hpd post hp hpn
    subst e
    obtain ⟨θ, r, ht⟩ := ht
    have hd : Sl (fnS m) [a] [b] (some σ1) := .args _ _ _ _ _ _ _ _ _ ha hb va vb hn hl d1 (.nil _)
    have h1 : SolveP a b m l (some σ1) := fn_P ht hi hpd ha hb va vb hd (fun h => absurd ⟨hn, hl⟩ h) fun _ _ Q hQ1 hQ2 =>
      ih1 m (mark a b l) rfl ⟨θ, r, ht⟩ hi (PD.inner (fun τ hτ => ha.sub hτ) va hpd) _ (fun σ' e m1 l1 e1 hi1 hpe => by cases e; exact hQ1 σ1 rfl m1 l1 e1 hi1 hpe) (fun e => by cases e)
    obtain ⟨θ1, r1, ht1⟩ := d1.tri σ1 rfl θ r ht
    exact consP h1 d2 hpd hd (fun m' l' e' hi' hpd' => ih2 m' l' e' ⟨θ1, r1, ht1⟩ hi' hpd') post hp hpn
  | argsN σ a b a' b' xs ys ha hb va vb hn hl d1 ih1 =>
    intro m l e ht hi hpd post hp hpn
    subst e
    obtain ⟨θ, r, ht⟩ := ht
    have hd : Sl (fnS m) [a] [b] none := .argsN _ _ _ _ _ _ _ ha hb va vb hn hl d1
    refine noneP (fn_P ht hi hpd ha hb va vb hd (fun h => rfl) fun _ _ Q hQ1 hQ2 => ?_) post (hpn rfl)
    exact ih1 m (mark a b l) rfl ⟨θ, r, ht⟩ hi (PD.inner (fun τ hτ => ha.sub hτ) va hpd) _ (fun σ' e => by cases e) (fun _ m1 l1 => hQ2 rfl m1 l1)
end Go.Proofs.Ytgohjdaepcmonaa
