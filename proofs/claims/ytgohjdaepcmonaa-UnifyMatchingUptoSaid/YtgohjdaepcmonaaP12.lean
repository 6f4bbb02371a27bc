/-
  Texts R03D, R03E, R03F, LawU of this proof, joined.
-/
import Derived.Test.YtgohjdaepcmonaaP11
set_option linter.unusedVariables false
set_option linter.unusedSimpArgs false
namespace Go.Proofs.Ytgohjdaepcmonaa
open Go.Abs
structure RInv (U : List ByteArray) (s : Su) (l : Prs) : Prop where
  hU : InU U (fnS s)
  cnt : CntOk U s
  pr : PrOk U (fnS s) l
  so : SortS s
def SolveR (U : List ByteArray) (a b : Tm) (s : Su) (l : Prs) (o : Option Bd) : Prop :=
  ∀ Q : D → Heap → Prop, (∀ σ1, o = some σ1 → ∀ s1 l1, fnS s1 = σ1 → RInv U s1 l1 → PrNew σ1 [a] l l1 → Q (bD true) (solH s1 l1)) → (o = none → ∀ s1 l1, Q (bD false) (solH s1 l1)) →
    cl f_r03_solver_solve [.ptr (.own 0) 0, tD a, tD b] (solH s l) Q
theorem PrOk.weak {U : List ByteArray} {σ σ' : Bd} {l : Prs} (h : PrOk U σ l) (hm : ∀ τ, Resp τ σ' → Resp τ σ) : PrOk U σ' l := ⟨h.nd, h.inU, fun p hp τ hτ => h.eq p hp τ (hm τ hτ)⟩
theorem sizeL_cons (τ : ByteArray → Tm) (a : Tm) (xs : List Tm) : Tm.sizeL ((a :: xs).map (Tm.sub τ)) = (Tm.sub τ a).size + Tm.sizeL (xs.map (Tm.sub τ)) := rfl
theorem consR {U : List ByteArray} {a b : Tm} {xs ys : List Tm} {s : Su} {l : Prs} {σ1 : Bd} {o : Option Bd} (h1 : SolveR U a b s l (some σ1)) (hd : Sl σ1 xs ys o)
    (ih : ∀ s l, fnS s = σ1 → RInv U s l → ∀ post, (∀ σ', o = some σ' → ∀ s' l', fnS s' = σ' → RInv U s' l' → PrNew σ' xs l l' → post true s' l') → (o = none → ∀ s' l', post false s' l') → RunR xs ys s l post)
    (post : Bool → Su → Prs → Prop) (hp : ∀ σ', o = some σ' → ∀ s' l', fnS s' = σ' → RInv U s' l' → PrNew σ' (a :: xs) l l' → post true s' l') (hn : o = none → ∀ s' l', post false s' l') : RunR (a :: xs) (b :: ys) s l post := by
  unfold RunR
  refine h1 _ (fun σ2 e s1 l1 e1 hi hnew => ?_) (fun e => by cases e)
  cases e
  refine ⟨s1, l1, rfl, .inl ⟨rfl, ih s1 l1 e1 hi post (fun σ' e s' l' e' hi' hnew' => hp σ' e s' l' e' hi' fun p hp' => ?_) hn⟩⟩
  rcases hnew' p hp' with h | h
  · rcases hnew p h with h | h
    · exact .inl h
    · refine .inr fun τ hτ => ?_
      have h2 := h τ (hd.mono σ' e τ hτ).1
      have e0 : Tm.sizeL ([a].map (Tm.sub τ)) = (Tm.sub τ a).size := by rw [sizeL_cons]; rfl
      rw [e0] at h2
      rw [sizeL_cons]; omega
  · refine .inr fun τ hτ => ?_
    have h2 := h τ hτ
    rw [sizeL_cons]; omega
theorem noneR {U : List ByteArray} {a b : Tm} {xs ys : List Tm} {s : Su} {l : Prs} (h1 : SolveR U a b s l none) (post : Bool → Su → Prs → Prop) (hn : ∀ s' l', post false s' l') : RunR (a :: xs) (b :: ys) s l post := by
  unfold RunR
  exact h1 _ (fun σ2 e => by cases e) fun _ s1 l1 => ⟨s1, l1, rfl, .inr ⟨rfl, hn s1 l1⟩⟩
theorem enterR {U : List ByteArray} {s : Su} {l : Prs} {θ : ByteArray → Tm} {r : ByteArray → Nat} (ht : Tri (fnS s) θ r) (hi : RInv U s l) {a b a' b' : Tm} (ha : Head (fnS s) a a') (hb : Head (fnS s) b b') {o : Option Bd} (hd : Sl (fnS s) [a] [b] o)
    (h2 : ∀ Q : D → Heap → Prop, (∀ σ1, o = some σ1 → ∀ s1 l1, fnS s1 = σ1 → RInv U s1 l1 → PrNew σ1 [a] l l1 → Q (bD true) (solH s1 l1)) → (o = none → ∀ s1 l1, Q (bD false) (solH s1 l1)) → (a.var = true → b.var = true → (a.name, b.name) ∉ l) →
      jp_r03_solver_solve_2 Q (a.var && b.var) (a'.var && b'.var && decide (a'.name = b'.name)) (V.s a'.name) (V.b a'.var) (V.l (Tm.encL a'.args)) (V.s b'.name) (V.b b'.var) (V.l (Tm.encL b'.args)) a.name b.name (V.l (encS s)) l.length (encQ l)) : SolveR U a b s l o := by
  intro Q hQ1 hQ2
  refine solve_enter s l ha hb Q (fun va vb hin => ?_) (h2 Q hQ1 hQ2)
  have e := hd.idle θ r ht (by
    simp only [List.map_cons, List.map_nil]
    rw [Tm.sub_var _ va, Tm.sub_var _ vb, hi.pr.eq _ hin θ ht.resp])
  exact hQ1 _ e s l rfl hi fun p hp => .inl hp
section
variable {U : List ByteArray} {s : Su} {l : Prs} {θ : ByteArray → Tm} {r : ByteArray → Nat} {a b a' b' : Tm}
theorem same_R (ht : Tri (fnS s) θ r) (hi : RInv U s l) (ha : Head (fnS s) a a') (hb : Head (fnS s) b b') (va : a'.var = true) (vb : b'.var = true) (hn : a'.name = b'.name) : SolveR U a b s l (some (fnS s)) :=
  enterR ht hi ha hb (.same _ _ _ _ _ _ _ _ ha hb va vb hn (.nil _)) fun Q hQ1 _ _ => by
    rw [jp_r03_solver_solve_2_s]
    unfold je_r03_solver_solve_2
    rw [show (a'.var && b'.var && decide (a'.name = b'.name)) = true by rw [va, vb, decide_eq_true hn]; rfl]
    exact ⟨trivial, hQ1 _ rfl s l rfl hi fun p hp => .inl hp⟩
theorem bind_R (hUl : U.length + 1 ≤ lim) (ht : Tri (fnS s) θ r) (hi : RInv U s l) (v : ByteArray) (t : Tm) (hv : fnS s v = none) (hvU : v ∈ U) (hUt : ∀ y ∈ Tm.vs t, y ∈ U) (Q : D → Heap → Prop)
    (h1 : Occ (fnS s) v t → Q (bD false) (solH s l)) (h2 : ¬ Occ (fnS s) v t → RInv U (withS s v t) l → Q (bD true) (solH (withS s v t) l)) : cl f_r03_solver_bind [.ptr (.own 0) 0, sD v, tD t] (solH s l) Q :=
  r03_solver_bind_ok U hUl s l ht hi.hU hi.cnt v t hUt Q h1 fun ho => h2 ho ⟨by rw [fnS_with t hv]; exact hi.hU.upd hUt, hi.cnt.with t hv hvU, by
    rw [fnS_with t hv]; exact hi.pr.weak fun τ hτ => (Resp.upd hv hτ).1, withS_sort hi.so (boundS_false.1 (fnS_none.1 hv))⟩
theorem A_R (hUl : U.length + 1 ≤ lim) (ht : Tri (fnS s) θ r) (hi : RInv U s l) (hau : ∀ y ∈ Tm.vs a, y ∈ U) (hbu : ∀ y ∈ Tm.vs b, y ∈ U) (ha : Head (fnS s) a a') (hb : Head (fnS s) b b') (va : a'.var = true) (hne : ¬ (b'.var = true ∧ a'.name = b'.name))
    {o : Option Bd} (ho : (Occ (fnS s) a'.name b' ∧ o = none) ∨ (¬ Occ (fnS s) a'.name b' ∧ o = some (updB (fnS s) a'.name b'))) : SolveR U a b s l o := by
  have hd : Sl (fnS s) [a] [b] o := by
    rcases ho with ⟨h1, rfl⟩ | ⟨h1, rfl⟩
    · exact .occA _ _ _ _ _ _ _ ha hb va hne h1
    · exact .setA _ _ _ _ _ _ _ _ ha hb va hne h1 (.nil _)
  refine enterR ht hi ha hb hd fun Q hQ1 hQ2 _ => ?_
  have hx := ha.end_ va
  rw [jp_r03_solver_solve_2_s]
  unfold je_r03_solver_solve_2
  have e : (a'.var && b'.var && decide (a'.name = b'.name)) = false := by
    rw [va, Bool.true_and]
    cases hv : b'.var with
    | false => rfl
    | true => rw [Bool.true_and]; exact decide_eq_false fun e => hne ⟨hv, e⟩
  rw [e]
  refine iff_intro (fun h => by cases h) fun _ => iff_intro (fun _ => ?_) (fun h => by rw [show (V.b a'.var).bool = a'.var from rfl, va] at h; cases h)
  refine bind_R hUl ht hi a'.name b' hx (ha.inU hi.hU hau _ ((Tm.vs_var va).2 rfl)) (hb.inU hi.hU hbu) _ (fun h1 => ⟨rfl, rfl, trivial, ?_⟩) (fun h1 hi' => ⟨rfl, rfl, trivial, ?_⟩)
  · rcases ho with ⟨_, e⟩ | ⟨h2, _⟩
    · exact hQ2 e s l
    · exact absurd h1 h2
  · rcases ho with ⟨h2, _⟩ | ⟨_, e⟩
    · exact absurd h2 h1
    · exact hQ1 _ e _ l (fnS_with b' hx) hi' fun p hp => .inl hp
theorem B_R (hUl : U.length + 1 ≤ lim) (ht : Tri (fnS s) θ r) (hi : RInv U s l) (hau : ∀ y ∈ Tm.vs a, y ∈ U) (hbu : ∀ y ∈ Tm.vs b, y ∈ U) (ha : Head (fnS s) a a') (hb : Head (fnS s) b b') (va : a'.var = false) (vb : b'.var = true)
    {o : Option Bd} (ho : (Occ (fnS s) b'.name a' ∧ o = none) ∨ (¬ Occ (fnS s) b'.name a' ∧ o = some (updB (fnS s) b'.name a'))) : SolveR U a b s l o := by
  have hd : Sl (fnS s) [a] [b] o := by
    rcases ho with ⟨h1, rfl⟩ | ⟨h1, rfl⟩
    · exact .occB _ _ _ _ _ _ _ ha hb va vb h1
    · exact .setB _ _ _ _ _ _ _ _ ha hb va vb h1 (.nil _)
  refine enterR ht hi ha hb hd fun Q hQ1 hQ2 _ => ?_
  have hx := hb.end_ vb
  rw [jp_r03_solver_solve_2_s]
  unfold je_r03_solver_solve_2
  have e : (a'.var && b'.var && decide (a'.name = b'.name)) = false := by rw [va]; rfl
  rw [e]
  refine iff_intro (fun h => by cases h) fun _ => iff_intro (fun h => by rw [show (V.b a'.var).bool = a'.var from rfl, va] at h; cases h) fun _ => iff_intro (fun _ => ?_) (fun h => by rw [show (V.b b'.var).bool = b'.var from rfl, vb] at h; cases h)
  refine bind_R hUl ht hi b'.name a' hx (hb.inU hi.hU hbu _ ((Tm.vs_var vb).2 rfl)) (ha.inU hi.hU hau) _ (fun h1 => ⟨rfl, rfl, trivial, ?_⟩) (fun h1 hi' => ⟨rfl, rfl, trivial, ?_⟩)
  · rcases ho with ⟨_, e⟩ | ⟨h2, _⟩
    · exact hQ2 e s l
    · exact absurd h1 h2
  · rcases ho with ⟨h2, _⟩ | ⟨_, e⟩
    · exact absurd h2 h1
    · exact hQ1 _ e _ l (fnS_with a' hx) hi' fun p hp => .inl hp
theorem fn_R (ht : Tri (fnS s) θ r) (hi : RInv U s l) (ha : Head (fnS s) a a') (hb : Head (fnS s) b b') (va : a'.var = false) (vb : b'.var = false) {o : Option Bd} (hd : Sl (fnS s) [a] [b] o)
    (hc : ¬ (a'.name = b'.name ∧ a'.args.length = b'.args.length) → o = none)
    (h2 : ∀ Q : D → Heap → Prop, (∀ σ1, o = some σ1 → ∀ s1 l1, fnS s1 = σ1 → RInv U s1 l1 → PrNew σ1 [a] l l1 → Q (bD true) (solH s1 l1)) → (o = none → ∀ s1 l1, Q (bD false) (solH s1 l1)) → (a.var = true → b.var = true → (a.name, b.name) ∉ l) → a'.name = b'.name → a'.args.length = b'.args.length →
      jp_r03_solver_solve_3 Q (a.var && b.var) (V.s a'.name) (V.b a'.var) (V.l (Tm.encL a'.args)) (V.s b'.name) (V.b b'.var) (V.l (Tm.encL b'.args)) a.name b.name (V.l (encS s)) l.length (encQ l)) : SolveR U a b s l o := by
  refine enterR ht hi ha hb hd fun Q hQ1 hQ2 hnk => ?_
  rw [jp_r03_solver_solve_2_s]
  unfold je_r03_solver_solve_2
  have e : (a'.var && b'.var && decide (a'.name = b'.name)) = false := by rw [va]; rfl
  rw [e]
  refine iff_intro (fun h => by cases h) fun _ => iff_intro (fun h => by rw [show (V.b a'.var).bool = a'.var from rfl, va] at h; cases h) fun _ => iff_intro (fun h => by rw [show (V.b b'.var).bool = b'.var from rfl, vb] at h; cases h) fun _ => ?_
  show iff (!(a'.name.toList == b'.name.toList)) _ _
  rw [ba_beq]
  refine iff_not (iff_dec (fun h3 hb1 hb2 => ?_) (fun h3 => ⟨trivial, hQ2 (hc fun h => h3 h.1) s l⟩))
  simp only [list_l, Tm.encL_length]
  refine iff_bne (fun h4 => ⟨trivial, hQ2 (hc fun h => h4 (by rw [h.2])) s l⟩) (fun h4 => ?_)
  exact h2 Q hQ1 hQ2 hnk h3 (by omega)
end
theorem refRun (U : List ByteArray) (hUl : U.length + 1 ≤ lim) (hU2 : U.length * U.length + 1 ≤ lim) {σ : Bd} {xs ys : List Tm} {o : Option Bd} (h : Sl σ xs ys o) :
    ∀ s l, fnS s = σ → (∃ θ r, Tri σ θ r) → RInv U s l → AllU U xs → AllU U ys → ∀ post, (∀ σ', o = some σ' → ∀ s' l', fnS s' = σ' → RInv U s' l' → PrNew σ' xs l l' → post true s' l') → (o = none → ∀ s' l', post false s' l') → RunR xs ys s l post := by
  induction h with
  | nil σ =>
    intro s l e _ hi _ _ post hp _
    exact hp σ rfl s l e hi fun p hp => .inl hp
  | same σ a b a' b' xs ys o ha hb va vb hn d ih =>
    intro s l e ht hi hx hy post hp hpn
    subst e
    obtain ⟨θ, r, ht⟩ := ht
    exact consR (same_R ht hi ha hb va vb hn) d (fun s' l' e' hi' => ih s' l' e' ⟨θ, r, ht⟩ hi' (fun t h => hx t (List.mem_cons_of_mem _ h)) (fun t h => hy t (List.mem_cons_of_mem _ h))) post hp hpn
  | setA σ a b a' b' xs ys o ha hb va hne ho d ih =>
    intro s l e ht hi hx hy post hp hpn
    subst e
    obtain ⟨θ, r, ht⟩ := ht
    have hxn := ha.end_ va
    exact consR (A_R hUl ht hi (hx a (by simp)) (hy b (by simp)) ha hb va hne (.inr ⟨ho, rfl⟩)) d (fun s' l' e' hi' => ih s' l' e' ⟨_, _, ht.upd hxn fun hin => ho ((Occ.iff ht hxn b').2 hin)⟩ hi' (fun t h => hx t (List.mem_cons_of_mem _ h)) (fun t h => hy t (List.mem_cons_of_mem _ h))) post hp hpn
  | occA σ a b a' b' xs ys ha hb va hne ho =>
    intro s l e ht hi hx hy post hp hpn
    subst e
    obtain ⟨θ, r, ht⟩ := ht
    exact noneR (A_R hUl ht hi (hx a (by simp)) (hy b (by simp)) ha hb va hne (.inl ⟨ho, rfl⟩)) post (hpn rfl)
  | setB σ a b a' b' xs ys o ha hb va vb ho d ih =>
    intro s l e ht hi hx hy post hp hpn
    subst e
    obtain ⟨θ, r, ht⟩ := ht
    have hxn := hb.end_ vb
    exact consR (B_R hUl ht hi (hx a (by simp)) (hy b (by simp)) ha hb va vb (.inr ⟨ho, rfl⟩)) d (fun s' l' e' hi' => ih s' l' e' ⟨_, _, ht.upd hxn fun hin => ho ((Occ.iff ht hxn a').2 hin)⟩ hi' (fun t h => hx t (List.mem_cons_of_mem _ h)) (fun t h => hy t (List.mem_cons_of_mem _ h))) post hp hpn
  | occB σ a b a' b' xs ys ha hb va vb ho =>
    intro s l e ht hi hx hy post hp hpn
    subst e
    obtain ⟨θ, r, ht⟩ := ht
    exact noneR (B_R hUl ht hi (hx a (by simp)) (hy b (by simp)) ha hb va vb (.inl ⟨ho, rfl⟩)) post (hpn rfl)
  | clash σ a b a' b' xs ys ha hb va vb hne =>
    intro s l e ht hi hx hy post hp hpn
    subst e
    obtain ⟨θ, r, ht⟩ := ht
    refine noneR (fn_R ht hi ha hb va vb (.clash _ _ _ _ _ _ _ ha hb va vb hne) (fun _ => rfl) fun Q hQ1 hQ2 _ h1 h2 => absurd ⟨h1, h2⟩ hne) post (hpn rfl)
  | args σ σ1 a b a' b' xs ys o ha hb va vb hn hl d1 d2 ih1 ih2 =>
    intro s l e ht hi hx hy post hp hpn
    subst e
    obtain ⟨θ, r, ht⟩ := ht
    have hd : Sl (fnS s) [a] [b] (some σ1) := .args _ _ _ _ _ _ _ _ _ ha hb va vb hn hl d1 (.nil _)
    have hau := hx a (by simp)
    have hbu := hy b (by simp)
    have h1 : SolveR U a b s l (some σ1) := by
      refine fn_R ht hi ha hb va vb hd (fun h => absurd ⟨hn, hl⟩ h) fun Q hQ1 hQ2 hnk _ _ => ?_
      rw [jp_r03_solver_solve_3_s]
      unfold je_r03_solver_solve_3
      simp only [list_l, Tm.encL_length]
      intro hb1
      let post1 : Bool → Su → Prs → Prop := fun ok s1 l1 => match ok with
        | true => iff (a.var && b.var) ((encQ l1).length = l1.length ∧ l1.length + ([[V.s a.name, V.s b.name]] : List (List V)).length ≤ lim ∧ True ∧ Q (.v .bool (V.b true)) [.cells [.v (.sl t_Bind) (V.l (encS s1)), .osl (.own 1) (l1.length + ([[V.s a.name, V.s b.name]] : List (List V)).length)], .row t_a2_string (encQ l1 ++ ([[V.s a.name, V.s b.name]]))]) (True ∧ Q (.v .bool (V.b true)) [.cells [.v (.sl t_Bind) (V.l (encS s1)), .osl (.own 1) l1.length], .row t_a2_string (encQ l1)])
        | false => Q (bD false) (solH s1 l1)
      have hrun : RunR a'.args b'.args s l post1 := by
        refine ih1 s l rfl ⟨θ, r, ht⟩ hi (allU_args va (ha.inU hi.hU hau)) (allU_args vb (hb.inU hi.hU hbu)) post1 (fun σ' e s1 l1 e1 hi1 hnew => ?_) (fun e => by cases e)
        cases e
        obtain ⟨θ1, r1, ht1⟩ := d1.tri σ1 rfl θ r ht
        have hmono : ∀ τ, Resp τ σ1 → Tm.sub τ a = Tm.sub τ a' := fun τ hτ => ha.sub (d1.mono σ1 rfl τ hτ).1
        have hsz : ∀ τ, Resp τ σ1 → (Tm.sub τ a).size = 1 + Tm.sizeL (a'.args.map (Tm.sub τ)) := fun τ hτ => by
          rw [hmono τ hτ, Tm.sub_fn _ va, Tm.size_eq]; rfl
        have e0 : ∀ τ, Tm.sizeL ([a].map (Tm.sub τ)) = (Tm.sub τ a).size := fun τ => by rw [sizeL_cons]; rfl
        have hnew1 : PrNew σ1 [a] l l1 := fun p hp => (hnew p hp).imp id fun h τ hτ => by
          have := h τ hτ; have := hsz τ hτ; rw [e0]; omega
        show iff _ _ _
        refine iff_intro (fun hbt => ?_) (fun _ => ⟨trivial, hQ1 σ1 rfl s1 l1 e1 hi1 hnew1⟩)
        rw [Bool.and_eq_true] at hbt
        have hlen := pairs_length hi1.pr.nd hi1.pr.inU
        refine ⟨encQ_length l1, ?_, trivial, ?_⟩
        · show l1.length + 1 ≤ lim; omega
        · have hnin : (a.name, b.name) ∉ l1 := fun hin => by
            rcases hnew _ hin with h | h
            · exact hnk hbt.1 hbt.2 h
            · have h3 := h θ1 ht1.resp
              have h4 := hsz θ1 ht1.resp
              rw [Tm.sub_var _ hbt.1] at h4
              show False
              have h3 : (θ1 a.name).size ≤ _ := h3
              omega
          have heq : ∀ τ, Resp τ σ1 → τ a.name = τ b.name := fun τ hτ => by
            have h5 := (hd.mono σ1 rfl τ hτ).2
            simp only [List.map_cons, List.map_nil, List.cons.injEq, and_true] at h5
            rwa [Tm.sub_var _ hbt.1, Tm.sub_var _ hbt.2] at h5
          have hpr : PrOk U (fnS s1) (l1 ++ [(a.name, b.name)]) := by
            refine ⟨?_, fun p hp => ?_, fun p hp τ hτ => ?_⟩
            · rw [List.nodup_append]
              exact ⟨hi1.pr.nd, by simp, fun x hx y hy e => hnin (by rw [List.mem_singleton.1 hy] at e; exact e ▸ hx)⟩
            · rcases List.mem_append.1 hp with h | h
              · exact hi1.pr.inU p h
              · rw [List.mem_singleton.1 h]
                exact ⟨hau _ ((Tm.vs_var hbt.1).2 rfl), hbu _ ((Tm.vs_var hbt.2).2 rfl)⟩
            · rcases List.mem_append.1 hp with h | h
              · exact hi1.pr.eq p h τ hτ
              · rw [List.mem_singleton.1 h]; exact heq τ (e1 ▸ hτ)
          have hQ := hQ1 σ1 rfl s1 (l1 ++ [(a.name, b.name)]) e1 ⟨hi1.hU, hi1.cnt, hpr, hi1.so⟩ fun p hp => by
            rcases List.mem_append.1 hp with h | h
            · exact hnew1 p h
            · rw [List.mem_singleton.1 h]
              refine .inr fun τ hτ => ?_
              rw [e0, Tm.sub_var _ hbt.1]; exact Nat.le_refl _
          have e2 : encQ l1 ++ [[V.s a.name, V.s b.name]] = encQ (l1 ++ [(a.name, b.name)]) := by simp [encQ]
          have e3 : l1.length + 1 = (l1 ++ [(a.name, b.name)]).length := by simp
          show Q (bD true) [.cells [suD s1, .osl (.own 1) (l1.length + 1)], .row t_a2_string (encQ l1 ++ [[V.s a.name, V.s b.name]])]
          rw [e2, e3]; exact hQ
      refine range_r03_solver_solve_0 Q _ _ _ _ _ _ _ _ _ _ hb1 (fun k h00 h01 h1 => ∃ s1 l1, h00 = .l (encS s1) ∧ h01 = l1.length ∧ h1 = encQ l1 ∧ RunR (a'.args.drop k) (b'.args.drop k) s1 l1 post1) (fun k h00 h01 h1 hk hJ K hK => ?_) (fun h00 h01 h1 hJ => ?_) 0 _ _ _ (Nat.zero_le _) ⟨s, l, rfl, rfl, rfl, hrun⟩
      · obtain ⟨s1, l1, rfl, rfl, rfl, hr⟩ := hJ
        have hk2 : k < b'.args.length := by omega
        rw [List.drop_eq_getElem_cons hk, List.drop_eq_getElem_cons hk2] at hr
        unfold RunR at hr
        simp only [list_l, Tm.encL_length, Tm.encL_getD _ k hk, Tm.encL_getD _ k hk2, Tm.enc_eq, List.drop_zero, List.headD_cons, List.tail_cons]
        refine ⟨by omega, by omega, by omega, by omega, hr.mono ?_⟩
        rintro r1 H' ⟨s2, l2, rfl, ⟨rfl, hr2⟩ | ⟨rfl, hf⟩⟩
        · exact ⟨rfl, rfl, iff_intro (fun h => by cases h) fun _ => hK _ _ _ ⟨s2, l2, rfl, rfl, rfl, hr2⟩⟩
        · exact ⟨rfl, rfl, iff_intro (fun _ => ⟨trivial, hf⟩) fun h => by cases h⟩
      · obtain ⟨s1, l1, rfl, rfl, rfl, hr⟩ := hJ
        rw [List.drop_length] at hr
        exact hr
    obtain ⟨θ1, r1, ht1⟩ := d1.tri σ1 rfl θ r ht
    exact consR h1 d2 (fun s' l' e' hi' => ih2 s' l' e' ⟨θ1, r1, ht1⟩ hi' (fun t h => hx t (List.mem_cons_of_mem _ h)) (fun t h => hy t (List.mem_cons_of_mem _ h))) post hp hpn
  | argsN σ a b a' b' xs ys ha hb va vb hn hl d1 ih1 =>
    intro s l e ht hi hx hy post hp hpn
    subst e
    obtain ⟨θ, r, ht⟩ := ht
    have hd : Sl (fnS s) [a] [b] none := .argsN _ _ _ _ _ _ _ ha hb va vb hn hl d1
    have hau := hx a (by simp)
    have hbu := hy b (by simp)
    refine noneR (fn_R ht hi ha hb va vb hd (fun h => rfl) fun Q hQ1 hQ2 hnk _ _ => ?_) post (hpn rfl)
    rw [jp_r03_solver_solve_3_s]
    unfold je_r03_solver_solve_3
    simp only [list_l, Tm.encL_length]
    intro hb1
    have hrun : RunR a'.args b'.args s l (fun ok s1 l1 => ok = false ∧ Q (bD false) (solH s1 l1)) :=
      ih1 s l rfl ⟨θ, r, ht⟩ hi (allU_args va (ha.inU hi.hU hau)) (allU_args vb (hb.inU hi.hU hbu)) _ (fun σ' e => by cases e) (fun _ s' l' => ⟨rfl, hQ2 rfl s' l'⟩)
    refine range_r03_solver_solve_0 Q _ _ _ _ _ _ _ _ _ _ hb1 (fun k h00 h01 h1 => ∃ s1 l1, h00 = .l (encS s1) ∧ h01 = l1.length ∧ h1 = encQ l1 ∧ RunR (a'.args.drop k) (b'.args.drop k) s1 l1 (fun ok s1 l1 => ok = false ∧ Q (bD false) (solH s1 l1))) (fun k h00 h01 h1 hk hJ K hK => ?_) (fun h00 h01 h1 hJ => ?_) 0 _ _ _ (Nat.zero_le _) ⟨s, l, rfl, rfl, rfl, hrun⟩
    · obtain ⟨s1, l1, rfl, rfl, rfl, hr⟩ := hJ
      have hk2 : k < b'.args.length := by omega
      rw [List.drop_eq_getElem_cons hk, List.drop_eq_getElem_cons hk2] at hr
      unfold RunR at hr
      simp only [list_l, Tm.encL_length, Tm.encL_getD _ k hk, Tm.encL_getD _ k hk2, Tm.enc_eq, List.drop_zero, List.headD_cons, List.tail_cons]
      refine ⟨by omega, by omega, by omega, by omega, hr.mono ?_⟩
      rintro r1 H' ⟨s2, l2, rfl, ⟨rfl, hr2⟩ | ⟨rfl, hf⟩⟩
      · exact ⟨rfl, rfl, iff_intro (fun h => by cases h) fun _ => hK _ _ _ ⟨s2, l2, rfl, rfl, rfl, hr2⟩⟩
      · exact ⟨rfl, rfl, iff_intro (fun _ => ⟨trivial, hf.2⟩) fun h => by cases h⟩
    · obtain ⟨s1, l1, rfl, rfl, rfl, hr⟩ := hJ
      rw [List.drop_length] at hr
      exact absurd hr.1 (by simp)
end Go.Proofs.Ytgohjdaepcmonaa
set_option linter.unusedVariables false
set_option linter.unusedSimpArgs false
namespace Go.Proofs.Ytgohjdaepcmonaa
open Go.Abs
def encI (l : List Int) : List (List V) := l.map fun i => [.i i]
theorem encI_length (l : List Int) : (encI l).length = l.length := by simp [encI]
theorem encI_getD (l : List Int) (k : Nat) (h : k < l.length) : (encI l).getD k [] = [.i l[k]] := by
  rw [encI, List.getD_eq_getElem?_getD, List.getElem?_map, List.getElem?_eq_getElem h]; rfl
theorem encI_set (l : List Int) (k : Nat) (h : k < l.length) (p : Int) : (encI l).set k (setV ((encI l).getD k []) 0 [V.i p]) = encI (l.set k p) := by
  rw [encI_getD l k h]
  show (encI l).set k [V.i p] = _
  simp [encI, List.map_set]
def capD (n : Nat) : Int := if n ≤ 201 then n else 201
structure ArrOk (s : Su) (A B : List Int) : Prop where
  la : A.length = s.length
  lb : B.length = s.length
  ba : ∀ i (h : i < A.length), 0 ≤ A[i] ∧ A[i] ≤ 4001
  bb : ∀ i (h : i < B.length), 0 ≤ B[i] ∧ B[i] ≤ 201
def Ex (s : Su) (θ : ByteArray → Tm) (A B : List Int) (x : ByteArray) : Prop :=
  ∀ i (h : i < s.length) (ha : i < A.length) (hb : i < B.length), (s[i]).1 = x → A[i] = capS (θ x).size ∧ B[i] = capD (θ x).depth
abbrev arrH (A B : List Int) : Heap := [.row t_int (encI A), .row t_int (encI B)]
theorem r03_measure_ok (s : Su) {θ : ByteArray → Tm} {r : ByteArray → Nat} (ht : Tri (fnS s) θ r) (A B : List Int) (hA : ArrOk s A B) : ∀ (t : Tm) (Q : D → Heap → Prop),
    (∀ p q : Int, 0 ≤ p ∧ p ≤ 4001 → 0 ≤ q ∧ q ≤ 201 → ((∀ x ∈ Tm.vs t, Ex s θ A B x) → p = capS (Tm.sub θ t).size ∧ q = capD (Tm.sub θ t).depth) → Q (.tup [iD p, iD q]) (arrH A B)) →
    cl f_r03_measure [suD s, .osl (.own 0) s.length, .osl (.own 1) s.length, tD t] (arrH A B) Q := Tm.ind fun t ih Q hQ => by
  refine C_r03_measure _ _ _ _ _ _ _ _ _ ?_
  unfold vc_r03_measure
  have la := hA.la
  have lb := hA.lb
  have ea : (encI A).length = s.length := by rw [encI_length, la]
  have eb : (encI B).length = s.length := by rw [encI_length, lb]
  refine iff_intro (fun hv hb => ?_) (fun hv hb => ?_)
  · have hl := encS_length s
    rw [hl] at hb ⊢
    refine range_r03_measure_0 Q _ _ _ _ _ _ _ _ _ hb (fun k => ∀ i (h : i < s.length), i < k → (s[i]).1 ≠ t.name) (fun k hk hJ K hK => ?_) (fun hJ => ?_) 0 (Nat.zero_le _) (fun i _ h => by omega)
    · have hka : k < A.length := by omega
      have hkb : k < B.length := by omega
      simp only [encS_getD _ k hk, encI_getD _ k hka, encI_getD _ k hkb, List.drop_zero, List.headD_cons, V.str]
      refine ⟨by omega, by omega, ?_⟩
      rw [ba_beq]
      refine iff_dec (fun h => ⟨ea, by omega, by omega, ea, by omega, eb, by omega, by omega, eb, by omega, ⟨trivial, trivial, trivial⟩, ?_⟩) (fun h => hK fun i hi hik => ?_)
      · refine hQ A[k] B[k] (hA.ba k hka) (hA.bb k hkb) fun hex => ?_
        rw [Tm.sub_var _ hv]
        exact hex _ ((Tm.vs_var hv).2 rfl) k hk hka hkb h
      · rcases Nat.lt_succ_iff_lt_or_eq.1 hik with h8 | h8
        · exact hJ i hi h8
        · subst h8; exact h
    · refine ⟨⟨trivial, trivial, trivial⟩, hQ 1 1 (by omega) (by omega) fun _ => ?_⟩
      have hb : boundS s t.name = false := boundS_false.2 fun y hy => by
        obtain ⟨i, hi, rfl⟩ := List.mem_iff_getElem.1 hy
        exact hJ i hi hi
      rw [Tm.sub_var _ hv, ht.fre _ (fnS_none.2 hb)]
      simp [Tm.vr, Tm.size, Tm.sizeL, Tm.depth, Tm.depthL, capS, capD]
  · have hl := Tm.encL_length t.args
    rw [hl] at hb ⊢
    have hs : (Tm.sub θ t).size = 1 + Tm.sizeL (t.args.map (Tm.sub θ)) := by rw [Tm.sub_fn _ hv, Tm.size_eq]; rfl
    have hdd : (Tm.sub θ t).depth = Tm.depthL (t.args.map (Tm.sub θ)) + 1 := by rw [Tm.sub_fn _ hv, Tm.depth_eq]; rfl
    refine range_r03_measure_1 Q _ _ _ _ _ hb (fun k y0 y1 h0 h1 => (0 ≤ y0 ∧ y0 ≤ 4001) ∧ (0 ≤ y1 ∧ y1 ≤ 201) ∧ h0 = encI A ∧ h1 = encI B ∧ ((∀ x ∈ Tm.vs t, Ex s θ A B x) → y0 = capS (1 + Tm.sizeL ((t.args.map (Tm.sub θ)).take k)) ∧ y1 = capD (Tm.depthL ((t.args.map (Tm.sub θ)).take k)))) (fun k y0 y1 h0 h1 hk hJ K hK => ?_) (fun y0 y1 h0 h1 hJ => ?_) 0 _ _ _ _ (Nat.zero_le _) ⟨by omega, by omega, rfl, rfl, fun _ => ⟨rfl, rfl⟩⟩
    · obtain ⟨b0, b1, rfl, rfl, hex⟩ := hJ
      simp only [Tm.encL_getD _ k hk, Tm.enc_eq, List.drop_zero, List.headD_cons, List.tail_cons]
      have hmem := List.getElem_mem hk
      have hk' : k < (t.args.map (Tm.sub θ)).length := by simpa using hk
      have h1 := Tm.sizeL_take _ k hk'
      have h3 := Tm.depthL_take _ k hk'
      rw [List.getElem_map] at h1 h3
      refine ⟨by omega, by omega, ih _ hmem _ fun p q hp hq he => ⟨rfl, rfl, hK _ _ _ _ ⟨?_, ?_, rfl, rfl, fun hx => ⟨?_, ?_⟩⟩⟩⟩
      · show 0 ≤ (if (4001 : Int) < IntKind.i64.wrap (y0 + p) then (4001 : Int) else IntKind.i64.wrap (y0 + p)) ∧ (if (4001 : Int) < IntKind.i64.wrap (y0 + p) then (4001 : Int) else IntKind.i64.wrap (y0 + p)) ≤ 4001
        rw [wrap_in _ (by omega) (by omega)]; split <;> omega
      · show 0 ≤ (if q > y1 then q else y1) ∧ (if q > y1 then q else y1) ≤ 201
        split <;> omega
      · obtain ⟨e1, e2⟩ := he fun x hx2 => hx x ((Tm.vs_fn hv).2 ⟨_, hmem, hx2⟩)
        obtain ⟨e3, e4⟩ := hex hx
        show (if (4001 : Int) < IntKind.i64.wrap (y0 + p) then (4001 : Int) else IntKind.i64.wrap (y0 + p)) = _
        rw [wrap_in _ (by omega) (by omega), e1, e3, capS_add, h1, Nat.add_assoc]
      · obtain ⟨e1, e2⟩ := he fun x hx2 => hx x ((Tm.vs_fn hv).2 ⟨_, hmem, hx2⟩)
        obtain ⟨e3, e4⟩ := hex hx
        show (if q > y1 then q else y1) = _
        rw [e2, e4, h3]
        unfold capD
        split <;> split <;> split <;> split <;> omega
    · obtain ⟨b0, b1, rfl, rfl, hex⟩ := hJ
      rw [List.take_of_length_le (by simp)] at hex
      refine ⟨⟨trivial, trivial, trivial⟩, ?_⟩
      rw [wrap_in _ (by split <;> omega) (by split <;> omega)]
      refine hQ y0 ((if (200 : Int) < y1 then (200 : Int) else y1) + 1) b0 (by split <;> omega) fun hx => ?_
      obtain ⟨e3, e4⟩ := hex hx
      rw [hs, hdd]
      refine ⟨e3, ?_⟩
      rw [e4]
      unfold capD
      split <;> split <;> split <;> omega
theorem r03_large_ok (s : Su) (hn : (suNames s).Nodup) (hlen : s.length ≤ lim) {θ : ByteArray → Tm} {r : ByteArray → Nat} (ht : Tri (fnS s) θ r) (hr : ∀ x, r x ≤ s.length) (hr1 : ∀ x, fnS s x ≠ none → 1 ≤ r x) {big' : Bool} (hb1 : big' = true ↔ ∃ x, fnS s x ≠ none ∧ ¬ fitsT (θ x)) : Fn f_r03_large [suD s] (bD big') := fun Q hQ => by
  refine C_r03_large _ _ ?_
  unfold vc_r03_large
  have hl := encS_length s
  have hlim : lim = 549755813888 := rfl
  rw [hl]
  refine ⟨by omega, rfl, by omega, by omega, rfl, by omega, fun hb => ?_⟩
  have hz : zeroRow [.int .i64] ((s.length : Int)).toNat = encI (List.replicate s.length 0) := by
    rw [Int.toNat_natCast]; simp [zeroRow, encI, zeroV]
  rw [hz, Int.toNat_natCast]
  have final : ∀ A B, ArrOk s A B → (∀ x, Ex s θ A B x) → ∃ m2, lp_r03_large_2 Q m2 s.length s.length (s.length : Int) 0 (encI A) (encI B) := fun A B hA hx => by
    have la := hA.la
    have lb := hA.lb
    have ea : (encI A).length = s.length := by rw [encI_length, la]
    have eb : (encI B).length = s.length := by rw [encI_length, lb]
    refine range_r03_large_2 Q _ _ _ _ _ hb (fun k => ∀ i (h : i < s.length), i < k → fitsT (θ (s[i]).1)) (fun k hk hJ K hK => ?_) (fun hJ => ?_) 0 (Nat.zero_le _) (fun i _ h => by omega)
    · have hka : k < A.length := by omega
      have hkb : k < B.length := by omega
      obtain ⟨e1, e2⟩ := hx (s[k]).1 k hk hka hkb rfl
      simp only [encI_getD _ k hka, encI_getD _ k hkb, List.drop_zero, List.headD_cons, V.int]
      have bad : ¬ fitsT (θ (s[k]).1) → Q (bD true) [] := fun h => by
        have : big' = true := hb1.2 ⟨(s[k]).1, bound_at.2 ⟨k, hk, rfl⟩, h⟩
        rw [this] at hQ; exact hQ
      refine ⟨ea, by omega, by omega, ea, hk, iff_dec (fun h => ⟨trivial, bad fun hf => ?_⟩) (fun h => ⟨eb, by omega, by omega, eb, hk, iff_dec (fun h2 => ⟨trivial, bad fun hf => ?_⟩) (fun h2 => hK fun i hi hik => ?_)⟩)⟩
      · rw [e1] at h
        have := hf.1
        unfold capS at h
        split at h <;> omega
      · rw [e2] at h2
        have := hf.2
        unfold capD at h2
        split at h2 <;> omega
      · rcases Nat.lt_succ_iff_lt_or_eq.1 hik with h8 | h8
        · exact hJ i hi h8
        · subst h8
          rw [e1] at h
          rw [e2] at h2
          unfold capS at h
          unfold capD at h2
          refine ⟨?_, ?_⟩
          · split at h <;> omega
          · split at h2 <;> omega
    · have : big' = false := by
        rw [← Bool.not_eq_true, hb1]
        rintro ⟨x, h1, h2⟩
        obtain ⟨j, hj, rfl⟩ := bound_at.1 h1
        exact h2 (hJ j hj hj)
      rw [this] at hQ
      exact ⟨trivial, hQ⟩
  refine rule_r03_large_0 Q (fun x0 x3n x4n x15 x16 y10 y13 => x0 = encS s ∧ x3n = s.length ∧ x4n = s.length ∧ x15 = (s.length : Int) ∧ ∃ k : Nat, x16 = k ∧ k ≤ s.length ∧ ∃ A B, y10 = encI A ∧ y13 = encI B ∧ ArrOk s A B ∧ ∀ x, fnS s x ≠ none → r x ≤ k → Ex s θ A B x) (fun _ _ _ _ x16 _ _ => s.length - x16.toNat) ?_ _ _ _ _ _ _ _ ⟨rfl, rfl, rfl, rfl, 0, rfl, Nat.zero_le _, _, _, rfl, rfl, ⟨by simp, by simp, fun i h => by simp, fun i h => by simp⟩, fun x hx hr0 => ?_⟩
  · rintro x0 x3n x4n x15 x16 y10 y13 ⟨rfl, rfl, rfl, rfl, k, rfl, hk, A, B, rfl, rfl, hA, hx⟩ m0 ih
    unfold st_r03_large_0
    rw [hl]
    refine iff_dec (fun h => fun _ => ?_) (fun h => fun _ => ?_)
    · refine range_r03_large_1 Q _ _ _ _ _ _ _ _ hb (fun i y10 y13 => ∃ A B, y10 = encI A ∧ y13 = encI B ∧ ArrOk s A B ∧ (∀ x, fnS s x ≠ none → r x ≤ k → Ex s θ A B x) ∧ ∀ j (hj : j < s.length), j < i → r (s[j]).1 ≤ k + 1 → Ex s θ A B (s[j]).1) (fun i y10 y13 hi hJ K hK => ?_) (fun y10 y13 hJ => ?_) 0 _ _ (Nat.zero_le _) ⟨A, B, rfl, rfl, hA, hx, fun j _ h => by omega⟩
      · obtain ⟨A, B, rfl, rfl, hA, hx, hj⟩ := hJ
        have la := hA.la
        have lb := hA.lb
        have ea : (encI A).length = s.length := by rw [encI_length, la]
        have eb : (encI B).length = s.length := by rw [encI_length, lb]
        have hia : i < A.length := by omega
        have hib : i < B.length := by omega
        simp only [encS_getD _ i hi, Tm.enc_eq, List.drop_zero, List.headD_cons, List.tail_cons]
        refine ⟨by omega, by omega, r03_measure_ok s ht A B hA (s[i]).2 _ fun p q hp hq he => ⟨rfl, rfl, ea, by omega, by omega, ea, hi, eb, by omega, by omega, eb, hi, ?_⟩⟩
        show K ((encI A).set i (setV ((encI A).getD i []) 0 [V.i p])) ((encI B).set i (setV ((encI B).getD i []) 0 [V.i q]))
        rw [encI_set A i hia, encI_set B i hib]
        have hbi : fnS s (s[i]).1 = some (s[i]).2 := by
          have hb := boundS_iff.2 ⟨_, List.getElem_mem hi, rfl⟩
          rw [fnS_of hb]
          obtain ⟨y, hy, e1, e2⟩ := image_bound hb
          obtain ⟨j, hj', rfl⟩ := List.mem_iff_getElem.1 hy
          have := names_inj hn j i hj' hi e1
          subst this
          rw [e2]
        have exact1 : r (s[i]).1 ≤ k + 1 → p = capS (θ (s[i]).1).size ∧ q = capD (θ (s[i]).1).depth := fun hri => by
          rw [ht.bnd _ _ hbi]
          refine he fun x hxv => ?_
          have := ht.rk _ _ hbi x hxv
          by_cases hxn : fnS s x = none
          · intro j hj' _ _ e
            have : fnS s x ≠ none := bound_at.2 ⟨j, hj', e⟩
            exact absurd hxn this
          · exact hx x hxn (by omega)
        have upd : ∀ x, (x = (s[i]).1 → r x ≤ k + 1) → (x ≠ (s[i]).1 → Ex s θ A B x) → Ex s θ (A.set i p) (B.set i q) x := fun x h1 h2 j hj' ha' hb' e => by
          by_cases hji : j = i
          · subst hji
            obtain ⟨e1, e2⟩ := exact1 (e ▸ h1 e.symm)
            rw [List.getElem_set_self, List.getElem_set_self, ← e]
            exact ⟨e1, e2⟩
          · have hxi : x ≠ (s[i]).1 := fun e2 => hji (names_inj hn j i hj' hi (e.trans e2))
            rw [List.getElem_set_ne (fun e => hji e.symm), List.getElem_set_ne (fun e => hji e.symm)]
            exact h2 hxi j hj' (by simpa using ha') (by simpa using hb') e
        refine hK _ _ ⟨_, _, rfl, rfl, ⟨by simp [la], by simp [lb], fun j hj' => ?_, fun j hj' => ?_⟩, fun x hxn hrx => upd x (fun _ => by omega) fun _ => hx x hxn hrx, fun j hj' hji hrj => upd _ (fun _ => hrj) fun hne => ?_⟩
        · rw [List.getElem_set]; split
          · exact hp
          · exact hA.ba j (by simpa using hj')
        · rw [List.getElem_set]; split
          · exact hq
          · exact hA.bb j (by simpa using hj')
        · rcases Nat.lt_succ_iff_lt_or_eq.1 hji with h8 | h8
          · exact hj j hj' h8 hrj
          · subst h8; exact absurd rfl hne
      · obtain ⟨A, B, rfl, rfl, hA, hx, hj⟩ := hJ
        rw [wrap_in _ (by omega) (by omega)]
        refine ih _ _ _ _ _ _ _ ⟨rfl, rfl, rfl, rfl, k + 1, by omega, by omega, A, B, rfl, rfl, hA, fun x hxn hrx => ?_⟩ (by omega)
        obtain ⟨j, hj', rfl⟩ := bound_at.1 hxn
        exact hj j hj' hj' hrx
    · have hkn : k = s.length := by omega
      refine final A B hA fun x i hi ha hb e => ?_
      exact hx x (bound_at.2 ⟨i, hi, e⟩) (by rw [hkn]; exact hr x) i hi ha hb e
  · have := hr1 x hx
    omega
end Go.Proofs.Ytgohjdaepcmonaa
set_option linter.unusedVariables false
set_option linter.unusedSimpArgs false
namespace Go.Proofs.Ytgohjdaepcmonaa
open Go.Abs
theorem formed_args {t : Tm} (h : t.formed = true) : ∀ a ∈ t.args, a.formed = true := fun a ha => by
  rw [Tm.formed_eq] at h
  split at h
  · rw [Bool.and_eq_true, List.isEmpty_iff] at h
    rw [h.2] at ha; simp at ha
  · rw [Bool.and_eq_true] at h
    exact List.all_eq_true.1 h.2 a ha
theorem formed_var {t : Tm} (h : t.formed = true) (hv : t.var = true) : t = Tm.vr t.name := by
  rw [Tm.formed_eq, if_pos hv, Bool.and_eq_true, List.isEmpty_iff] at h
  exact Tm.ext rfl hv h.2
theorem r03_resolve_ok (s : Su) {θ : ByteArray → Tm} {r : ByteArray → Nat} (ht : Tri (fnS s) θ r) (hσ : ∀ x t, fnS s x = some t → t.formed = true ∧ t.size ≤ lim) : ∀ (n : Nat) (t : Tm), (Tm.sub θ t).size ≤ n → t.formed = true → t.size ≤ lim → Fn f_r03_resolve [suD s, tD t] (tD (Tm.sub θ t)) := by
  intro n
  induction n with
  | zero => intro t h; have := Tm.size_pos (Tm.sub θ t); omega
  | succ n ih =>
    intro t hn hf hs Q hQ
    obtain ⟨h, hh⟩ := Head.ex ht t
    have hP : h.formed = true ∧ h.size ≤ lim := hh.term (P := fun t => t.formed = true ∧ t.size ≤ lim) hσ ⟨hf, hs⟩
    rw [hh.sub ht.resp] at hn hQ
    refine C_r03_resolve _ _ _ _ _ ?_
    unfold vc_r03_resolve
    refine r03_walk_ok s hh _ ⟨rfl, rfl, iff_intro (fun hv => ⟨⟨trivial, trivial, trivial, trivial⟩, ?_⟩) (fun hv => ?_)⟩
    · have hv : h.var = true := hv
      rw [Tm.sub_var _ hv, ht.fre _ (hh.end_ hv), ← formed_var hP.1 hv] at hQ
      exact hQ
    · have hv : h.var = false := hv
      have e : Tm.sub θ h = .mk h.name false (h.args.map (Tm.sub θ)) := Tm.sub_fn _ hv
      rw [e] at hQ
      have hsz := Tm.size_eq h
      have hls := Tm.length_sizeL h.args
      show (V.l (Tm.encL h.args)).list.length ≤ big → ∃ m0, lp_r03_resolve_0 Q m0 (encS s) (V.l (Tm.encL h.args)) ((V.l (Tm.encL h.args)).list.length : Int) 0 (ByteArray.mk #[]) false (V.s h.name) false 0 []
      rw [list_l, Tm.encL_length]
      intro hb
      refine range_r03_resolve_0 Q _ _ _ _ _ _ _ hb (fun k n y => n = k ∧ y = Tm.encL ((h.args.take k).map (Tm.sub θ))) (fun k m y hk hJ K hK => ?_) (fun m y hJ => ?_) 0 0 _ (Nat.zero_le _) ⟨rfl, rfl⟩
      · obtain ⟨rfl, rfl⟩ := hJ
        simp only [list_l, Tm.encL_length, Tm.encL_getD _ m hk, Tm.enc_eq, List.drop_zero, List.headD_cons, List.tail_cons]
        have hmem := List.getElem_mem hk
        have h1 := Tm.size_mem (t := Tm.sub θ h) (a := Tm.sub θ h.args[m]) (by rw [e]; exact List.mem_map.2 ⟨_, hmem, rfl⟩)
        have h2 := Tm.size_mem hmem
        refine ⟨by omega, by omega, tD (Tm.sub θ h.args[m]), (ih _ (by omega) (formed_args hP.1 _ hmem) (by omega)).here rfl, ?_, ?_, hK _ _ ⟨rfl, ?_⟩⟩
        · simp only [List.length_map, List.length_take]; omega
        · show m + 1 ≤ lim; omega
        · rw [List.take_succ_eq_append_getElem hk, List.map_append, Tm.encL_eq, Tm.encL_eq, List.map_append]
          congr 1
          simp only [List.map_cons, List.map_nil]
          rw [Tm.enc_eq]
          rfl
      · obtain ⟨rfl, rfl⟩ := hJ
        rw [List.take_length]
        refine ⟨⟨trivial, trivial, ?_, trivial⟩, hQ⟩
        rw [Tm.encL_length, List.length_map]
def RuForm (l : Ru) : Prop := ∀ x ∈ l, x.1.formed = true ∧ x.2.formed = true
theorem r03_end (s : Su) (hso : SortS s) (hlen : s.length + 1 ≤ lim) {θ : ByteArray → Tm} {r : ByteArray → Nat} (ht : Tri (fnS s) θ r) (hσ : ∀ x t, fnS s x = some t → t.formed = true ∧ t.size ≤ lim) (n : Nat) (y56 : List (List V)) (Q : D → Heap → Prop)
    (hlarge : (∃ x, fnS s x ≠ none ∧ ¬ fitsT (θ x)) → Q (.tup [.nil, bD false, iD 3]) []) (hyes : (∀ x, fnS s x ≠ none → fitsT (θ x)) → ∀ out, UnOk (fnS s) θ out → Q (.tup [suD out, bD true, iD 0]) []) :
    cl f_r03_large [suD s] [] fun r3 H4 => r3 = (.v .bool (r3.V)) ∧ H4 = [] ∧ iff r3.V.bool ((True ∧ True ∧ True ∧ True) ∧ Q (.tup [.nil, .v .bool (V.b false), .v (.int .i64) (V.i 3)]) []) ((V.l (encS s)).list.length ≤ big → ∃ m1, lp_r03_UnifyAll_1 Q m1 0 (V.l (encS s)) ((V.l (encS s)).list.length : Int) 0 (V.l (encS s)) n y56 []) := by
  have hnames : (suNames s).Nodup := by
    have key : ∀ s : Su, SortS s → (suNames s).Nodup := fun s => by
      induction s with
      | nil => intro _; exact List.nodup_nil
      | cons x s ih =>
        intro h
        show (x.1 :: suNames s).Nodup
        rw [List.nodup_cons]
        refine ⟨fun hin => ?_, ih h.2⟩
        obtain ⟨y, hy, e⟩ := List.mem_map.1 hin
        have := h.1 y hy
        rw [e, cmpN_self] at this; omega
    exact key s hso
  obtain ⟨r', ht', hr1, hr2⟩ := ht.comp (suNames s) fun x hx => by
    obtain ⟨j, hj, rfl⟩ := bound_at.1 hx
    exact List.mem_map.2 ⟨_, List.getElem_mem hj, rfl⟩
  have hr1 : ∀ x, r' x ≤ s.length := fun x => by have := hr1 x; simpa [suNames] using this
  have out : UnOk (fnS s) θ (s.map fun y => (y.1, Tm.sub θ y.2)) := by
    have hb : ∀ y ∈ s, fnS s y.1 = some y.2 := fun y hy => by
      rw [fnS_of (boundS_iff.2 ⟨y, hy, rfl⟩), image_sort hso hy]
    refine ⟨?_, fun y => ?_⟩
    · have key : ∀ s : Su, SortS s → SortS (s.map fun y => (y.1, Tm.sub θ y.2)) := fun s => by
        induction s with
        | nil => intro _; trivial
        | cons x s ih =>
          intro h
          refine ⟨fun y hy => ?_, ih h.2⟩
          obtain ⟨z, hz, rfl⟩ := List.mem_map.1 hy
          exact h.1 z hz
      exact key s hso
    · constructor
      · intro hy
        obtain ⟨z, hz, rfl⟩ := List.mem_map.1 hy
        have := hb z hz
        exact ⟨by show fnS s z.1 ≠ none; rw [this]; simp, (ht.bnd _ _ this).symm⟩
      · rintro ⟨h1, h2⟩
        obtain ⟨j, hj, e⟩ := bound_at.1 h1
        have := hb _ (List.getElem_mem hj)
        refine List.mem_map.2 ⟨s[j], List.getElem_mem hj, Prod.ext e ?_⟩
        rw [h2, ← e]; exact (ht.bnd _ _ this).symm
  by_cases hbig : ∃ x, fnS s x ≠ none ∧ ¬ fitsT (θ x)
  · exact r03_large_ok s hnames (by omega) ht' hr1 hr2 (big' := true) ⟨fun _ => hbig, fun _ => rfl⟩ _ ⟨rfl, rfl, ⟨trivial, trivial, trivial, trivial⟩, hlarge hbig⟩
  · refine r03_large_ok s hnames (by omega) ht' hr1 hr2 (big' := false) ⟨fun h => (by cases h), fun h => absurd h hbig⟩ _ ⟨rfl, rfl, ?_⟩
    show (V.l (encS s)).list.length ≤ big → _
    rw [list_l, encS_length]
    intro hb
    have hQ := hyes (fun x h1 => Classical.byContradiction fun h2 => hbig ⟨x, h1, h2⟩) _ out
    refine range_r03_UnifyAll_1 Q _ _ _ _ _ hb (fun k n y => n = k ∧ y = encS ((s.take k).map fun y => (y.1, Tm.sub θ y.2))) (fun k m y hk hJ K hK => ?_) (fun m y hJ => ?_) 0 0 _ (Nat.zero_le _) ⟨rfl, rfl⟩
    · obtain ⟨rfl, rfl⟩ := hJ
      have hbk : fnS s (s[m]).1 = some (s[m]).2 := by rw [fnS_of (boundS_iff.2 ⟨_, List.getElem_mem hk, rfl⟩), image_sort hso (List.getElem_mem hk)]
      obtain ⟨f1, f2⟩ := hσ _ _ hbk
      simp only [list_l, encS_length, encS_getD _ m hk, Tm.enc_eq, List.drop_zero, List.headD_cons, List.tail_cons]
      refine ⟨by omega, by omega, tD (Tm.sub θ (s[m]).2), (r03_resolve_ok s ht hσ _ _ (Nat.le_refl _) f1 f2).here rfl, ?_, ?_, hK _ _ ⟨rfl, ?_⟩⟩
      · simp only [List.length_map, List.length_take]; omega
      · show m + 1 ≤ lim; omega
      · rw [List.take_succ_eq_append_getElem hk]
        simp only [encS, encB, List.map_append, List.map_cons, List.map_nil, Tm.enc_eq]
        rfl
    · obtain ⟨rfl, rfl⟩ := hJ
      rw [List.take_length]
      refine ⟨⟨?_, trivial, trivial, trivial⟩, hQ⟩
      rw [encS_length, List.length_map]
theorem r03_UnifyAll_ok (l : Ru) (hl : RuOk l) (hf : RuForm l) {res : Su × Bool × Int} (h : UnRes l res) : Fn f_r03_UnifyAll [ruD l] (.tup [suD res.1, bD res.2.1, iD res.2.2]) := Fn.as fun Q hQ => by
  refine C_r03_UnifyAll _ _ fun hb => ?_
  have hlen := encRs_length l
  have hlim : lim = 549755813888 := rfl
  have hul := hl.uni_len
  rw [hlen] at hb ⊢
  let post : Bool → Su → Prs → Prop := fun ok s l' => match ok with
    | true => cl f_r03_large [suD s] [] fun r3 H4 => r3 = (.v .bool (r3.V)) ∧ H4 = [] ∧ iff r3.V.bool ((True ∧ True ∧ True ∧ True) ∧ Q (.tup [.nil, .v .bool (V.b false), .v (.int .i64) (V.i 3)]) []) ((V.l (encS s)).list.length ≤ big → ∃ m1, lp_r03_UnifyAll_1 Q m1 0 (V.l (encS s)) ((V.l (encS s)).list.length : Int) 0 (V.l (encS s)) l'.length (encQ l') [])
    | false => Q (.tup [.nil, .v .bool (V.b false), .v (.int .i64) (V.i 0)]) []
  have hrun : RunR (lefts l) (rights l) [] [] post := by
    have start : ∀ {o : Option Bd}, Sl (fun _ => none) (lefts l) (rights l) o → (∀ σ', o = some σ' → ∀ s' l', fnS s' = σ' → RInv (uni l) s' l' → post true s' l') → (o = none → ∀ s' l', post false s' l') → RunR (lefts l) (rights l) [] [] post := fun ho h1 h2 =>
      refRun (uni l) (by omega) (by have := Nat.mul_le_mul hul hul; omega) ho [] [] fnS_nil ⟨_, _, Tri.empty⟩ ⟨by rw [fnS_nil]; exact inU_none _, by unfold CntOk unb; simp only [List.length_nil, Nat.zero_add]; exact List.length_filter_le _ _, ⟨List.nodup_nil, fun p hp => by simp at hp, fun p hp => by simp at hp⟩, trivial⟩
        (uni_left l) (uni_right l) post (fun σ' e s' l' e' hi _ => h1 σ' e s' l' e' hi) h2
    have fin : ∀ (σ : Bd) (θ : ByteArray → Tm) (r : ByteArray → Nat), Sl (fun _ => none) (lefts l) (rights l) (some σ) → Tri σ θ r → ∀ s' l', fnS s' = σ → RInv (uni l) s' l' →
        ((∃ x, σ x ≠ none ∧ ¬ fitsT (θ x)) → Q (.tup [.nil, bD false, iD 3]) []) → ((∀ x, σ x ≠ none → fitsT (θ x)) → ∀ out, UnOk σ θ out → Q (.tup [suD out, bD true, iD 0]) []) → post true s' l' := fun σ θ r ho ht s' l' e hi h1 h2 => by
      subst e
      have hc := hi.cnt
      unfold CntOk at hc
      refine r03_end s' hi.so (by omega) ht (ho.terms (P := fun t => t.formed = true ∧ t.size ≤ lim) (fun t ht a ha => ⟨formed_args ht.1 a ha, by have := Tm.size_mem ha; omega⟩) _ rfl (fun x t h => by cases h) (fun t ht => ?_) (fun t ht => ?_)) _ _ Q h1 h2
      · obtain ⟨x, hx, rfl⟩ := List.mem_map.1 ht
        have := (hl.sz x hx).1
        exact ⟨(hf x hx).1, by omega⟩
      · obtain ⟨x, hx, rfl⟩ := List.mem_map.1 ht
        have := (hl.sz x hx).2
        exact ⟨(hf x hx).2, by omega⟩
    cases h with
    | no ho => exact start ho (fun σ' e => by cases e) (fun _ m' l' => nil3 hQ rfl)
    | large σ θ r ho ht hx => exact start ho (fun σ' e m' l' e' hi => by cases e; exact fin σ θ r ho ht m' l' e' hi (fun _ => nil3 hQ rfl) (fun hall => by obtain ⟨x, h1, h2⟩ := hx; exact absurd (hall x h1) h2)) (fun e => by cases e)
    | yes σ θ r out ho ht hall hout => exact start ho (fun σ' e m' l' e' hi => by cases e; exact fin σ θ r ho ht m' l' e' hi (fun ⟨x, h1, h2⟩ => absurd (hall x h1) h2) (fun _ out' hout' => by rw [hout'.uniq hout]; exact hQ _ (.refl _))) (fun e => by cases e)
  refine range_r03_UnifyAll_0 Q _ _ hb (fun k h0 n h1 => ∃ s l', h0 = .l (encS s) ∧ n = l'.length ∧ h1 = encQ l' ∧ RunR ((lefts l).drop k) ((rights l).drop k) s l' post) (fun k h0 n h1 hk hJ K hK => ?_) (fun h0 n h1 hJ => ?_) 0 _ _ _ (Nat.zero_le _) ⟨[], [], rfl, rfl, rfl, hrun⟩
  · obtain ⟨m, l', rfl, rfl, rfl, hr⟩ := hJ
    have hk1 : k < (lefts l).length := by simpa [lefts] using hk
    have hk2 : k < (rights l).length := by simpa [rights] using hk
    have e1 : (lefts l)[k] = (l[k]).1 := by simp [lefts]
    have e2 : (rights l)[k] = (l[k]).2 := by simp [rights]
    rw [List.drop_eq_getElem_cons hk1, List.drop_eq_getElem_cons hk2, e1, e2] at hr
    unfold RunR at hr
    simp only [encRs_row _ k hk, List.drop_zero, List.headD_cons, List.tail_cons]
    refine ⟨by omega, by omega, hr.mono ?_⟩
    rintro r1 H' ⟨m2, l2, rfl, ⟨rfl, hr2⟩ | ⟨rfl, hf⟩⟩
    · exact ⟨rfl, rfl, iff_intro (fun h => by cases h) fun _ => hK _ _ _ ⟨m2, l2, rfl, rfl, rfl, hr2⟩⟩
    · exact ⟨rfl, rfl, iff_intro (fun _ => ⟨⟨trivial, trivial, trivial, trivial⟩, hf⟩) fun h => by cases h⟩
  · obtain ⟨m, l', rfl, rfl, rfl, hr⟩ := hJ
    have e1 : (lefts l).drop l.length = [] := List.drop_eq_nil_of_le (by simp [lefts])
    rw [e1] at hr
    exact hr
end Go.Proofs.Ytgohjdaepcmonaa
set_option linter.unusedVariables false
set_option linter.unusedSimpArgs false
namespace Go.Proofs.Ytgohjdaepcmonaa
open Go.Abs
theorem l03_variable_ok (s : ByteArray) : Fn f_l03_variable [sD s] (tD (Tm.vr s)) := Fn.as fun Q hQ => by
  refine C_l03_variable _ _ ?_
  exact ⟨⟨trivial, trivial, trivial, trivial⟩, hQ _ (.last3 _ _ _)⟩
theorem l03_symbol_ok (s : ByteArray) (l : List Tm) : Fn f_l03_symbol [sD s, tsD l] (tD (.mk s false l)) := fun Q hQ => by
  refine C_l03_symbol _ _ _ ?_
  exact ⟨⟨trivial, trivial, trivial, trivial⟩, hQ⟩
noncomputable def isB (s : Su) (ok : Bool) (e : Int) (want : Su) (found : Bool) (bad : Int) : Bool :=
  if bad ≠ 0 ∨ found = false then !ok && decide (e = bad) && decide (s.length = 0) else ok && decide (e = 0) && sameS s want
theorem l03_is_ok (s : Su) (ok : Bool) (e : Int) (want : Su) (found : Bool) (bad : Int) : Fn f_l03_is [suD s, bD ok, iD e, suD want, bD found, iD bad] (bD (isB s ok e want found bad)) := fun Q hQ => by
  refine C_l03_is _ _ _ _ _ _ _ ?_
  unfold vc_l03_is
  unfold isB at hQ
  have one : (bad ≠ 0 ∨ found = false) → jp_l03_is_0 Q (encS s) ok e (encS want) bad true := fun h => by
    rw [if_pos h] at hQ
    rw [jp_l03_is_0_s]
    unfold je_l03_is_0
    refine iff_intro (fun _ => ?_) (fun h => by cases h)
    refine iff_not (iff_intro (fun h1 => ⟨trivial, by rw [h1] at hQ; exact hQ⟩) (fun h1 => ?_))
    rw [h1] at hQ
    refine iff_beq (fun h2 hb => ⟨trivial, ?_⟩) (fun h2 => ⟨trivial, ?_⟩)
    · rw [decide_eq_true h2] at hQ
      have e1 : (((encS s).length : Int) == 0) = decide (s.length = 0) := by
        rw [encS_length, Bool.eq_iff_iff, beq_iff_eq, decide_eq_true_iff]; omega
      rw [e1]; exact hQ
    · rw [decide_eq_false h2] at hQ; exact hQ
  have two : ¬ (bad ≠ 0 ∨ found = false) → jp_l03_is_0 Q (encS s) ok e (encS want) bad false := fun h => by
    rw [if_neg h] at hQ
    rw [jp_l03_is_0_s]
    unfold je_l03_is_0
    refine iff_intro (fun h => by cases h) fun _ => iff_intro (fun h1 => ?_) (fun h1 => ⟨trivial, by rw [h1] at hQ; exact hQ⟩)
    rw [h1] at hQ
    refine iff_beq (fun h2 => r01_SameSubst_ok s want _ ⟨rfl, rfl, trivial, ?_⟩) (fun h2 => ⟨trivial, ?_⟩)
    · rw [decide_eq_true h2] at hQ; exact hQ
    · rw [decide_eq_false h2] at hQ; exact hQ
  refine iff_bne (fun h => one (.inl h)) (fun h => ?_)
  cases hf : found with
  | true => exact two (by rw [hf]; simp [h])
  | false => exact one (.inr hf)
end Go.Proofs.Ytgohjdaepcmonaa
set_option linter.unusedVariables false
set_option linter.unusedSimpArgs false
namespace Go.Proofs.Ytgohjdaepcmonaa
open Go.Abs
namespace Ex
abbrev nx : ByteArray := ByteArray.mk #[120]
abbrev ny : ByteArray := ByteArray.mk #[121]
abbrev nz : ByteArray := ByteArray.mk #[122]
abbrev nf : ByteArray := ByteArray.mk #[102]
abbrev ng : ByteArray := ByteArray.mk #[103]
abbrev na : ByteArray := ByteArray.mk #[97]
abbrev nb : ByteArray := ByteArray.mk #[98]
abbrev gz : Tm := .mk ng false [Tm.vr nz]
abbrev gy : Tm := .mk ng false [Tm.vr ny]
abbrev ta : Tm := .mk nf false [Tm.vr nx, gy]
abbrev tb : Tm := .mk nf false [gz, Tm.vr nx]
abbrev s1 : Bd := updB (fun _ => none) nx gz
abbrev s2 : Bd := updB s1 ny (Tm.vr nz)
def th : ByteArray → Tm := fun v => if v = nx then gz else if v = ny then Tm.vr nz else Tm.vr v
def rk : ByteArray → Nat := fun v => if v = nx then 1 else if v = ny then 1 else 0
theorem xy : nx ≠ ny := by decide
theorem xz : nx ≠ nz := by decide
theorem yz : ny ≠ nz := by decide
theorem sl : Sl (fun _ => none) [ta] [tb] (some s2) := by
  refine .args _ s2 ta tb ta tb [] [] _ (.fn _ rfl) (.fn _ rfl) rfl rfl rfl rfl ?_ (.nil _)
  refine .setA _ (Tm.vr nx) gz (Tm.vr nx) gz _ _ _ (.free _ rfl rfl) (.fn _ rfl) rfl (fun h => by cases h.1) (fun h => ?_) ?_
  · cases h with
    | here _ h => simp [Tm.vs, Tm.vsL, Tm.name] at h
    | step _ u x _ h => cases h
  refine .args _ s2 gy (Tm.vr nx) gy gz [] [] _ (.fn _ rfl) (.step _ gz gz rfl (updB_self _ _ _) (.fn _ rfl)) rfl rfl rfl rfl ?_ (.nil _)
  refine .setA _ (Tm.vr ny) (Tm.vr nz) (Tm.vr ny) (Tm.vr nz) [] [] _ (.free _ rfl (updB_ne _ _ xy.symm)) (.free _ rfl (updB_ne _ _ xz.symm)) rfl (fun h => yz h.2) (fun h => ?_) (.nil _)
  cases h with
  | here _ h => exact yz ((Tm.vs_var (t := Tm.vr nz) rfl).1 h)
  | step _ u x hx h =>
    have e := (Tm.vs_var (t := Tm.vr nz) rfl).1 hx
    rw [e] at h
    have h2 : s1 nz = none := updB_ne _ _ xz.symm
    rw [show (Tm.vr nz).name = nz from rfl] at h
    rw [show updB (fun _ => none) (Tm.vr nx).name gz nz = none from h2] at h
    cases h
theorem s2_x : s2 nx = some gz := (updB_ne _ _ xy).trans (updB_self _ _ _)
theorem s2_y : s2 ny = some (Tm.vr nz) := updB_self _ _ _
theorem s2_o {v : ByteArray} (h1 : v ≠ nx) (h2 : v ≠ ny) : s2 v = none := (updB_ne _ _ h2).trans (updB_ne _ _ h1)
theorem s2_cases {v : ByteArray} {t : Tm} (h : s2 v = some t) : (v = nx ∧ t = gz) ∨ (v = ny ∧ t = Tm.vr nz) := by
  by_cases h1 : v = nx
  · subst h1; rw [s2_x] at h; cases h; exact .inl ⟨rfl, rfl⟩
  · by_cases h2 : v = ny
    · subst h2; rw [s2_y] at h; cases h; exact .inr ⟨rfl, rfl⟩
    · rw [s2_o h1 h2] at h; cases h
theorem th_x : th nx = gz := by simp [th]
theorem th_y : th ny = Tm.vr nz := by rw [th, if_neg xy.symm, if_pos rfl]
theorem th_z : th nz = Tm.vr nz := by rw [th, if_neg xz.symm, if_neg yz.symm]
theorem rk_z : rk nz = 0 := by rw [rk, if_neg xz.symm, if_neg yz.symm]
theorem tri : Tri s2 th rk where
  bnd := fun v t h => by
    rcases s2_cases h with ⟨rfl, rfl⟩ | ⟨rfl, rfl⟩
    · rw [th_x, Tm.sub_fn _ rfl]; show gz = Tm.mk ng false [Tm.sub th (Tm.vr nz)]
      rw [Tm.sub_var _ rfl]; show gz = Tm.mk ng false [th nz]; rw [th_z]
    · rw [th_y, Tm.sub_var _ rfl]; exact th_z.symm
  fre := fun v h => by
    by_cases h1 : v = nx
    · subst h1; rw [s2_x] at h; cases h
    · by_cases h2 : v = ny
      · subst h2; rw [s2_y] at h; cases h
      · rw [th, if_neg h1, if_neg h2]
  rk := fun v t h w hw => by
    rcases s2_cases h with ⟨rfl, rfl⟩ | ⟨rfl, rfl⟩
    · have e : w = nz := by simpa [Tm.vs, Tm.vsL] using hw
      rw [e, rk_z]; simp [rk]
    · have e : w = nz := by simpa [Tm.vs, Tm.vsL] using hw
      rw [e, rk_z]; rw [rk, if_neg xy.symm, if_pos rfl]; exact Nat.one_pos
abbrev out : Su := [(nx, gz), (ny, Tm.vr nz)]
theorem ok : UnOk s2 th out where
  sort := ⟨fun y hy => by rw [List.mem_singleton.1 hy]; rfl, fun y hy => (by simp at hy), trivial⟩
  mem := fun y => by
    obtain ⟨v, t⟩ := y
    constructor
    · intro h
      rcases List.mem_cons.1 h with h | h
      · cases h; exact ⟨by rw [s2_x]; simp, th_x.symm⟩
      · cases List.mem_singleton.1 h; exact ⟨by rw [s2_y]; simp, th_y.symm⟩
    · rintro ⟨h1, h2⟩
      cases hs : s2 v with
      | none => exact absurd hs h1
      | some u =>
        simp only at h2
        rcases s2_cases hs with ⟨rfl, rfl⟩ | ⟨rfl, rfl⟩
        · rw [h2, th_x]; simp
        · rw [h2, th_y]; simp
theorem fits (x : ByteArray) (h : s2 x ≠ none) : fitsT (th x) := by
  cases hs : s2 x with
  | none => exact absurd hs h
  | some u =>
    rcases s2_cases hs with ⟨rfl, rfl⟩ | ⟨rfl, rfl⟩
    · rw [th_x]; exact ⟨by decide, by decide⟩
    · rw [th_y]; exact ⟨by decide, by decide⟩
end Ex
theorem ex_rules : rules [(Ex.ta, Ex.tb)] = 0 := by rw [rules_one]; rfl
theorem ex_un : UnAll [(Ex.ta, Ex.tb)] (Ex.out, true, 0) := .inr ⟨ex_rules, .yes _ _ _ _ Ex.sl Ex.tri Ex.fits Ex.ok⟩
theorem ex_match : matchR (.mk Ex.nf false [Tm.vr Ex.nx, Tm.vr Ex.nx]) (.mk Ex.nf false [.mk Ex.na false [], .mk Ex.nb false []]) = ([], false, 0) := by
  unfold matchR
  rfl
theorem l03_alive_ok : Fn f_l03_alive [] (bD true) := fun Q hQ => by
  refine C_l03_alive _ ?_
  unfold vc_l03_alive
  refine l03_variable_ok _ _ ⟨rfl, rfl, ?_⟩
  refine l03_variable_ok _ _ ⟨rfl, rfl, ?_⟩
  refine l03_symbol_ok Ex.ng [Tm.vr Ex.ny] _ ⟨rfl, rfl, ?_⟩
  refine l03_symbol_ok Ex.nf [Tm.vr Ex.nx, Ex.gy] _ ⟨rfl, rfl, ?_⟩
  refine l03_variable_ok _ _ ⟨rfl, rfl, ?_⟩
  refine l03_symbol_ok Ex.ng [Tm.vr Ex.nz] _ ⟨rfl, rfl, ?_⟩
  refine l03_variable_ok _ _ ⟨rfl, rfl, ?_⟩
  refine l03_symbol_ok Ex.nf [Ex.gz, Tm.vr Ex.nx] _ ⟨rfl, rfl, ?_⟩
  refine unify_Unify_ok Ex.ta Ex.tb (by decide) (by decide) ex_un _ ⟨rfl, rfl, ?_⟩
  refine l03_variable_ok _ _ ⟨rfl, rfl, ?_⟩
  refine l03_symbol_ok Ex.ng [Tm.vr Ex.nz] _ ⟨rfl, rfl, ?_⟩
  refine l03_variable_ok _ _ ⟨rfl, rfl, ?_⟩
  refine l03_variable_ok _ _ ⟨rfl, rfl, ?_⟩
  refine l03_variable_ok _ _ ⟨rfl, rfl, ?_⟩
  refine l03_symbol_ok Ex.nf [Tm.vr Ex.nx, Tm.vr Ex.nx] _ ⟨rfl, rfl, ?_⟩
  refine l03_symbol_ok Ex.na [] _ ⟨rfl, rfl, ?_⟩
  refine l03_symbol_ok Ex.nb [] _ ⟨rfl, rfl, ?_⟩
  refine l03_symbol_ok Ex.nf [.mk Ex.na false [], .mk Ex.nb false []] _ ⟨rfl, rfl, ?_⟩
  refine unify_Match_ok (.mk Ex.nf false [Tm.vr Ex.nx, Tm.vr Ex.nx]) (.mk Ex.nf false [.mk Ex.na false [], .mk Ex.nb false []]) ⟨by decide, by decide⟩ ?_ _ ⟨rfl, rfl, ?_⟩
  · have e : (Tm.mat (.mk Ex.nf false [Tm.vr Ex.nx, Tm.vr Ex.nx]) [] (.mk Ex.nf false [.mk Ex.na false [], .mk Ex.nb false []])).1.all (fun y => decide (y.2.size ≤ lim)) = true := rfl
    exact fun y hy => of_decide_eq_true (List.all_eq_true.1 e y hy)
  rw [ex_match]
  refine iff_beq (fun _ => ?_) (fun h => absurd rfl h)
  refine iff_intro (fun _ => ?_) (fun h => by cases h)
  refine r01_SameSubst_ok Ex.out Ex.out _ ⟨rfl, rfl, ?_⟩
  have e1 : sameS Ex.out Ex.out = true := (by unfold sameS; simp)
  rw [e1]
  refine iff_intro (fun _ => ?_) (fun h => by cases h)
  refine iff_beq (fun _ => ⟨trivial, ?_⟩) (fun h => absurd rfl h)
  exact hQ
end Go.Proofs.Ytgohjdaepcmonaa
set_option linter.unusedVariables false
set_option linter.unusedSimpArgs false
namespace Go.Proofs.Ytgohjdaepcmonaa
open Go.Abs
namespace Tm
theorem mat_bnd (N : Nat) : ∀ (p : Tm) (s : Su) (t : Tm), (∀ y ∈ s, y.2.size ≤ N) → t.size ≤ N → ∀ y ∈ (mat p s t).1, y.2.size ≤ N := ind fun p ih s t hs ht => by
  rw [mat_eq]
  have hL : ∀ (ps : List Tm), (∀ q ∈ ps, ∀ (s : Su) (t : Tm), (∀ y ∈ s, y.2.size ≤ N) → t.size ≤ N → ∀ y ∈ (mat q s t).1, y.2.size ≤ N) → ∀ (s : Su) (ts : List Tm), (∀ y ∈ s, y.2.size ≤ N) → (∀ a ∈ ts, a.size ≤ N) → ∀ y ∈ (matL ps s ts).1, y.2.size ≤ N := fun ps => by
    induction ps with
    | nil => intro _ s ts hs _; exact hs
    | cons q r ihr =>
      intro h s ts hs hts
      cases ts with
      | nil => exact hs
      | cons t ts =>
        simp only [matL]
        split
        · exact ihr (fun q hq => h q (List.mem_cons_of_mem _ hq)) _ ts (h q (by simp) s t hs (hts t (by simp))) (fun a ha => hts a (List.mem_cons_of_mem _ ha))
        · intro y hy; simp at hy
  split
  · split
    · exact hs
    · intro y hy
      rcases withS_mem.1 hy with rfl | hy
      · exact ht
      · exact hs y hy
  · split
    · intro y hy; simp at hy
    · exact hL _ ih s t.args hs fun a ha => by have := size_mem ha; omega
end Tm
theorem enc_pair (s t : Tm) : [[V.s s.name, V.b s.var, V.l (Tm.encL s.args)], [V.s t.name, V.b t.var, V.l (Tm.encL t.args)]] = Tm.encL [s, t] := by
  simp [Tm.encL, Tm.enc_eq]
theorem l03_UnifyMatches_ok (p t : Tm) (hp : p.size ≤ 1048576) (ht : t.size ≤ 1048576) : Fn f_l03_UnifyMatches [tD p, tD t] (bD true) := fun Q hQ => by
  have hlim : lim = 549755813888 := rfl
  have hsm : small = 1152921504606846976 := rfl
  refine C_l03_UnifyMatches _ _ _ _ _ _ _ ?_
  unfold vc_l03_UnifyMatches
  refine unify_Match_ok p t ⟨hp, ht⟩ (fun y hy => by have := Tm.mat_bnd 1048576 p [] t (by simp) ht y hy; omega) _ ⟨rfl, rfl, ?_⟩
  rw [enc_pair]
  refine r01_CheckAll_ok [p, t] (fun x hx => ?_) _ ⟨rfl, rfl, ?_⟩
  · rcases List.mem_cons.1 hx with rfl | hx
    · omega
    · rw [List.mem_singleton.1 hx]; omega
  refine iff_bne (fun h => ?_) (fun h => ?_)
  · have h : Tm.checkAll [p, t] ≠ 0 := h
    have em : matchR p t = ([], false, Tm.checkAll [p, t]) := by unfold matchR; rw [if_pos h]
    rw [em]
    refine l03_is_ok [] false (Tm.checkAll [p, t]) [] false (Tm.checkAll [p, t]) _ ⟨rfl, rfl, ?_⟩
    rw [show isB [] false (Tm.checkAll [p, t]) [] false (Tm.checkAll [p, t]) = true by unfold isB; simp]
    exact iff_intro (fun _ => l03_alive_ok _ ⟨rfl, rfl, trivial, hQ⟩) (fun h => by cases h)
  · have h : Tm.checkAll [p, t] = 0 := h
    refine r03_Match_ok p t (by omega) _ ⟨rfl, rfl, ?_⟩
    refine l03_is_ok (matchR p t).1 (matchR p t).2.1 (matchR p t).2.2 (Tm.mat p [] t).1 (Tm.mat p [] t).2 0 _ ⟨rfl, rfl, ?_⟩
    have e : isB (matchR p t).1 (matchR p t).2.1 (matchR p t).2.2 (Tm.mat p [] t).1 (Tm.mat p [] t).2 0 = true := by
      unfold matchR
      rw [if_neg (by simp [h])]
      cases hm : (Tm.mat p [] t).2 with
      | true => simp [isB, sameS]
      | false => simp [isB]
    rw [e]
    exact iff_intro (fun _ => l03_alive_ok _ ⟨rfl, rfl, trivial, hQ⟩) (fun h => by cases h)
end Go.Proofs.Ytgohjdaepcmonaa
