import Derived.Test.YtgohjdaepcmonaaUniG
set_option linter.unusedVariables false
set_option linter.unusedSimpArgs false
namespace Go.Proofs.Ytgohjdaepcmonaa
open Go.Abs
theorem vsL_len : ∀ (l : List Tm), (∀ t ∈ l, (Tm.vs t).length ≤ t.size) → (Tm.vsL l).length ≤ Tm.sizeL l
  | [], _ => by simp [Tm.vsL]
  | t :: r, h => by
    have h1 := h t (by simp)
    have h2 := vsL_len r fun u hu => h u (List.mem_cons_of_mem _ hu)
    simp only [Tm.vsL, Tm.sizeL, List.length_append]; omega
theorem vs_len : ∀ t : Tm, (Tm.vs t).length ≤ t.size := Tm.ind fun t ih => by
  have h := vsL_len t.args ih
  rw [Tm.vs_eq, Tm.size_eq]
  split
  · simp
  · omega
theorem Sl.dom {U : List ByteArray} {σ : Bd} {xs ys : List Tm} {o : Option Bd} (h : Sl σ xs ys o) : ∀ σ', o = some σ' → InU U σ → AllU U xs → AllU U ys → ∀ x, σ' x ≠ none → σ x ≠ none ∨ x ∈ U := by
  induction h with
  | nil σ => intro σ' e _ _ _ x hx; cases e; exact .inl hx
  | same σ a b a' b' xs ys o ha hb va vb hn _ ih => exact fun σ' e hU h1 h2 => ih σ' e hU (fun t ht => h1 t (List.mem_cons_of_mem _ ht)) (fun t ht => h2 t (List.mem_cons_of_mem _ ht))
  | setA σ a b a' b' xs ys o ha hb va hne ho _ ih =>
    intro σ' e hU h1 h2 x hx
    have hin : a'.name ∈ U := ha.inU hU (h1 a (by simp)) _ ((Tm.vs_var va).2 rfl)
    rcases ih σ' e (hU.upd (hb.inU hU (h2 b (by simp)))) (fun t ht => h1 t (List.mem_cons_of_mem _ ht)) (fun t ht => h2 t (List.mem_cons_of_mem _ ht)) x hx with h | h
    · by_cases hxa : x = a'.name
      · exact .inr (hxa ▸ hin)
      · rw [updB_ne _ _ hxa] at h; exact .inl h
    · exact .inr h
  | occA => intro σ' e; cases e
  | setB σ a b a' b' xs ys o ha hb va vb ho _ ih =>
    intro σ' e hU h1 h2 x hx
    have hin : b'.name ∈ U := hb.inU hU (h2 b (by simp)) _ ((Tm.vs_var vb).2 rfl)
    rcases ih σ' e (hU.upd (ha.inU hU (h1 a (by simp)))) (fun t ht => h1 t (List.mem_cons_of_mem _ ht)) (fun t ht => h2 t (List.mem_cons_of_mem _ ht)) x hx with h | h
    · by_cases hxa : x = b'.name
      · exact .inr (hxa ▸ hin)
      · rw [updB_ne _ _ hxa] at h; exact .inl h
    · exact .inr h
  | occB => intro σ' e; cases e
  | clash => intro σ' e; cases e
  | args σ σ1 a b a' b' xs ys o ha hb va vb hn hl s1 _ ih1 ih2 =>
    intro σ' e hU h1 h2 x hx
    have ua := allU_args va (ha.inU hU (h1 a (by simp)))
    have ub := allU_args vb (hb.inU hU (h2 b (by simp)))
    have hU1 := (s1.less σ1 rfl hU ua ub).1
    rcases ih2 σ' e hU1 (fun t ht => h1 t (List.mem_cons_of_mem _ ht)) (fun t ht => h2 t (List.mem_cons_of_mem _ ht)) x hx with h | h
    · exact ih1 σ1 rfl hU ua ub x h
    · exact .inr h
  | argsN => intro σ' e; cases e
structure RuOk (l : Ru) : Prop where
  len : l.length ≤ 64
  sz : ∀ x ∈ l, x.1.size ≤ 4000 ∧ x.2.size ≤ 4000
  dp : ∀ x ∈ l, x.1.depth ≤ 200 ∧ x.2.depth ≤ 200
def uni (l : Ru) : List ByteArray := Tm.vsL (lefts l) ++ Tm.vsL (rights l)
theorem RuOk.uni_len {l : Ru} (h : RuOk l) : (uni l).length ≤ 512000 := by
  have key : ∀ l : Ru, (∀ x ∈ l, x.1.size ≤ 4000 ∧ x.2.size ≤ 4000) → Tm.sizeL (lefts l) ≤ l.length * 4000 ∧ Tm.sizeL (rights l) ≤ l.length * 4000 := fun l => by
    induction l with
    | nil => intro _; simp [lefts, rights, Tm.sizeL]
    | cons x l ih =>
      intro h
      have h1 := h x (by simp)
      have h2 := ih fun y hy => h y (List.mem_cons_of_mem _ hy)
      simp only [lefts, rights, List.map_cons, Tm.sizeL, List.length_cons] at h2 ⊢
      constructor <;> omega
  have h1 := vsL_len (lefts l) fun t _ => vs_len t
  have h2 := vsL_len (rights l) fun t _ => vs_len t
  have h3 := key l h.sz
  have h4 := h.len
  unfold uni
  rw [List.length_append]
  omega
theorem uni_left (l : Ru) : AllU (uni l) (lefts l) := fun t ht y hy => List.mem_append_left _ (Tm.vsL_mem.2 ⟨t, ht, hy⟩)
theorem uni_right (l : Ru) : AllU (uni l) (rights l) := fun t ht y hy => List.mem_append_right _ (Tm.vsL_mem.2 ⟨t, ht, hy⟩)
theorem inU_none (U : List ByteArray) : InU U fun _ => none := fun x t h => by cases h
structure FinOk (l : Ru) (σ : Bd) (θ : ByteArray → Tm) (r : ByteArray → Nat) : Prop where
  tri : Tri σ θ r
  rk : ∀ x, r x ≤ (uni l).length
  dom : ∀ x, σ x ≠ none → x ∈ uni l
  inU : InU (uni l) σ
  sz : ∀ x t, σ x = some t → t.size ≤ 4000 ∧ t.depth ≤ 200
theorem finOk {l : Ru} (h : RuOk l) {σ : Bd} {θ : ByteArray → Tm} {r : ByteArray → Nat} (hs : Sl (fun _ => none) (lefts l) (rights l) (some σ)) (ht : Tri σ θ r) : ∃ r', FinOk l σ θ r' := by
  have hdom : ∀ x, σ x ≠ none → x ∈ uni l := fun x hx => (hs.dom σ rfl (inU_none _) (uni_left l) (uni_right l) x hx).resolve_left fun h => h rfl
  obtain ⟨r', h1, h2, _⟩ := ht.comp (uni l) hdom
  refine ⟨r', h1, h2, hdom, (hs.less σ rfl (inU_none _) (uni_left l) (uni_right l)).1, hs.terms (P := fun t => t.size ≤ 4000 ∧ t.depth ≤ 200) (fun t ht a ha => ?_) σ rfl (fun x t h => by cases h) (fun t ht => ?_) (fun t ht => ?_)⟩
  · have := Tm.size_mem ha
    have := Tm.depthL_mem ha
    have := Tm.depth_eq t
    omega
  · obtain ⟨x, hx, rfl⟩ := List.mem_map.1 ht
    exact ⟨(h.sz x hx).1, (h.dp x hx).1⟩
  · obtain ⟨x, hx, rfl⟩ := List.mem_map.1 ht
    exact ⟨(h.sz x hx).2, (h.dp x hx).2⟩
theorem FinOk.depth {l : Ru} (hl : RuOk l) {σ : Bd} {θ : ByteArray → Tm} {r : ByteArray → Nat} (h : FinOk l σ θ r) (x : ByteArray) : (θ x).depth ≤ dlim := by
  have h1 := h.tri.depth (M := 200) (fun x t hx => (h.sz x t hx).2) _ x (h.rk x)
  have h2 := hl.uni_len
  rw [dlim_eq]
  have h3 := Nat.mul_le_mul_right 200 (show (uni l).length + 1 ≤ 512001 by omega)
  omega
theorem encRs_row (l : Ru) (k : Nat) (h : k < l.length) : (encRs l).getD k [] = [.s (l[k]).1.name, .b (l[k]).1.var, .l (Tm.encL (l[k]).1.args), .s (l[k]).2.name, .b (l[k]).2.var, .l (Tm.encL (l[k]).2.args)] := encRs_getD l k h
theorem nil3 {x : Su × Bool × Int} {Q : D → Heap → Prop} (hQ : ∀ r0, As r0 (.tup [suD x.1, bD x.2.1, iD x.2.2]) → Q r0 []) (h : x.1 = []) : Q (.tup [.nil, bD x.2.1, iD x.2.2]) [] := by
  refine hQ _ (.tup _ _ rfl fun j => ?_)
  match j with
  | 0 => exact .nil _ _ (by rw [h]; rfl)
  | 1 => exact .refl _
  | 2 => exact .refl _
  | j + 3 => exact .refl _
theorem unify_Solve_ok (l : Ru) (hl : RuOk l) {res : Su × Bool × Int} (h : UnRes l res) : Fn f_unify_Solve [ruD l] (.tup [suD res.1, bD res.2.1, iD res.2.2]) := Fn.as fun Q hQ => by
  refine C_unify_Solve _ _ fun hb => ?_
  have hlen := encRs_length l
  rw [hlen] at hb ⊢
  let post : Bool → Su → Prs → Prop := fun ok m l' => match ok with
    | true => ∃ m1, lp_unify_Solve_1 Q m1 0 (encS m) (encD l') [] (encS m).length [] []
    | false => Q (.tup [.nil, .v .bool (V.b false), .v (.int .i64) (V.i 0)]) []
  have hrun : RunP (lefts l) (rights l) [] [] post := by
    have start : ∀ {o : Option Bd}, Sl (fun _ => none) (lefts l) (rights l) o → (∀ σ', o = some σ' → ∀ m' l', fnS m' = σ' → NamesOk m' → post true m' l') → (o = none → ∀ m' l', post false m' l') → RunP (lefts l) (rights l) [] [] post := fun ho h1 h2 =>
      progRun ho [] [] fnS_nil ⟨_, _, Tri.empty⟩ List.nodup_nil (fun p hp => by simp at hp) post (fun σ' e m' l' e' hi _ => h1 σ' e m' l' e' hi) h2
    have fin : ∀ (σ : Bd) (θ : ByteArray → Tm) (r : ByteArray → Nat), Sl (fun _ => none) (lefts l) (rights l) (some σ) → Tri σ θ r → ∀ m' l', fnS m' = σ → NamesOk m' →
        ((∃ x, σ x ≠ none ∧ ¬ fitsT (θ x)) → Q (.tup [.nil, bD false, iD 3]) []) → ((∀ x, σ x ≠ none → fitsT (θ x)) → ∀ out, UnOk σ θ out → Q (.tup [suD out, bD true, iD 0]) []) → post true m' l' := fun σ θ r ho ht m' l' e hi h1 h2 => by
      subst e
      obtain ⟨r', hf⟩ := finOk hl ho ht
      have hml : m'.length ≤ (uni l).length := by
        have := nodup_length hi fun x hx => hf.dom x (by
          obtain ⟨y, hy, rfl⟩ := List.mem_map.1 hx
          rw [Ne, fnS_none, Bool.not_eq_false]
          exact boundS_iff.2 ⟨y, hy, rfl⟩)
        simpa [suNames] using this
      have hul := hl.uni_len
      exact solve_end m' l' hf.tri hi (by omega) (hf.depth hl) (fun x t hx => Nat.le_trans (hf.sz x t hx).1 (by decide)) Q h1 h2
    cases h with
    | no ho => exact start ho (fun σ' e => by cases e) (fun _ m' l' => nil3 hQ rfl)
    | large σ θ r ho ht hx => exact start ho (fun σ' e m' l' e' hi => by cases e; exact fin σ θ r ho ht m' l' e' hi (fun _ => nil3 hQ rfl) (fun hall => by obtain ⟨x, h1, h2⟩ := hx; exact absurd (hall x h1) h2)) (fun e => by cases e)
    | yes σ θ r out ho ht hall hout => exact start ho (fun σ' e m' l' e' hi => by cases e; exact fin σ θ r ho ht m' l' e' hi (fun ⟨x, h1, h2⟩ => absurd (hall x h1) h2) (fun _ out' hout' => by rw [hout'.uniq hout]; exact hQ _ (.refl _))) (fun e => by cases e)
  refine range_unify_Solve_0 Q _ _ hb (fun k y13 y14 => ∃ m l', y13 = encS m ∧ y14 = encD l' ∧ RunP ((lefts l).drop k) ((rights l).drop k) m l' post) (fun k y13 y14 hk hJ K hK => ?_) (fun y13 y14 hJ => ?_) 0 _ _ (Nat.zero_le _) ⟨[], [], rfl, rfl, hrun⟩
  · obtain ⟨m, l', rfl, rfl, hr⟩ := hJ
    have hk1 : k < (lefts l).length := by simpa [lefts] using hk
    have hk2 : k < (rights l).length := by simpa [rights] using hk
    have e1 : (lefts l)[k] = (l[k]).1 := by simp [lefts]
    have e2 : (rights l)[k] = (l[k]).2 := by simp [rights]
    rw [List.drop_eq_getElem_cons hk1, List.drop_eq_getElem_cons hk2, e1, e2] at hr
    unfold RunP at hr
    simp only [encRs_row _ k hk, List.drop_zero, List.headD_cons, List.tail_cons]
    refine ⟨by omega, by omega, hr.mono ?_⟩
    rintro r1 H' ⟨m2, l2, rfl, ⟨rfl, hr2⟩ | ⟨rfl, hf⟩⟩
    · exact ⟨rfl, rfl, iff_intro (fun h => by cases h) fun _ => hK _ _ ⟨m2, l2, rfl, rfl, hr2⟩⟩
    · exact ⟨rfl, rfl, iff_intro (fun _ => ⟨⟨trivial, trivial, trivial, trivial⟩, hf⟩) fun h => by cases h⟩
  · obtain ⟨m, l', rfl, rfl, hr⟩ := hJ
    have e1 : (lefts l).drop l.length = [] := List.drop_eq_nil_of_le (by simp [lefts])
    rw [e1] at hr
    exact hr
end Go.Proofs.Ytgohjdaepcmonaa
