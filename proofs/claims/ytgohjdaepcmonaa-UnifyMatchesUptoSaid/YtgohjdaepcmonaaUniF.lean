import Derived.Test.YtgohjdaepcmonaaUniE
set_option linter.unusedVariables false
set_option linter.unusedSimpArgs false
namespace Go.Proofs.Ytgohjdaepcmonaa
open Go.Abs
theorem unify_measure_var (m : Su) (l : Prs) {θ : ByteArray → Tm} {r : ByteArray → Nat} (ht : Tri (fnS m) θ r) (hθ : ∀ x, (θ x).depth ≤ dlim) {x : ByteArray} (hb : boundS m x = true) (kn : Kn) (hk : KnOk θ kn) (Q : D → Heap → Prop)
    (hQ : ∀ kn', KnOk θ kn' → Q (.agg [iD (capS (θ x).size), iD (θ x).depth]) (meaH m l kn')) : cl f_unify_unifier_measure [.ptr (.own 0) 0, .agg [sD x, bD true, .nil], .mp (.own 3)] (meaH m l kn) Q := by
  refine C_unify_unifier_measure _ _ _ _ _ _ ?_
  unfold vc_unify_unifier_measure
  refine iff_intro (fun _ => ?_) (fun h => by cases h)
  rw [mhas_su, hb]
  refine iff_intro (fun h => by cases h) fun _ => ?_
  have hs := fnS_of hb
  rcases mlook_kn x kn with ⟨h1, h2⟩ | ⟨p, hp, h1, h2, h3⟩
  · have e1 : mhas [.str] [V.s x] (encK kn) = false := by unfold mhas; rw [h2]; rfl
    rw [e1, mget_su _ hb, Tm.enc_eq]
    have e2 : θ x = Tm.sub θ (Tm.image m x) := ht.bnd _ _ hs
    refine iff_intro (fun h => by cases h) fun _ => ?_
    refine unify_measure_ok m l ht hθ (maxR r (Tm.vs (Tm.image m x)) + 1) (Tm.image m x) (fun y hy => by have := maxR_mem (r := r) hy; omega) (by rw [← e2]; exact hθ _) kn hk _ fun kn' hk' => ⟨rfl, rfl, ⟨trivial, trivial, trivial⟩, ?_⟩
    obtain ⟨kn2, h4, h5⟩ := mset_kn x (capS (Tm.sub θ (Tm.image m x)).size) ((Tm.sub θ (Tm.image m x)).depth : Int) kn'
    show Q _ [_, _, _, .map mt_9_80 (mset [.str] [V.s x] [V.i (capS (Tm.sub θ (Tm.image m x)).size), V.i ((Tm.sub θ (Tm.image m x)).depth : Int)] (encK kn'))]
    rw [h4]
    have hQ := hQ kn2 fun p hp => by
      rcases h5 p hp with h | rfl
      · exact hk' p h
      · rw [e2]; exact ⟨rfl, rfl⟩
    rw [e2] at hQ
    exact hQ
  · have e1 : mhas [.str] [V.s x] (encK kn) = true := by unfold mhas; rw [h3]; rfl
    have e2 : mget [.str] [V.i 0, V.i 0] [V.s x] (encK kn) = [V.i p.2.1, V.i p.2.2] := by unfold mget; rw [h3]; rfl
    rw [e1, e2]
    obtain ⟨k1, k2⟩ := hk p hp
    rw [h1] at k1 k2
    have hQ := hQ kn hk
    rw [← k1, ← k2] at hQ
    exact ⟨⟨trivial, trivial, trivial⟩, hQ⟩
theorem whole_args {m : Su} {l : Prs} {θ : ByteArray → Tm} {t : Tm} (hv : t.var = false) (hs : t.size ≤ lim) (h : ∀ a ∈ t.args, ∀ Q : D → Heap → Prop, Q (tD (Tm.sub θ a)) (uniH m l) → cl f_unify_unifier_whole [.ptr (.own 0) 0, tD a] (uniH m l) Q) (Q : D → Heap → Prop) (hQ : Q (tD (Tm.sub θ t)) (uniH m l)) : cl f_unify_unifier_whole [.ptr (.own 0) 0, tD t] (uniH m l) Q := by
  refine C_unify_unifier_whole_w _ _ _ _ _ _ ?_
  unfold vc_unify_unifier_whole_w
  refine iff_intro (fun hv' => by rw [hv] at hv'; cases hv') fun _ hb => ?_
  have hl := Tm.encL_length t.args
  rw [hl] at hb ⊢
  have hsz := Tm.size_eq t
  have hls := Tm.length_sizeL t.args
  rw [Tm.sub_fn _ hv] at hQ
  refine range_unify_unifier_whole_w_0 Q _ _ _ _ _ _ _ _ hb (fun k n y => n = k ∧ y = Tm.encL ((t.args.take k).map (Tm.sub θ))) (fun k n y hk hJ K hK => ?_) (fun n y hJ => ?_) 0 0 _ (Nat.zero_le _) ⟨rfl, rfl⟩
  · simp only [Tm.encL_getD _ k hk, Tm.enc_eq, List.drop_zero, List.headD_cons, List.tail_cons]
    obtain ⟨rfl, rfl⟩ := hJ
    refine ⟨by omega, by omega, tD (Tm.sub θ (t.args[n])), h _ (List.getElem_mem hk) _ ⟨rfl, rfl⟩, ?_, ?_, hK _ _ ⟨rfl, ?_⟩⟩
    · rw [Tm.encL_length, List.length_map, List.length_take]; omega
    · show n + 1 ≤ lim; omega
    · rw [List.take_succ_eq_append_getElem hk, List.map_append, Tm.encL_eq, Tm.encL_eq, List.map_append]
      congr 1
      simp only [List.map_cons, List.map_nil]
      rw [Tm.enc_eq]
      rfl
  · obtain ⟨rfl, rfl⟩ := hJ
    rw [List.take_length]
    refine ⟨⟨trivial, trivial, ?_, trivial⟩, hQ⟩
    rw [Tm.encL_length, List.length_map]
theorem unify_whole_ok (m : Su) (l : Prs) {θ : ByteArray → Tm} {r : ByteArray → Nat} (ht : Tri (fnS m) θ r) (hσ : ∀ x t, fnS m x = some t → t.size ≤ lim) : ∀ (n : Nat) (t : Tm), (∀ y ∈ Tm.vs t, r y < n) → t.size ≤ lim → ∀ Q : D → Heap → Prop, Q (tD (Tm.sub θ t)) (uniH m l) → cl f_unify_unifier_whole [.ptr (.own 0) 0, tD t] (uniH m l) Q := by
  intro n
  induction n with
  | zero =>
    refine Tm.ind fun t ih hr hs Q hQ => ?_
    cases hv : t.var with
    | true => exact absurd (hr _ ((Tm.vs_var hv).2 rfl)) (by omega)
    | false => exact whole_args hv hs (fun a ha => ih a ha (fun y hy => hr y ((Tm.vs_fn hv).2 ⟨_, ha, hy⟩)) (by have := Tm.size_mem ha; omega)) Q hQ
  | succ n ihn =>
    refine Tm.ind fun t ih hr hs Q hQ => ?_
    cases hv : t.var with
    | false => exact whole_args hv hs (fun a ha => ih a ha (fun y hy => hr y ((Tm.vs_fn hv).2 ⟨_, ha, hy⟩)) (by have := Tm.size_mem ha; omega)) Q hQ
    | true =>
      have hxr := hr _ ((Tm.vs_var hv).2 rfl)
      rw [Tm.sub_var _ hv] at hQ
      refine ACalls.as ?_
      refine C_unify_unifier_whole_w _ _ _ _ _ _ ?_
      unfold vc_unify_unifier_whole_w
      refine iff_intro (fun _ => ?_) (fun h => by rw [hv] at h; cases h)
      rw [mhas_su]
      refine iff_intro (fun hb => ?_) (fun hb => ⟨⟨trivial, trivial, trivial, trivial⟩, tD (θ t.name), ?_, hQ⟩)
      · have hsm := fnS_of hb
        rw [mget_su _ hb, Tm.enc_eq]
        have e2 : θ t.name = Tm.sub θ (Tm.image m t.name) := ht.bnd _ _ hsm
        refine ihn (Tm.image m t.name) (fun y hy => by have := ht.rk _ _ hsm y hy; omega) (hσ _ _ hsm) _ ⟨rfl, rfl, ⟨trivial, trivial, trivial, trivial⟩, tD (θ t.name), ?_, hQ⟩
        rw [e2]; exact .refl _
      · rw [ht.fre _ (fnS_none.2 hb)]
        exact .last3 _ _ _
theorem unify_whole_var (m : Su) (l : Prs) {θ : ByteArray → Tm} {r : ByteArray → Nat} (ht : Tri (fnS m) θ r) (hσ : ∀ x t, fnS m x = some t → t.size ≤ lim) {x : ByteArray} (hb : boundS m x = true) (Q : D → Heap → Prop) (hQ : Q (tD (θ x)) (uniH m l)) :
    cl f_unify_unifier_whole [.ptr (.own 0) 0, .agg [sD x, bD true, .nil]] (uniH m l) Q := by
  refine C_unify_unifier_whole _ _ _ _ _ ?_
  unfold vc_unify_unifier_whole
  refine iff_intro (fun _ => ?_) (fun h => by cases h)
  have hsm := fnS_of hb
  rw [mhas_su, hb, mget_su _ hb, Tm.enc_eq]
  refine iff_intro (fun _ => ?_) (fun h => by cases h)
  rw [ht.bnd _ _ hsm] at hQ
  exact unify_whole_ok m l ht hσ (maxR r (Tm.vs (Tm.image m x)) + 1) (Tm.image m x) (fun y hy => by have := maxR_mem (r := r) hy; omega) (hσ _ _ hsm) _ ⟨rfl, rfl, ⟨trivial, trivial, trivial, trivial⟩, hQ⟩
def fitsT (t : Tm) : Prop := t.size ≤ 4000 ∧ t.depth ≤ 200
structure UnOk (σ : Bd) (θ : ByteArray → Tm) (out : Su) : Prop where
  sort : SortS out
  mem : ∀ y : ByteArray × Tm, y ∈ out ↔ σ y.1 ≠ none ∧ y.2 = θ y.1
theorem SortS.head_lt {x y : ByteArray × Tm} {l : Su} (h : SortS (x :: l)) (hy : y ∈ x :: l) : y = x ∨ cmpN x.1 y.1 = -1 := by
  rcases List.mem_cons.1 hy with h1 | h1
  · exact .inl h1
  · exact .inr (h.1 y h1)
theorem sort_uniq : ∀ {a b : Su}, SortS a → SortS b → (∀ y, y ∈ a ↔ y ∈ b) → a = b
  | [], [], _, _, _ => rfl
  | [], y :: b, _, _, h => absurd ((h y).2 (by simp)) (by simp)
  | x :: a, [], _, _, h => absurd ((h x).1 (by simp)) (by simp)
  | x :: a, y :: b, ha, hb, h => by
    have e : x = y := by
      rcases ha.head_lt ((h y).2 (by simp)) with e | h1
      · exact e.symm
      · rcases hb.head_lt ((h x).1 (by simp)) with e | h2
        · exact e
        · have := cmpN_trans h1 h2; rw [cmpN_self] at this; omega
    subst e
    congr 1
    refine sort_uniq ha.2 hb.2 fun z => ?_
    have hne : ∀ {l : Su}, SortS (x :: l) → x ∉ l := fun {l} hl hin => by
      have := hl.1 x hin; rw [cmpN_self] at this; omega
    constructor
    · intro hz
      rcases List.mem_cons.1 ((h z).1 (List.mem_cons_of_mem _ hz)) with e | e
      · rw [e] at hz; exact absurd hz (hne ha)
      · exact e
    · intro hz
      rcases List.mem_cons.1 ((h z).2 (List.mem_cons_of_mem _ hz)) with e | e
      · rw [e] at hz; exact absurd hz (hne hb)
      · exact e
theorem UnOk.uniq {σ : Bd} {θ : ByteArray → Tm} {a b : Su} (ha : UnOk σ θ a) (hb : UnOk σ θ b) : a = b :=
  sort_uniq ha.sort hb.sort fun y => by rw [ha.mem, hb.mem]
theorem UnOk.ex {σ : Bd} (θ : ByteArray → Tm) (W : List ByteArray) (hW : ∀ x, σ x ≠ none → x ∈ W) : ∃ out, UnOk σ θ out := by
  have key : ∀ W : List ByteArray, ∃ out : Su, SortS out ∧ ∀ y : ByteArray × Tm, y ∈ out ↔ y.1 ∈ W ∧ σ y.1 ≠ none ∧ y.2 = θ y.1 := fun W => by
    induction W with
    | nil => exact ⟨[], trivial, fun y => by simp⟩
    | cons x W ih =>
      obtain ⟨out, h1, h2⟩ := ih
      by_cases hx : σ x ≠ none ∧ x ∉ W
      · refine ⟨withS out x (θ x), withS_sort h1 fun y hy e => hx.2 (e ▸ ((h2 y).1 hy).1), fun y => ?_⟩
        rw [withS_mem, h2, List.mem_cons]
        constructor
        · rintro (rfl | ⟨h3, h4, h5⟩)
          · exact ⟨.inl rfl, hx.1, rfl⟩
          · exact ⟨.inr h3, h4, h5⟩
        · rintro ⟨rfl | h3, h4, h5⟩
          · exact .inl (Prod.ext rfl h5)
          · exact .inr ⟨h3, h4, h5⟩
      · refine ⟨out, h1, fun y => ?_⟩
        rw [h2, List.mem_cons]
        constructor
        · rintro ⟨h3, h4, h5⟩; exact ⟨.inr h3, h4, h5⟩
        · rintro ⟨rfl | h3, h4, h5⟩
          · refine ⟨Classical.byContradiction fun h => hx ⟨h4, h⟩, h4, h5⟩
          · exact ⟨h3, h4, h5⟩
  obtain ⟨out, h1, h2⟩ := key W
  exact ⟨out, h1, fun y => by rw [h2]; exact ⟨fun h => h.2, fun h => ⟨hW _ h.1, h⟩⟩⟩
def lefts (l : Ru) : List Tm := l.map (·.1)
def rights (l : Ru) : List Tm := l.map (·.2)
inductive UnRes (l : Ru) : Su × Bool × Int → Prop
  | no : Sl (fun _ => none) (lefts l) (rights l) none → UnRes l ([], false, 0)
  | large (σ : Bd) (θ : ByteArray → Tm) (r : ByteArray → Nat) : Sl (fun _ => none) (lefts l) (rights l) (some σ) → Tri σ θ r → (∃ x, σ x ≠ none ∧ ¬ fitsT (θ x)) → UnRes l ([], false, 3)
  | yes (σ : Bd) (θ : ByteArray → Tm) (r : ByteArray → Nat) (out : Su) : Sl (fun _ => none) (lefts l) (rights l) (some σ) → Tri σ θ r → (∀ x, σ x ≠ none → fitsT (θ x)) → UnOk σ θ out → UnRes l (out, true, 0)
end Go.Proofs.Ytgohjdaepcmonaa
