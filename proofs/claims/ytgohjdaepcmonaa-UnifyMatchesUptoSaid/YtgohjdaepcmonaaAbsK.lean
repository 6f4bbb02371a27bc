import Derived.Test.YtgohjdaepcmonaaAbsI
set_option linter.unusedVariables false
set_option linter.unusedSimpArgs false
namespace Go.Abs
inductive As : D → D → Prop
  | refl (d : D) : As d d
  | nil (e : TypeId) (x : V) : x.list = [] → As .nil (.v (.sl e) x)
  | agg (cs ds : List D) : cs.length = ds.length → (∀ j, As (cs.getD j .undef) (ds.getD j .undef)) → As (.agg cs) (.agg ds)
  | tup (cs ds : List D) : cs.length = ds.length → (∀ j, As (cs.getD j .undef) (ds.getD j .undef)) → As (.tup cs) (.tup ds)
theorem anyL_iff (p : Ref → Bool) : ∀ l : List D, D.anyL p l = false ↔ ∀ j, D.anyR p (l.getD j .undef) = false
  | [] => by simp [D.anyL, D.anyR]
  | d :: r => by
    have ih := anyL_iff p r
    constructor
    · intro h j
      unfold D.anyL at h
      cases hd : D.anyR p d with
      | true => rw [hd] at h; cases h
      | false =>
        rw [hd] at h
        cases j with
        | zero => exact hd
        | succ j => exact ih.1 h j
    · intro h
      have h0 : D.anyR p d = false := h 0
      unfold D.anyL
      rw [h0]
      exact ih.2 fun j => h (j + 1)
theorem As.rep {lf : TypeId → List K} {S : Sig} {d d' : D} (h : As d d') : ∀ v, RepD lf S d v → D.local d = false → RepD lf S d' v ∧ D.local d' = false := by
  induction h with
  | refl d => exact fun v h h' => ⟨h, h'⟩
  | nil e x hx =>
    intro v h _
    cases h
    exact ⟨.v _ _ _ (.sl0 e x none 0 hx), rfl⟩
  | agg cs ds hl _ ih =>
    intro v h hn
    have hn := (anyL_iff _ cs).1 hn
    cases h with
    | agg _ us h1 h2 => exact ⟨.agg ds us (hl ▸ h1) fun j => (ih j _ (h2 j) (hn j)).1, (anyL_iff _ ds).2 fun j => (ih j _ (h2 j) (hn j)).2⟩
  | tup cs ds hl _ ih =>
    intro v h hn
    have hn := (anyL_iff _ cs).1 hn
    cases h with
    | tup _ us h1 h2 => exact ⟨.tup ds us (hl ▸ h1) fun j => (ih j _ (h2 j) (hn j)).1, (anyL_iff _ ds).2 fun j => (ih j _ (h2 j) (hn j)).2⟩
theorem ACalls.as {P : Program} {lf : TypeId → List K} {f : FuncId} {args : List D} {H : Heap} {Q : D → Heap → Prop} (h : ACalls P lf f args H (fun r H' => ∃ r', As r r' ∧ Q r' H')) : ACalls P lf f args H Q :=
  fun S vs h1 h2 h3 h4 h5 h6 h7 => (h S vs h1 h2 h3 h4 h5 h6 h7).mono fun _ _ ⟨v, r, S', a, b, c, d, e, f, g, i, r', j, k⟩ => ⟨v, r', S', a, b, c, d, e, (j.rep v f g).1, (j.rep v f g).2, i, k⟩
theorem As.last3 (a b : D) (e : TypeId) : As (.agg [a, b, .nil]) (.agg [a, b, .v (.sl e) (.l [])]) :=
  .agg _ _ rfl fun j => match j with
    | 0 => .refl _ | 1 => .refl _ | 2 => .nil e _ rfl | _ + 3 => .refl _
theorem As.pair {a a' b b' : D} (h : As a a') (h' : As b b') : As (.tup [a, b]) (.tup [a', b']) :=
  .tup _ _ rfl fun j => match j with
    | 0 => h | 1 => h' | _ + 2 => .refl _
end Go.Abs
