import Derived.Test.YtgohjdaepcmonaaAbsH
set_option linter.unusedVariables false
set_option linter.unusedSimpArgs false
namespace Go.Abs
variable {P : Program} {T : Tab} {S0 : Sig} {o : Oper} {a : Act} {S : Sig} {st : St} {H : Heap}
theorem joinIf_eq (b : Bool) (f : St → Heap → Post → Prop) : joinIf b f = f := by cases b <;> rfl
theorem sound_code {E : Env} (hE : EnvOk P E) : ∀ (c : Code) (Q : Ex → St → Heap → Prop) (st : St) (H : Heap) (a : Act) (S : Sig), evCode E c st H Q → Rel (lfs E.T) st H a S → Inv S0 S →
    c.wp P (PostC E.T S0 Q) a S.w := by
  intro c
  induction c with
  | skip => exact fun Q st H a S h hrel hinv => wp_skip ⟨st, H, S, rfl, hrel, hinv, h⟩
  | region id ops draw =>
    intro Q st H a S h hrel hinv
    cases draw with
    | true =>
      simp only [evCode] at h
      split at h
      · rename_i hB
        exact draw_sound hE id ops (E.cut id) (E.flt id) (E.late id) Q hB hrel hinv h
      · exact h.elim
    | false =>
      simp only [evCode] at h
      obtain ⟨st', S', k1, k2, k3, k4⟩ := Rel.frz (E.frz id) _ h hrel hinv
      rw [← k2]
      exact wp_region_list (sound_ops hE ops Q _ _ _ _ _ k1 k3 k4)
  | seq x y ihx ihy =>
    intro Q st H a S h hrel hinv
    simp only [evCode] at h
    refine wp_seq (wp_mono (ihx _ _ _ _ _ h hrel hinv) fun e a' w' hp => ?_)
    obtain ⟨st', H', S', hw, h1, h2, h3⟩ := hp
    subst hw
    cases e with
    | normal =>
      obtain ⟨S'', hw, h1', h2'⟩ := Rel.adj (E.adj (3000000 + key y)) h2 h1
      rw [← hw]
      have h4 : joinIf (E.join (key y)) (evCode E y) _ _ _ := h3
      rw [joinIf_eq] at h4
      exact ihy _ _ _ _ _ h4 h1' h2'
    | exit id => exact ⟨st', H', S', rfl, h1, h2, h3⟩
    | ret => exact ⟨st', H', S', rfl, h1, h2, h3⟩
    | goto l => exact h3.elim
    | panic ch => exact h3.elim
    | outgrown => exact h3.elim
  | cond c x y ihx ihy =>
    intro Q st H a S h hrel hinv
    simp only [evCode] at h
    split at h
    · rename_i b hb
      have hc := hrel.eval c
      rw [hb] at hc
      have hc' := hc.bool_inv
      unfold iff iffC at h
      cases hbb : b.bool with
      | true => rw [hbb] at h hc'; exact wp_cond_true hc' (ihx _ _ _ _ _ h hrel hinv)
      | false => rw [hbb] at h hc'; exact wp_cond_false hc' (ihy _ _ _ _ _ h hrel hinv)
    · exact h.elim
  | block id c ih =>
    intro Q st H a S h hrel hinv
    simp only [evCode] at h
    refine wp_block (wp_mono (ih _ _ _ _ _ h hrel hinv) fun e a' w' hp => ?_)
    obtain ⟨st', H', S', hw, h1, h2, h3⟩ := hp
    subst hw
    cases e with
    | normal => exact ⟨st', H', S', rfl, h1, h2, h3⟩
    | exit j =>
      simp only [Exit.inBlock]
      by_cases hj : j = id
      · subst hj
        rw [if_pos rfl]
        refine ⟨st', H', S', rfl, h1, h2, ?_⟩
        have hbeq : Nat.beq j j = true := Nat.beq_refl j
        simp only [blockK, hbeq] at h3
        exact h3
      · rw [if_neg hj]
        have hbeq : Nat.beq j id = false := by
          cases hb : Nat.beq j id with
          | true => exact absurd (Nat.eq_of_beq_eq_true hb) hj
          | false => rfl
        refine ⟨st', H', S', rfl, h1, h2, ?_⟩
        simp only [blockK, hbeq] at h3
        exact h3
    | ret => exact ⟨st', H', S', rfl, h1, h2, h3⟩
    | goto l => exact h3.elim
    | panic ch => exact h3.elim
    | outgrown => exact h3.elim
  | loop c ih =>
    intro Q st H a S h hrel hinv
    simp only [evCode] at h
    obtain ⟨m, hm⟩ := h
    obtain ⟨S', hw, hrel', hinv'⟩ := Rel.adj (E.adj (key c)) hinv hrel
    refine wp_loop_rounds m ?_
    rw [← hw]
    clear hw hrel hinv
    revert hm hrel' hinv'
    generalize Abs.adj (E.adj (key c)) st = st2
    intro hm hrel hinv
    induction m generalizing st2 H a S' with
    | zero => exact hm.elim
    | succ m ihm =>
      rw [rounds_succ]
      refine wp_mono (ih _ _ _ _ _ hm hrel hinv) fun e a' w' hp => ?_
      obtain ⟨st', H', S', hw, h1, h2, h3⟩ := hp
      subst hw
      cases e with
      | normal =>
        obtain ⟨S'', hw, h1', h2'⟩ := Rel.adj (E.adj (key c)) h2 h1
        rw [← hw]
        exact ihm _ _ _ _ h3 h1' h2'
      | exit id => exact ⟨st', H', S', rfl, h1, h2, h3⟩
      | ret => exact ⟨st', H', S', rfl, h1, h2, h3⟩
      | goto l => exact h3.elim
      | panic ch => exact h3.elim
      | outgrown => exact h3.elim
  | exit id => exact fun Q st H a S h hrel hinv => wp_exit ⟨st, H, S, rfl, hrel, hinv, h⟩
  | ret => exact fun Q st H a S h hrel hinv => wp_ret ⟨st, H, S, rfl, hrel, hinv, h⟩
  | rangeFunc f ps x y _ _ => exact fun Q st H a S h => h.elim
  | scope c _ => exact fun Q st H a S h => h.elim
  | label l => exact fun Q st H a S h => h.elim
  | goto l => exact fun Q st H a S h => h.elim
  | refuse w => exact fun Q st H a S h => h.elim
theorem Rel.close (hrel : Rel (lfs T) st H a S) (hinv : Inv S0 S) :
    ∃ S' : Sig, S'.w = S.w ∧ S'.L = [] ∧ S'.la = [] ∧ S'.H = H ∧ Wf (lfs T) S' ∧ Ext S0 S' ∧ (∀ {d : D} {u : Value}, RepD (lfs T) S d u → Abs.frzOk st.loc d → D.anyR Ref.isLoc (Abs.frz st.loc d) = false → RepD (lfs T) S' (Abs.frz st.loc d) u) := by
  have hwf := hrel.wf
  let S' : Sig := { S with L := [], la := [], F := fun b => S.F b ∨ ∃ i x, S.blk (.loc i) = some x ∧ x.1 = b }
  have hb : ∀ r x, S'.blk r = some x → S.blk r = some x ∧ ∃ i, r = .own i := fun r x h => by
    cases r with
    | loc i => simp [Sig.blk, S'] at h
    | own i => exact ⟨h, i, rfl⟩
  have mK : ∀ {k : K} {x : V} {u : Value}, RepK (lfs T) S.w S.F k x u → RepK (lfs T) S'.w S'.F k x u := fun h => RepK.mono (w := S.w) (w' := S'.w) (F := S.F) (F' := S'.F) (fun b hb => .inl hb) (fun _ _ => rfl) h
  have mD : ∀ {d : D} {u : Value}, D.anyR Ref.isLoc d = false → RepD (lfs T) S d u → RepD (lfs T) S' d u := fun {d u} hd h =>
    RepD.mono (S := S) (S' := S') (Nat.le_refl _) (fun _ h => .inl h) (fun _ _ => rfl) (p := Ref.isLoc) (fun r hr _ => by
      cases r with
      | loc i => cases hr
      | own i => exact .refl rfl rfl) hd h
  refine ⟨S', rfl, rfl, rfl, hrel.H, ?_, ?_, ?_⟩
  · refine ⟨fun b hF => ?_, fun r r' x x' h h' => hwf.inj r r' x x' (hb r x h).1 (hb r' x' h').1, fun r x h => hwf.lt r x (hb r x h).1, fun r => ?_, hwf.own, hwf.mulen, rfl⟩
    · rcases hF with hF | ⟨i, y, hy, rfl⟩
      · exact ⟨(hwf.frozen b hF).1, fun r x h => (hwf.frozen b hF).2 r x (hb r x h).1⟩
      · refine ⟨hwf.lt _ y hy, fun r x h he => ?_⟩
        obtain ⟨h1, k, rfl⟩ := hb r x h
        have := hwf.inj (.own k) (.loc i) x y h1 hy he
        cases this
    · cases r with
      | loc i =>
        show ObjRep _ _ (([] : List Obj).getD i .dead) (([] : List (Option (Nat × Nat))).getD i none)
        simp [ObjRep]
      | own i =>
        have := hwf.obj (.own i)
        have hfr := hwf.own i
        show ObjRep _ _ (S.H.getD i .dead) (S.mu.getD i none)
        cases hr : S.H.getD i .dead with
        | cells cs =>
          rw [show S.obj (.own i) = .cells cs from hr] at this
          rw [hr] at hfr
          have hfr' : D.anyL Ref.isLoc cs = false := hfr
          obtain ⟨b, c, e, arr, h3, h4, h5, h6⟩ := this
          exact ⟨b, c, e, arr, h3, h4, h5, fun j hj => ⟨mD (anyL_getD j hfr') (h6 j hj).1, (h6 j hj).2⟩⟩
        | row e xs =>
          rw [show S.obj (.own i) = .row e xs from hr] at this
          rcases this with h3 | ⟨b, c, arr, h3, h4, h5, h6, h7, h9, h8⟩
          · exact .inl h3
          · exact .inr ⟨b, c, arr, h3, h4, h5, h6, h7, h9, fun x y hx hy => mK (h8 x y hx hy)⟩
        | map m xs =>
          rw [show S.obj (.own i) = .map m xs from hr] at this
          obtain ⟨b, c, clock, ents, us, h3, h4, h5, h6, h7, h8⟩ := this
          exact ⟨b, c, clock, ents, us, h3, h4, h5, h6, h7, fun x y hx hy => mK (h8 x y hx hy)⟩
        | iter m x n s => rw [hr] at hfr; exact hfr.elim
        | dead => rw [show S.obj (.own i) = .dead from hr] at this; exact this
  · have he := hinv.ext
    refine ⟨he.size, he.os, he.tape, he.output, he.block, fun b hb => .inl (he.F b hb), fun b hb hF => ?_, he.len, fun k hk => (he.keep k hk).trans (.refl rfl rfl), fun k x hx => he.fresh k x hx⟩
    rcases hF with hF | ⟨i, y, hy, rfl⟩
    · exact he.Fnew b hb hF
    · have := hinv.loc i y hy; omega
  · intro d u h
    induction h with
    | v k x u h => exact fun _ _ => .v k x u (mK h)
    | nil => exact fun _ _ => .nil
    | agg cs us hl _ ih =>
      intro hok hfree
      simp only [Abs.frz, D.anyR] at hfree
      simp only [Abs.frzOk] at hok
      simp only [Abs.frz]
      have hlen : ∀ l : List D, (frzL st.loc l).length = l.length := fun l => by
        induction l with
        | nil => rfl
        | cons d r ih => simp [frzL, ih]
      have hg : ∀ (l : List D) (j : Nat), (frzL st.loc l).getD j .undef = Abs.frz st.loc (l.getD j .undef) := fun l => by
        induction l with
        | nil => intro j; simp [frzL, Abs.frz]
        | cons d r ih => intro j; cases j with
          | zero => rfl
          | succ j => exact ih j
      have hk : ∀ (l : List D) (j : Nat), Abs.frzOkL st.loc l → Abs.frzOk st.loc (l.getD j .undef) := fun l => by
        induction l with
        | nil => intro j _; simp [Abs.frzOk]
        | cons d r ih => intro j h; cases j with
          | zero => exact h.1
          | succ j => exact ih j h.2
      refine .agg _ us (by rw [hlen]; exact hl) fun j => ?_
      rw [hg]
      exact ih j (hk cs j hok) (by rw [← hg]; exact anyL_getD j hfree)
    | tup cs us hl _ ih =>
      intro hok hfree
      simp only [Abs.frz, D.anyR] at hfree
      simp only [Abs.frzOk] at hok
      simp only [Abs.frz]
      have hlen : ∀ l : List D, (frzL st.loc l).length = l.length := fun l => by
        induction l with
        | nil => rfl
        | cons d r ih => simp [frzL, ih]
      have hg : ∀ (l : List D) (j : Nat), (frzL st.loc l).getD j .undef = Abs.frz st.loc (l.getD j .undef) := fun l => by
        induction l with
        | nil => intro j; simp [frzL, Abs.frz]
        | cons d r ih => intro j; cases j with
          | zero => rfl
          | succ j => exact ih j
      have hk : ∀ (l : List D) (j : Nat), Abs.frzOkL st.loc l → Abs.frzOk st.loc (l.getD j .undef) := fun l => by
        induction l with
        | nil => intro j _; simp [Abs.frzOk]
        | cons d r ih => intro j h; cases j with
          | zero => exact h.1
          | succ j => exact ih j h.2
      refine .tup _ us (by rw [hlen]; exact hl) fun j => ?_
      rw [hg]
      exact ih j (hk cs j hok) (by rw [← hg]; exact anyL_getD j hfree)
    | ptr r off u h1 h2 =>
      intro _ hfree
      simp only [Abs.frz] at hfree ⊢
      exact mD hfree (.ptr r off u h1 h2)
    | elt e cs off b o us h1 h2 h3 =>
      intro _ hfree
      simp only [Abs.frz] at hfree ⊢
      exact mD hfree (.elt e cs off b o us h1 h2 h3)
    | relt r e n i off u h1 h2 =>
      intro _ hfree
      simp only [Abs.frz] at hfree ⊢
      exact mD hfree (.relt r e n i off u h1 h2)
    | osl r n u h1 h2 =>
      intro hok hfree
      cases r with
      | own k => exact mD rfl (.osl (.own k) n u h1 h2)
      | loc k =>
        simp only [Abs.frz] at hfree ⊢
        simp only [Abs.frzOk] at hok
        cases hr : st.loc.getD k .dead with
        | cells cs => rw [hr] at hfree; cases hfree
        | dead => rw [hr] at hfree; cases hfree
        | map m xs => rw [hr] at hfree; cases hfree
        | iter m x n s => rw [hr] at hfree; cases hfree
        | row e xs =>
          rw [hr] at hok
          have hob : S.obj (.loc k) = .row e xs := by rw [hrel.getO_obj]; exact hr
          have hn : n = xs.length := hok
          have hu := (h2 e xs hob).2 hn
          subst hu
          rcases hwf.row hob with ⟨h3, h4⟩ | ⟨b, c, arr, h3, h4, h5, h6, h7, h9, h8⟩
          · rw [h3]
            exact .v _ _ _ (.sl0 e (.l xs) none 0 h4)
          · rw [h3]
            refine .v _ _ _ ?_
            have := RepK.sl (lf := lfs T) (w := S'.w) (F := S'.F) e (.l xs) b 0 c (fun i j => arr.getD (i * (lfs T e).length + j) undef) (.inr ⟨k, _, h3, rfl⟩) ⟨h6, h7⟩ h9
              (fun i j hi hj => by
                have hi' : i < xs.length := hi
                have h10 := Nat.mul_le_mul_right (lfs T e).length (show i + 1 ≤ c by omega)
                rw [Nat.add_mul, Nat.one_mul] at h10
                rw [Nat.zero_add]
                exact cell_of h4 (by omega))
              (fun i j hi hj => mK (h8 i j hi hj))
            rw [list_l, ← hn] at this
            exact this
    | mp r u h1 h2 =>
      intro hok hfree
      cases r with
      | own k => exact mD rfl (.mp (.own k) u h1 h2)
      | loc k =>
        simp only [Abs.frz] at hfree ⊢
        cases hr : st.loc.getD k .dead with
        | cells cs => rw [hr] at hfree; cases hfree
        | dead => rw [hr] at hfree; cases hfree
        | row e xs => rw [hr] at hfree; cases hfree
        | iter m x n s => rw [hr] at hfree; cases hfree
        | map m xs =>
          have hob : S.obj (.loc k) = .map m xs := by rw [hrel.getO_obj]; exact hr
          have := hwf.obj (.loc k)
          rw [hob] at this
          obtain ⟨b, c, clock, ents, us, h3, h4, h5, h6, h7, h8⟩ := this
          have hu := h2 m xs hob _ h3
          subst hu
          exact .v _ _ _ (.mp m (.l xs) b clock ents us (.inr ⟨k, _, h3, rfl⟩) h4 h5 h6 h7 fun i j hi hj => mK (h8 i j hi hj))
    | fn f caps us hl hr _ =>
      intro _ hfree
      simp only [Abs.frz] at hfree ⊢
      exact mD hfree (.fn f caps us hl hr)
    | skip => exact fun _ _ => .skip
    | undef u => exact fun _ _ => .undef u
theorem resOf_run (hT : TabOk P T) (hrel : Rel (lfs T) st H a S) (r : ResultVar) (hr : resOk T st r = true) :
    ∃ v, ((match r with | .tmp t => pure (a.tmps.getD t undef) | .cell x t => do loadVar t (← asAddr (a.tmps.getD x undef)) : Sem Value)).run P S.w = .ok v S.w ∧ RepD (lfs T) S (resOf T st r) v := by
  cases r with
  | tmp t => exact ⟨_, rfl, hrel.rep t⟩
  | cell x t =>
    simp only [resOk, resOf] at hr ⊢
    split at hr
    · rename_i i hx
      split at hr
      · rename_i cs hi
        obtain ⟨⟨h1, h2⟩, h3⟩ : ((T.get t).agg = true ∧ cs.length = (T.get t).lf.length) ∧ 0 < (T.get t).lf.length := by simpa using hr
        have hob : S.obj (.loc i) = .cells cs := by rw [hrel.getO_obj]; exact hi
        have hp := hrel.rep x
        rw [hx] at hp
        obtain ⟨v, g1, g2⟩ := run_loadObj hT hrel.wf h3 hob (off := 0) (by omega) hp
        obtain ⟨b, c, e, arr, hb, _⟩ := hrel.wf.cells hob
        have hpv := hp.ptr_inv hob hb
        refine ⟨v, ?_, ?_⟩
        · rw [hpv] at g1 ⊢
          simpa [Instr.loadAt, Instr.sureAddr, asAddr, Sem.run, pure] using g1
        · rw [mkVal_agg h1, List.drop_zero, List.take_of_length_le (by omega)] at g2
          rw [hi]
          simp only [h1, Obj.cs, h2]
          simpa using g2
      · cases hr
    · cases hr
theorem resL_run (hT : TabOk P T) (hrel : Rel (lfs T) st H a S) : ∀ (l : List ResultVar), l.all (resOk T st) = true → ∃ vs : List Value, ((l.mapM fun | .tmp t => pure (a.tmps.getD t undef) | .cell x t => do loadVar t (← asAddr (a.tmps.getD x undef)) : Sem (List Value))).run P S.w = .ok vs S.w ∧
    vs.length = l.length ∧ ∀ j, j < l.length → RepD (lfs T) S ((l.map (resOf T st)).getD j .undef) (vs.getD j undef)
  | [], _ => ⟨[], rfl, rfl, fun j hj => by simp at hj⟩
  | r :: l, h => by
    have h' : resOk T st r = true ∧ l.all (resOk T st) = true := by simpa using h
    obtain ⟨v, g1, g2⟩ := resOf_run hT hrel r h'.1
    obtain ⟨vs, k1, k2, k3⟩ := resL_run hT hrel l h'.2
    refine ⟨v :: vs, ?_, by simp [k2], fun j hj => ?_⟩
    · rw [List.mapM_cons, run_bind_ok _ _ _ _ _ g1, run_bind_ok _ _ _ _ _ k1]
      rfl
    · cases j with
      | zero => exact g2
      | succ j => exact k3 j (by simpa using hj)
theorem results_run (hT : TabOk P T) (hrel : Rel (lfs T) st H a S) (fn : Func) (h : fn.results.toList.all (resOk T st) = true) : ∃ v, (results fn a.tmps).run P S.w = .ok v S.w ∧ RepD (lfs T) S (resD T fn st) v := by
  obtain ⟨vs, k1, k2, k3⟩ := resL_run (P := P) hT hrel fn.results.toList h
  have hm : (fn.results.mapM fun | .tmp t => pure (a.tmps.getD t undef) | .cell x t => do loadVar t (← asAddr (a.tmps.getD x undef)) : Sem (Array Value)).run P S.w = .ok vs.toArray S.w := by
    have e : fn.results = fn.results.toList.toArray := by simp
    rw [e, List.mapM_toArray, Sem.run_map, k1]
    rfl
  have hr : (results fn a.tmps).run P S.w = .ok (if h : vs.toArray.size = 1 then vs.toArray[0] else .tuple vs.toArray) S.w := by
    unfold results
    exact run_bind_ok _ _ _ _ _ hm
  rw [hr]
  unfold resD
  by_cases h1 : vs.toArray.size = 1
  · rw [dif_pos h1]
    have h2 : fn.results.toList.length = 1 := by rw [← k2]; simpa using h1
    match hl : fn.results.toList, h2 with
    | [r], _ =>
      rw [hl] at k3
      refine ⟨_, rfl, ?_⟩
      have := k3 0 (by simp)
      have e0 : vs.toArray[0] = vs.getD 0 undef := by
        rw [List.getD_eq_getElem?_getD, List.getElem?_eq_getElem (by simpa using (by omega : 0 < vs.toArray.size))]; rfl
      rw [e0]
      exact this
  · rw [dif_neg h1]
    refine ⟨_, rfl, ?_⟩
    split
    · rename_i r hl
      rw [hl] at k2
      simp [k2] at h1
    · refine .tup _ vs (by simp [k2]) (repD_of_list (by simp [k2]) fun j hj => ?_)
      exact k3 j (by omega)
theorem acalls_of_fn {E : Env} (hE : EnvOk P E) {f : FuncId} {fn : Func} (extra : Nat) {args : List D} {H : Heap} {Q : D → Heap → Prop} (hf : P.funcs[f]? = some fn) (h : evFn E fn extra args H Q) : ACalls P (lfs E.T) f args H Q := by
  intro S vs hH hL hla hwf hlen hrep hloc
  unfold evFn at h
  split at h
  · exact h.elim
  · rename_i c hb
    let n := fn.ntmps + extra
    let S1 : Sig := { S with L := List.replicate n .dead, la := List.replicate n none }
    have hrepl : ∀ i, (List.replicate n Obj.dead).getD i .dead = .dead := fun i => by
      simp only [List.getD_eq_getElem?_getD, List.getElem?_replicate]; split <;> rfl
    have hrepn : ∀ i, (List.replicate n (none : Option (Nat × Nat))).getD i none = none := fun i => by
      simp only [List.getD_eq_getElem?_getD, List.getElem?_replicate]; split <;> rfl
    have hb1 : ∀ r, S1.blk r = S.blk r := fun r => by
      cases r with
      | loc i => show (List.replicate n none).getD i none = S.la.getD i none; rw [hrepn, hla]; rfl
      | own i => rfl
    have ho1 : ∀ r, S1.obj r = S.obj r := fun r => by
      cases r with
      | loc i => show (List.replicate n .dead).getD i .dead = S.L.getD i .dead; rw [hrepl, hL]; rfl
      | own i => rfl
    have mD : ∀ {d : D} {u : Value}, RepD (lfs E.T) S d u → RepD (lfs E.T) S1 d u := fun {d u} h =>
      RepD.mono (S := S) (S' := S1) (Nat.le_refl _) (fun _ h => h) (fun _ _ => rfl) (p := fun _ => false) (fun r _ _ => .refl (ho1 r) (hb1 r)) (anyR_false d) h
    have hwf1 : Wf (lfs E.T) S1 := by
      refine ⟨fun b hF => ⟨(hwf.frozen b hF).1, fun r x h => (hwf.frozen b hF).2 r x (hb1 r ▸ h)⟩, fun r r' x x' h h' => hwf.inj r r' x x' (hb1 r ▸ h) (hb1 r' ▸ h'), fun r x h => hwf.lt r x (hb1 r ▸ h), fun r => ?_, hwf.own, hwf.mulen, by simp [S1]⟩
      rw [ho1, hb1]
      have := hwf.obj r
      cases hr : S.obj r with
      | cells cs =>
        rw [hr] at this
        obtain ⟨b, c, e, arr, h3, h4, h5, h6⟩ := this
        exact ⟨b, c, e, arr, h3, h4, h5, fun j hj => ⟨mD (h6 j hj).1, (h6 j hj).2⟩⟩
      | row e xs => rw [hr] at this; exact this
      | map m xs => rw [hr] at this; exact this
      | iter m x n s =>
        rw [hr] at this
        obtain ⟨b, c, mb, h3, h4, h5, h6⟩ := this
        exact ⟨b, c, mb, h3, h4, mD h5, h6⟩
      | dead => rw [hr] at this; exact this
    have hrel : Rel (lfs E.T) ⟨args ++ List.replicate (fn.ntmps - args.length) .skip, List.replicate n .dead⟩ H { tmps := vs.toArray ++ Array.replicate (fn.ntmps - vs.toArray.size) undef, defers := [] } S1 := by
      refine ⟨hH, rfl, by simp [hlen], rfl, fun j => ?_, hwf1⟩
      by_cases hj : j < args.length
      · have e1 : (args ++ List.replicate (fn.ntmps - args.length) D.skip).getD j .undef = args.getD j .undef := by
          rw [List.getD_eq_getElem?_getD, List.getElem?_append_left hj, ← List.getD_eq_getElem?_getD]
        have e2 : (vs.toArray ++ Array.replicate (fn.ntmps - vs.toArray.size) undef).getD j undef = vs.getD j undef := by
          rw [Array.getD_eq_getD_getElem?, Array.getElem?_append_left (by simp; omega), List.getElem?_toArray, List.getD_eq_getElem?_getD]
        rw [e1, e2]
        exact mD (hrep j)
      · by_cases hj2 : j - args.length < fn.ntmps - args.length
        · have e1 : (args ++ List.replicate (fn.ntmps - args.length) D.skip).getD j .undef = .skip := by
            rw [List.getD_eq_getElem?_getD, List.getElem?_append_right (by omega), List.getElem?_replicate, if_pos hj2]; rfl
          have e2 : (vs.toArray ++ Array.replicate (fn.ntmps - vs.toArray.size) undef).getD j undef = undef := by
            rw [Array.getD_eq_getD_getElem?, Array.getElem?_append_right (by simp; omega), Array.getElem?_replicate]; simp only [List.size_toArray]; split <;> rfl
          rw [e1, e2]
          exact .skip
        · have e1 : (args ++ List.replicate (fn.ntmps - args.length) D.skip).getD j .undef = .undef := by
            rw [List.getD_eq_getElem?_getD, List.getElem?_append_right (by omega), List.getElem?_replicate, if_neg hj2]; rfl
          rw [e1]
          exact .undef _
    have hinv : Inv S S1 := by
      refine ⟨⟨Nat.le_refl _, rfl, rfl, rfl, fun b _ h => ⟨rfl, h⟩, fun _ h => h, fun _ _ h => .inl h, Nat.le_refl _, fun _ _ => .refl rfl rfl, fun i x hx => .inl ⟨x, hx, rfl⟩⟩, fun i x hx => ?_⟩
      rw [hb1] at hx
      have : S.blk (.loc i) = none := by show S.la.getD i none = none; rw [hla]; rfl
      rw [this] at hx; cases hx
    obtain ⟨S2, hw2, hrel, hinv⟩ := Rel.adj (E.adj 1000000) hinv hrel
    have hw2' : S2.w = S.w := hw2
    refine calls_of_wp hf hb ?_
    rw [← hw2']
    refine wp_mono (sound_code hE c _ _ _ _ S2 h hrel hinv) fun e a' w' hp => ?_
    obtain ⟨st', H', S', hw, h1, h2, h3⟩ := hp
    have fin : (match fn.results.toList.all (resOk E.T st'), D.local (frz st'.loc (resD E.T fn st')) with
      | true, false => frzOk st'.loc (resD E.T fn st') ∧ Q (frz st'.loc (resD E.T fn st')) H'
      | _, _ => False) → a'.defers = [] ∧ ∃ v, (results fn a'.tmps).run P w' = .ok v w' ∧ ∃ v' r S'', Ending.returned v = .returned v' ∧ S''.w = w' ∧ S''.L = [] ∧ S''.la = [] ∧ Wf (lfs E.T) S'' ∧ RepD (lfs E.T) S'' r v' ∧ D.local r = false ∧ Ext S S'' ∧ Q r S''.H := by
      intro h4
      split at h4
      · rename_i hres hl
        obtain ⟨v, g1, g2⟩ := results_run (P := P) hE.tab h1 fn hres
        obtain ⟨S'', k1, k2, k3, k4, k5, k6, k7⟩ := Rel.close h1 h2
        rw [hw] at g1 k1
        exact ⟨h1.defers, v, g1, v, _, S'', rfl, k1, k2, k3, k5, k7 g2 h4.1 hl, hl, k6, by rw [k4]; exact h4.2⟩
      · exact h4.elim
    cases e with
    | normal => exact fin h3
    | ret => exact fin h3
    | exit id => exact h3.elim
    | goto l => exact h3.elim
    | panic ch => exact h3.elim
    | outgrown => exact h3.elim
end Go.Abs
