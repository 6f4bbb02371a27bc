import Derived.Test.YtgohjdaepcmonaaAbsM
import Derived.Test.YtgohjdaepcmonaaAbsO
set_option linter.unusedVariables false
set_option linter.unusedSimpArgs false
namespace Go.Abs
variable {P : Program} {T : Tab} {S0 : Sig} {o : Oper} {a : Act} {S : Sig} {st : St} {H : Heap}
theorem list_l (xs : List (List V)) : (V.l xs).list = xs := rfl
theorem bound_spec (hrel : Rel (lfs T) st H a S) {x : Option Operand} {dflt b : Int} (h : bound (x.map st.eval) dflt = some b) :
    (x = none ∧ b = dflt) ∨ ∃ y k, x = some y ∧ a.eval y = .int k b := by
  cases x with
  | none => simp [bound] at h; exact .inl ⟨rfl, h.symm⟩
  | some y =>
    have hy := hrel.eval y
    simp only [Option.map_some, bound] at h
    split at h
    · rename_i h1; cases h1
    · rename_i k j h1
      simp only [Option.some.injEq] at h1 h
      rw [h1] at hy
      exact .inr ⟨y, k, rfl, by rw [hy.int_inv, h]⟩
    · cases h
theorem run_sliceBounds {isS : Bool} {len cap : Nat} {lo hi : Option Operand} {l h : Int} {w : World} (hl : (lo = none ∧ l = 0) ∨ ∃ y k, lo = some y ∧ a.eval y = .int k l) (hh : (hi = none ∧ h = (len : Int)) ∨ ∃ y k, hi = some y ∧ a.eval y = .int k h)
    (h0 : 0 ≤ l) (h1 : l ≤ h) (h2 : h ≤ cap) : (Instr.sliceBounds isS len cap (lo.map a.eval) (hi.map a.eval) none).run P w = .ok (l.toNat, h.toNat, cap) w := by
  have hb : ∀ (k : IntKind) (i : Int) (m : Nat) (c : BoundsCode), 0 ≤ i → i ≤ m → (Instr.sliceBound (.int k i) m c).run P w = .ok i.toNat w := by
    intro k i m c h3 h4
    simp only [Instr.sliceBound, asIntOf, Sem.run_bind, Result.andThen_ok, show ∀ (α : Type) (x : α), (pure x : Sem α).run P w = .ok x w from fun _ _ => rfl]
    rw [if_pos ⟨h3, h4⟩]; rfl
  rcases hl with ⟨rfl, rfl⟩ | ⟨y, k, rfl, hy⟩ <;> rcases hh with ⟨rfl, rfl⟩ | ⟨y', k', rfl, hy'⟩
  · simp [Instr.sliceBounds, Sem.run, pure]
  · simp only [Instr.sliceBounds, Option.map_some, Option.map_none, hy']
    simp [Sem.run, pure, hb k' h cap _ (by omega) h2]
  · simp only [Instr.sliceBounds, Option.map_some, Option.map_none, hy]
    simp [Sem.run, pure, hb k l len _ h0 h1]
  · have h5 := hb k l h.toNat .sliceB h0 (by omega)
    simp only [Instr.sliceBounds, Option.map_some, hy, hy']
    simp [Sem.run, pure, hb k' h cap _ (by omega) h2, h5]
theorem ok_slice (hT : TabOk P T) (t : TypeId) (x : Operand) (lo hi : Option Operand) (q : D → St → Heap → Prop) (ho : o.op = .slice t x lo hi none) (hrel : Rel (lfs T) st H a S) (hinv : Inv S0 S)
    (h : evSlice T t (st.eval x) (lo.map st.eval) (hi.map st.eval) fun d => q d st H) : OpOk P T S0 o a S q := by
  have hx := hrel.eval x
  unfold evSlice at h
  split at h
  · rename_i s h1
    rw [h1] at hx
    have ex := hx.str_inv
    split at h
    · rename_i l hh hk hl hhi
      have hu := hT.get_str (t := t) (by simpa using hk)
      obtain ⟨h3, h4, h5, h6⟩ := h
      have hb := run_sliceBounds (P := P) (a := a) (isS := false) (len := s.str.size) (cap := s.str.size) (w := S.w) (bound_spec hrel hl) (bound_spec hrel hhi) h3 h4 h5
      refine OpOk.value hrel hinv (v := .string (s.str.extract l.toNat hh.toNat)) (d := _) ?_ (RepD.mkStr _ (by
        have := hx.str_len
        have h7 : (s.str.extract l.toNat hh.toNat).size = min hh.toNat s.str.size - l.toNat := ByteArray.size_extract
        omega)) h6
      simp only [execOp, ho, Instr.sliceAt, Instr.slice, ex, Sem.run_bind, run_underlying hu, Result.andThen_ok]
      simp [Sem.run, pure, hb]
    · exact h.elim
  · rename_i e y h1
    rw [h1] at hx
    split at h
    · rename_i e' l hh he hl hhi
      have hu := hT.get_el he
      split at h
      · rename_i hee0
        obtain ⟨hee, hn⟩ : e = e' ∧ 0 < (T.get e).lf.length := by simpa using hee0
        subst hee
        obtain ⟨hok, ht⟩ := hT.get hn
        have hs := hok.size S.w
        rw [ht] at hs
        obtain ⟨h3, h4, h5, h6⟩ := h
        have hlen : ((y.list.take hh.toNat).drop l.toNat).length = hh.toNat - l.toNat := by simp; omega
        generalize hv : a.eval x = u at hx
        cases hx with
        | v _ _ _ hk =>
          cases hk with
          | sl0 _ _ A c h0 =>
            have hh0 : hh = 0 := by rw [h0] at h5; simp at h5; omega
            have hl0 : l = 0 := by omega
            have hb := run_sliceBounds (P := P) (a := a) (isS := true) (len := 0) (cap := c) (w := S.w) (bound_spec hrel hl) (by rw [h0] at hhi; exact bound_spec hrel hhi) h3 h4 (by omega)
            subst hh0 hl0
            refine OpOk.value hrel hinv (v := .slice (if c = 0 then A else A.map (·.add (0 * (T.get e).lf.length))) 0 c) ?_ (.v _ _ _ (.sl0 e _ _ c (by simp [list_l]))) h6
            simp only [execOp, ho, Instr.sliceAt, Instr.slice, hv, Sem.run_bind, run_underlying hu, Result.andThen_ok]
            simp [Sem.run, pure, hb, hs]
          | sl _ _ b off c us hb' hc hlen' hcell hrep =>
            have hb := run_sliceBounds (P := P) (a := a) (isS := true) (len := y.list.length) (cap := c) (w := S.w) (bound_spec hrel hl) (bound_spec hrel hhi) h3 h4 (by omega)
            have hrun : (execOp a.eval o).run P S.w = .ok (.value (.slice (if c = l.toNat then some ⟨b, off, none⟩ else some ⟨b, off + l.toNat * (T.get e).lf.length, none⟩) (hh.toNat - l.toNat) (c - l.toNat))) S.w := by
              simp only [execOp, ho, Instr.sliceAt, Instr.slice, hv, Sem.run_bind, run_underlying hu, Result.andThen_ok]
              simp [Sem.run, pure, hb, hs, add_plain]
            by_cases hz : hh.toNat - l.toNat = 0
            · refine OpOk.value hrel hinv hrun (.v _ _ _ ?_) h6
              rw [hz]
              exact .sl0 e _ _ _ (by simp only [list_l]; exact List.eq_nil_of_length_eq_zero (by omega))
            · have hcl : ¬ c = l.toNat := by omega
              rw [if_neg hcl] at hrun
              refine OpOk.value hrel hinv hrun (.v _ _ _ ?_) h6
              have := RepK.sl (lf := lfs T) (w := S.w) (F := S.F) e (.l ((y.list.take hh.toNat).drop l.toNat)) b (off + l.toNat * (T.get e).lf.length) (c - l.toNat) (fun i j => us (l.toNat + i) j) hb' (by simp only [list_l]; omega)
                (fun i hi => by
                  simp only [list_l] at hi ⊢
                  rw [getD_drop, getD_take _ _ _ _ (by omega)]
                  exact hlen' _ (by omega))
                (fun i j hi hj => by
                  simp only [list_l] at hi
                  rw [← hcell (l.toNat + i) j (by omega) hj]
                  congr 2
                  simp only [lfs]
                  rw [Nat.add_mul]
                  omega)
                (fun i j hi hj => by
                  simp only [list_l] at hi ⊢
                  rw [getD_drop, getD_take _ _ _ _ (by omega)]
                  exact hrep _ j (by omega) hj)
              simp only [list_l, hlen] at this
              exact this
      · exact h.elim
    · exact h.elim
  · exact h.elim
structure EnvOk (P : Program) (E : Env) : Prop where
  tab : TabOk P E.T
  ent : ∀ f, E.ent f = true → ∀ args w, (callFunc f args).run P w = .ok (.enter f args) w
  call : ∀ f args H Q, E.call f args H Q → ACalls P (lfs E.T) f args H Q
  mono : ∀ f args H Q Q', (∀ r H', Q r H' → Q' r H') → E.call f args H Q → E.call f args H Q'
  mixed : P.follows .mixedOrders = true
  ext : ∀ f, E.ext f = true → ∀ a b w, (callFunc f #[.string a, .string b]).run P w = .ok (.value (.int .i64 (Lib.compareBytes a.data.toList b.data.toList))) w
theorem call_reps {S : Sig} {st : St} {H : Heap} {a : Act} (hrel : Rel (lfs T) st H a S) (l : List Operand) {caps : List D} {us : List Value} (hl : caps.length = us.length) (hr : ∀ j, RepD (lfs T) S (caps.getD j .undef) (us.getD j undef)) :
    ∀ j, RepD (lfs T) S ((l.map st.eval ++ caps).getD j .undef) ((l.map a.eval ++ us).getD j undef) := by
  refine repD_of_list (by simp [hl]) fun j hj => ?_
  by_cases h1 : j < l.length
  · have e1 : (l.map st.eval ++ caps).getD j .undef = st.eval l[j] := by
      rw [List.getD_eq_getElem?_getD, List.getElem?_append_left (by simpa using h1), List.getElem?_map, List.getElem?_eq_getElem h1]; rfl
    have e2 : (l.map a.eval ++ us).getD j undef = a.eval l[j] := by
      rw [List.getD_eq_getElem?_getD, List.getElem?_append_left (by simpa using h1), List.getElem?_map, List.getElem?_eq_getElem h1]; rfl
    rw [e1, e2]
    exact hrel.eval _
  · have e1 : (l.map st.eval ++ caps).getD j .undef = caps.getD (j - l.length) .undef := by
      rw [List.getD_eq_getElem?_getD, List.getElem?_append_right (by simpa using h1), List.length_map, ← List.getD_eq_getElem?_getD]
    have e2 : (l.map a.eval ++ us).getD j undef = us.getD (j - l.length) undef := by
      rw [List.getD_eq_getElem?_getD, List.getElem?_append_right (by simpa using h1), List.length_map, ← List.getD_eq_getElem?_getD]
    rw [e1, e2]
    exact hr _
theorem plainA_length : ∀ (l : List (Option TypeId)) (ds : List D), (plainA l ds).length = ds.length
  | [], _ => rfl
  | some _ :: _, [] => rfl
  | none :: _, [] => rfl
  | some _ :: l, _ :: r => by simp [plainA, plainA_length l r]
  | none :: l, _ :: r => by simp [plainA, plainA_length l r]
theorem plainA_rep : ∀ (l : List (Option TypeId)) (ds : List D) (vs : List Value), (∀ j, RepD (lfs T) S (ds.getD j .undef) (vs.getD j undef)) → ∀ j, RepD (lfs T) S ((plainA l ds).getD j .undef) (vs.getD j undef)
  | [], _, _, h => h
  | some _ :: _, [], _, h => h
  | none :: _, [], _, h => h
  | some e :: l, d :: r, vs, h => fun j => by
    cases j with
    | zero => exact plain_rep (k := .sl e) (h 0)
    | succ j =>
      have := plainA_rep l r vs.tail (fun j => by
        have := h (j + 1)
        cases vs <;> exact this) j
      cases vs <;> exact this
  | none :: l, d :: r, vs, h => fun j => by
    cases j with
    | zero => exact h 0
    | succ j =>
      have := plainA_rep l r vs.tail (fun j => by
        have := h (j + 1)
        cases vs <;> exact this) j
      cases vs <;> exact this
theorem run_enter {E : Env} (hE : EnvOk P E) {c : Call} {fo : Operand} {g : FuncId} {us : List Value} (ho : o.op = .call c) (hc : c.callee = .value fo) (hfv : a.eval fo = .func (.func g) #[] us.toArray) (hent : E.ent g = true) :
    (execOp a.eval o).run P S.w = .ok (.enter g (c.args.toList.map a.eval ++ us).toArray) S.w := by
  have e1 : c.args.map a.eval = (c.args.toList.map a.eval).toArray := by apply Array.ext'; simp
  simp only [execOp, ho, resolve, hc, hfv, Deferred.ofValue, Sem.run_bind, show ∀ (α : Type) (x : α), (pure x : Sem α).run P S.w = .ok x S.w from fun _ _ => rfl, Result.andThen_ok, invoke]
  rw [hE.ent g hent]
  simp [e1]
theorem ok_callA {E : Env} (hE : EnvOk P E) (c : Call) (fo : Operand) (g : FuncId) (args : List D) (us : List Value) (q : D → St → Heap → Prop) (ho : o.op = .call c) (hc : c.callee = .value fo) (hrel : Rel (lfs E.T) st H a S) (hinv : Inv S0 S)
    (hfv : a.eval fo = .func (.func g) #[] us.toArray) (hlen : args.length = (c.args.toList.map a.eval ++ us).length) (hreps : ∀ j, RepD (lfs E.T) S (args.getD j .undef) ((c.args.toList.map a.eval ++ us).getD j undef))
    (h : evCall E g args st H q) : OpOk P E.T S0 o a S q := by
  unfold evCall at h
  split at h
  · split at h
    · rename_i x y hext
      intro next Q hnext
      · match hus : c.args.toList.map a.eval ++ us, hlen with
        | [u1, u2], _ =>
          rw [hus] at hreps
          have e1 : u1 = .string x.str := (show RepD (lfs E.T) S (.v .str x) u1 from hreps 0).str_inv
          have e2 : u2 = .string y.str := (show RepD (lfs E.T) S (.v .str y) u2 from hreps 1).str_inv
          subst e1 e2
          unfold Oper.wp
          have hrun : (execOp a.eval o).run P S.w = .ok (.value (.int .i64 (Lib.compareBytes x.str.data.toList y.str.data.toList))) S.w := by
            have e1 : (#[] ++ c.args.map a.eval ++ us.toArray) = #[.string x.str, .string y.str] := by
              apply Array.ext'; simp; simpa using hus
            simp only [execOp, ho, resolve, hc, hfv, Deferred.ofValue, Sem.run_bind, show ∀ (α : Type) (x : α), (pure x : Sem α).run P S.w = .ok x S.w from fun _ _ => rfl, Result.andThen_ok, invoke]
            rw [e1, hE.ext _ hext]
          rw [hrun]
          exact hnext _ _ st H S h hrel hinv (RepD.mkInt _)
    · exact h.elim
  · rename_i hent
    simp only at h
    split at h
    · exact h.elim
    · rename_i hok
      · intro next Q hnext
        unfold Oper.wp
        rw [run_enter hE ho hc hfv hent]
        generalize args = args0 at *
        generalize c.args.toList.map a.eval ++ us = vs at *
        have hlen : (plainA (E.nils g) args0).length = vs.length := by rw [plainA_length]; exact hlen
        have hreps := plainA_rep (E.nils g) args0 vs hreps
        generalize plainA (E.nils g) args0 = args at *
        generalize rsOf st H args = rs at *
        obtain ⟨k1, k2, k3, k4, k5⟩ := okRefs_spec hrel hok
        rw [k5] at h
        have hwf1 := hrel.wf.sub k1 k3 k4
        have hcall := hE.call _ _ _ _ h (S.sub rs) vs rfl rfl rfl hwf1 (by rw [mapRL_length]; exact hlen)
          (fun j => by rw [mapRL_getD]; exact RepD.ren (S := S) (S' := S.sub rs) (fun _ h => h) (fun _ _ => rfl) (renR rs) (hreps j) fun r hr => sub_keep S (k2 r (refs_getD hr))) (renL_noloc rs args)
        refine hcall.mono fun e w' ⟨v, r, S1, he, hw, hL, hla, hwf', hrv, hlr, hext, hr', hH', hq⟩ => ?_
        subst he
        split at hq
        · exact hq.elim
        · rename_i hbd
          have hlen1 : S1.H.length = rs.length := by rw [hH', reshapes_length]; simp [Sig.sub]
          obtain ⟨b1, b2, b3⟩ := hrel.join hinv k1 k3 k4 hL hla hwf' hext hlen1 (fun i r' hr' => by
            have : r' ∈ (S1.H.getD i .dead).refs := hr'
            rw [hH'] at this
            exact reshapes_refs _ _ i r' this)
          rw [← hH'] at hq
          rw [← hw]
          refine hnext _ v _ _ (S.join rs S1) hq b1 b2 ?_
          refine b3 hbd ?_
          rw [← hr']; exact hrv
theorem ok_call {E : Env} (hE : EnvOk P E) (c : Call) (fo : Operand) (g : FuncId) (caps : List D) (q : D → St → Heap → Prop) (ho : o.op = .call c) (hc : c.callee = .value fo) (hrel : Rel (lfs E.T) st H a S) (hinv : Inv S0 S)
    (hf : st.eval fo = .fn g caps) (h : evCallO E g o.dst (c.args.toList.map st.eval ++ caps) st H q) : OpOk P E.T S0 o a S q := by
  have hfo := hrel.eval fo
  rw [hf] at hfo
  generalize hfv : a.eval fo = u at hfo
  cases hfo with
  | fn _ _ us hl hr =>
    have hlen : (c.args.toList.map st.eval ++ caps).length = (c.args.toList.map a.eval ++ us).length := by simp [hl]
    have hreps := call_reps hrel c.args.toList hl hr
    unfold evCallO at h
    split at h
    · rename_i k e d hd1 hd2
      split at h
      · rename_i hnil
        obtain ⟨h1, h2, h3⟩ := Rel.newRow hrel hinv d e
        generalize c.args.toList.map st.eval ++ caps = args at *
        have hsc : ∀ j, RepD (lfs E.T) (newSig S d (.row e []) none S.w) ((args.map (scrubD d)).getD j .undef) ((c.args.toList.map a.eval ++ us).getD j undef) := fun j => by
          rw [getD_map_scrub]
          exact newSig_repD (w' := S.w) hrel.wf (fun _ _ => rfl) (hreps j)
        have := ok_callA (S := newSig S d (.row e []) none S.w) hE c fo g _ us q ho hc h1 h2 hfv (by simpa using hlen) (fun j => ?_) h
        · exact this
        rw [set_getD]
        split
        · rename_i hj
          have hk := hreps k
          rw [hnil] at hk
          rw [hj.1]
          generalize (c.args.toList.map a.eval ++ us).getD k undef = v at hk
          cases hk
          exact h3
        · exact hsc j
      · exact ok_callA hE c fo g _ us q ho hc hrel hinv hfv hlen hreps h
    · exact ok_callA hE c fo g _ us q ho hc hrel hinv hfv hlen hreps h
theorem map_one {f : Operand → D} {l : Array Operand} {x : D} (h : l.toList.map f = [x]) : ∃ y, l = #[y] ∧ f y = x := by
  obtain ⟨l⟩ := l
  match l, h with
  | [y], h => exact ⟨y, rfl, by simpa using h⟩
theorem map_two {f : Operand → D} {l : Array Operand} {x y : D} (h : l.toList.map f = [x, y]) : ∃ x' y', l = #[x', y'] ∧ f x' = x ∧ f y' = y := by
  obtain ⟨l⟩ := l
  match l, h with
  | [x', y'], h => exact ⟨x', y', rfl, by simpa using h⟩
theorem ok_builtin {E : Env} (hE : EnvOk P E) (b : Builtin) (cargs : Array Operand) (cts : Array TypeId) (q : D → St → Heap → Prop) (ho : o.op = .call { callee := .builtin b, args := cargs, argTypes := cts }) (hrel : Rel (lfs E.T) st H a S) (hinv : Inv S0 S)
    (h : evBuiltin E b cts.toList o.dst (cargs.toList.map st.eval) st H q) : OpOk P E.T S0 o a S q := by
  have hT := hE.tab
  unfold evBuiltin at h
  split at h
  · rename_i x hl
    split at h
    · rename_i t ht
      obtain ⟨y, rfl, rfl⟩ := map_one hl
      obtain rfl : cts = #[t] := by apply Array.ext'; simpa using ht
      exact ok_len hT y t q ho hrel hinv h
    · exact h.elim
  · rename_i s x hl
    split at h
    · rename_i t t' ht
      obtain ⟨s', x', rfl, rfl, rfl⟩ := map_two hl
      obtain rfl : cts = #[t, t'] := by apply Array.ext'; simpa using ht
      split at h
      · rename_i e d htt he hd
        have htt' : t = t' := by simpa using htt
        subst htt'
        split at h
        · rename_i hn
          exact ok_append hT t e s' x' d q ho he (by simpa using hn) hrel hinv h
        · exact h.elim
      · exact h.elim
    · exact h.elim
  · rename_i hl
    have h' := h
    unfold evMinMax at h'
    split at h'
    · rename_i k m k' n hl2
      obtain ⟨s', x', rfl, h1, h2⟩ := map_two hl2
      refine ok_minmax true s' x' cts q ho hrel hinv ?_
      simpa using h
    · exact h'.elim
  · rename_i hl
    have h' := h
    unfold evMinMax at h'
    split at h'
    · rename_i k m k' n hl2
      obtain ⟨s', x', rfl, h1, h2⟩ := map_two hl2
      refine ok_minmax false s' x' cts q ho hrel hinv ?_
      simpa using h
    · exact h'.elim
  · exact h.elim
theorem ok_op {E : Env} (hE : EnvOk P E) (o : Oper) (q : D → St → Heap → Prop) (hrel : Rel (lfs E.T) st H a S) (hinv : Inv S0 S) (h : evOp E o st H q) : OpOk P E.T S0 o a S q := by
  have hT := hE.tab
  unfold evOp at h
  split at h
  · rename_i x ho; exact ok_move x q (.inl ho) hrel hinv h
  · rename_i x ho; exact ok_move x q (.inr ho) hrel hinv h
  · rename_i c x y ho; exact ok_pick c x y q ho hrel hinv h
  · rename_i e ho
    split at h
    · rename_i d hd hn
      exact ok_alloc hT e d q ho hd (by simpa using hn) hrel hinv h
    · exact h.elim
  · rename_i e x ho
    split at h
    · rename_i d hd hn
      obtain ⟨_, hn2⟩ : _ ∧ (st.eval x).cells.all D.isCell = true := by simpa using hn
      exact ok_box hT e x d q ho hrel hinv (by simpa using hn2) h
    · exact h.elim
  · rename_i t parts ho; exact ok_build hT t parts q ho hrel hinv h
  · rename_i t n parts ho; exact ok_buildSlice hT (litOf E o.dst) t n parts q ho hrel hinv h
  · rename_i t x ho; exact ok_load hT t x q ho hrel hinv h
  · rename_i t x y ho; exact ok_store hT t x y q ho hrel hinv h
  · rename_i x ho; exact ok_nilCheck x q ho hrel hinv h
  · rename_i op xt x y yt ho; exact ok_bin hT op xt yt x y q ho hrel hinv h
  · rename_i op xt x ho; exact ok_un op xt x q ho hrel hinv h
  · rename_i s x f ho; exact ok_fieldAddr hT s x f q ho hrel hinv h
  · rename_i s x f ho; exact ok_field hT s x f q ho hrel hinv h
  · rename_i t x i ho; exact ok_indexAddr hT t x i q ho hrel hinv h
  · rename_i t x i ho; exact ok_index hT t x i q ho hrel hinv h
  · rename_i t x lo hi ho; exact ok_slice hT t x lo hi q ho hrel hinv h
  · rename_i f first caps ho; exact ok_makeFunc f first caps q ho hrel hinv h
  · rename_i s t x ho; exact ok_convert hT s t x q ho hrel hinv h
  · rename_i t x y ho
    split at h
    · rename_i d hd
      exact ok_makeSlice hT t x y d q ho hrel hinv h
    · exact h.elim
  · rename_i t ho
    split at h
    · rename_i d hd
      exact ok_makeMap hT t d q ho hd hrel hinv h
    · exact h.elim
  · rename_i t x i ok ho; exact ok_lookup hT t x i ok q ho hrel hinv h
  · rename_i t m k x ho; exact ok_mapUpdate hT t m k x q ho hrel hinv h
  · rename_i t x ho
    split at h
    · rename_i d hd
      exact ok_range hT t x d q ho hd hrel hinv h
    · exact h.elim
  · rename_i it ho; exact ok_next hT it q ho hrel hinv h
  · rename_i it ho; exact ok_entry hT it q ho hrel hinv h
  · rename_i x i ho; exact ok_extract x i q ho hrel hinv h
  · rename_i c ho
    split at h
    · rename_i b hb
      obtain ⟨callee, cargs, cts⟩ := c
      simp only at hb
      subst hb
      exact ok_builtin hE b cargs cts q ho hrel hinv h
    · rename_i f hf
      split at h
      · rename_i g caps hg
        exact ok_call hE c f g caps q ho hf hrel hinv hg h
      · exact h.elim
    · exact h.elim
  · exact h.elim
theorem Rel.repl' (hrel : Rel (lfs T) st H a S) (g : Nat) {d : D} (hd : RepD (lfs T) S d (a.tmps.getD g undef)) : Rel (lfs T) ⟨st.tmps.set g d, st.loc⟩ H a S := by
  refine ⟨hrel.H, hrel.L, by simpa using hrel.size, hrel.defers, fun j => ?_, hrel.wf⟩
  show RepD _ _ ((st.tmps.set g d).getD j .undef) _
  rw [set_getD]
  split
  · rename_i h; rw [h.1]; exact hd
  · exact hrel.rep j
theorem Rel.adj1 (hinv : Inv S0 S) (x : Adj) (hrel : Rel (lfs T) st H a S) : ∃ S', S'.w = S.w ∧ Rel (lfs T) (Abs.adj1 x st) H a S' ∧ Inv S0 S' := by
  cases x with
  | undef t =>
    refine ⟨S, rfl, ⟨hrel.H, hrel.L, by simpa [Abs.adj1] using hrel.size, hrel.defers, fun j => ?_, hrel.wf⟩, hinv⟩
    show RepD _ _ ((st.tmps.set t .undef).getD j .undef) _
    rw [set_getD]
    split
    · exact .undef _
    · exact hrel.rep j
  | dead i => exact ⟨newSig S i .dead none S.w, rfl, Rel.drop hrel hinv i⟩
  | ownT t i e =>
    simp only [Abs.adj1]
    split
    · rename_i hnil
      obtain ⟨h1, h2, h3⟩ := Rel.newRow hrel hinv i e
      have hx := hrel.rep t
      rw [hnil] at hx
      have hv : a.tmps.getD t Go.undef = .slice none 0 0 := by
        generalize a.tmps.getD t Go.undef = u at hx
        cases hx; rfl
      refine ⟨newSig S i (.row e []) none S.w, rfl, ⟨h1.H, h1.L, by simpa using h1.size, h1.defers, fun j => ?_, h1.wf⟩, h2⟩
      show RepD _ _ (((Abs.newLoc i (.row e []) st).tmps.set t (.osl (.loc i) 0)).getD j .undef) _
      rw [set_getD]
      split
      · rename_i h
        rw [h.1, hv]
        exact h3
      · exact h1.rep j
    · exact ⟨S, rfl, hrel, hinv⟩
  | ownC l j i e =>
    simp only [Abs.adj1]
    split
    · rename_i cs hl hli
      have hne : l ≠ i := fun h => by rw [h, Nat.beq_refl i] at hli; cases hli
      split
      · rename_i hnil
        obtain ⟨h1, h2, h3⟩ := Rel.newRow hrel hinv i e
        have hob : S.obj (.loc l) = .cells cs := by rw [hrel.getO_obj]; exact hl
        obtain ⟨b, c, e', arr, hb, hh, hsz, hr⟩ := hrel.wf.cells hob
        have hol : (newSig S i (.row e []) none S.w).obj (.loc l) = .cells (cs.map (scrubD i)) ∧ (newSig S i (.row e []) none S.w).blk (.loc l) = some (b, c) := by
          rcases newSig_obj hrel.wf i (.row e []) none S.w (.loc l) with ⟨h4, _⟩ | ⟨_, h4, h5⟩ | ⟨⟨k, hk⟩, _⟩
          · exact absurd h4 (fun h => hne (by cases h; rfl))
          · rw [h4, hob, h5]; exact ⟨rfl, hb⟩
          · cases hk
        have hhas : (newSig S i (.row e []) none S.w).has (.loc l) := Sig.has_of (by rw [hol.1]; intro h; cases h)
        have hjl : ∀ (h : j < cs.length), arr.getD j undef = .slice none 0 0 := fun h => by
          have h4 := (hr j h).1
          rw [hnil] at h4
          generalize arr.getD j undef = u at h4
          cases h4; rfl
        obtain ⟨g1, g2, _⟩ := Rel.upd h1 h2 (.loc l) (.cells ((cs.map (scrubD i)).set j (.osl (.loc i) 0))) (some (b, c)) S.w hhas (Nat.le_refl _) (fun _ _ _ => rfl) rfl rfl rfl
          (fun x hx => by cases hx; exact ⟨.inl ⟨_, hol.2, rfl⟩, hrel.wf.lt _ _ hb⟩)
          (by
            obtain ⟨j1, j2⟩ := Sig.upd_at h1.wf hhas (.cells ((cs.map (scrubD i)).set j (.osl (.loc i) 0))) (some (b, c)) S.w
            refine ⟨fun bc j3 j4 => ⟨by rw [hol.1]; rfl, ?_⟩, fun e' xs' j3 => ?_, fun e' xs' j3 => (by rw [j1] at j3; cases j3)⟩
            · rw [j2] at j4; rw [hol.2]; exact j4
            · rw [j1] at j3; cases j3)
          (fun _ h => by cases h)
          (fun mD mK => ⟨b, c, e', arr, rfl, by rw [Sig.upd_w]; exact hh, by simpa using hsz, fun k hk => by
            have hk' : k < cs.length := by simpa using hk
            rw [set_getD]
            split
            · rename_i h
              rw [h.1, hjl (h.1 ▸ hk')]
              exact ⟨mD h3, rfl⟩
            · rw [getD_map_scrub]
              exact ⟨mD (newSig_repD (w' := S.w) hrel.wf (fun _ _ => rfl) (hr k hk').1), (hr k hk').2⟩⟩)
        exact ⟨_, by rw [Sig.upd_w], g1, g2⟩
      · exact ⟨S, rfl, hrel, hinv⟩
    · exact ⟨S, rfl, hrel, hinv⟩
  | plainT t e => exact ⟨S, rfl, hrel.repl' t (plain_rep (hrel.rep t)), hinv⟩
  | plainC l j e =>
    simp only [Abs.adj1]
    split
    · rename_i cs hl
      have hob : S.obj (.loc l) = .cells cs := by rw [hrel.getO_obj]; exact hl
      obtain ⟨b, c, e', arr, hb, hh, hsz, hr⟩ := hrel.wf.cells hob
      have hhas : S.has (.loc l) := Sig.has_of (by rw [hob]; intro h; cases h)
      obtain ⟨g1, g2, _⟩ := Rel.upd hrel hinv (.loc l) (.cells (cs.set j ((cs.getD j .undef).plain (.sl e)))) (some (b, c)) S.w hhas (Nat.le_refl _) (fun _ _ _ => rfl) rfl rfl rfl
        (fun x hx => by cases hx; exact ⟨.inl ⟨_, hb, rfl⟩, hrel.wf.lt _ _ hb⟩)
        (by
          obtain ⟨j1, j2⟩ := Sig.upd_at hrel.wf hhas (.cells (cs.set j ((cs.getD j .undef).plain (.sl e)))) (some (b, c)) S.w
          refine ⟨fun bc j3 j4 => ⟨by rw [hob]; rfl, ?_⟩, fun e' xs' j3 => ?_, fun e' xs' j3 => (by rw [j1] at j3; cases j3)⟩
          · rw [j2] at j4; rw [hb]; exact j4
          · rw [j1] at j3; cases j3)
        (fun _ h => by cases h)
        (fun mD mK => ⟨b, c, e', arr, rfl, by rw [Sig.upd_w]; exact hh, by simpa using hsz, fun k hk => by
          have hk' : k < cs.length := by simpa using hk
          rw [set_getD]
          split
          · rename_i h
            rw [h.1]
            exact ⟨mD (plain_rep (hr j (h.1 ▸ hk')).1), (hr j (h.1 ▸ hk')).2⟩
          · exact ⟨mD (hr k hk').1, (hr k hk').2⟩⟩)
      exact ⟨_, Sig.upd_w _ _ _ _ _, g1, g2⟩
    · exact ⟨S, rfl, hrel, hinv⟩
theorem Rel.adj : ∀ (l : List Adj) {st : St} {S : Sig}, Inv S0 S → Rel (lfs T) st H a S → ∃ S', S'.w = S.w ∧ Rel (lfs T) (Abs.adj l st) H a S' ∧ Inv S0 S'
  | [], st, S, hinv, hrel => ⟨S, rfl, hrel, hinv⟩
  | x :: r, st, S, hinv, hrel => by
    obtain ⟨S1, h1, h2, h3⟩ := Rel.adj1 hinv x hrel
    obtain ⟨S2, k1, k2, k3⟩ := Rel.adj r h3 h2
    exact ⟨S2, k1.trans h1, k2, k3⟩
theorem Rel.frz1 (hrel : Rel (lfs T) st H a S) (hinv : Inv S0 S) {l j i : Nat} {cs : List D} {e : TypeId} {xs : List (List V)} {n : Nat} (hl : st.loc.getD l .dead = .cells cs) (hi : st.loc.getD i .dead = .row e xs) (hli : l ≠ i) (hj : cs.getD j .undef = .osl (.loc i) n) (hn : n = xs.length) :
    ∃ S', S'.w = S.w ∧ Rel (lfs T) ⟨(Abs.newLoc i .dead st).tmps, (Abs.newLoc i .dead st).loc.set l (.cells ((cs.map (scrubD i)).set j (.v (.sl e) (.l xs))))⟩ H a S' ∧ Inv S0 S' := by
  have hwf := hrel.wf
  have hobi : S.obj (.loc i) = .row e xs := by rw [hrel.getO_obj]; exact hi
  have hobl : S.obj (.loc l) = .cells cs := by rw [hrel.getO_obj]; exact hl
  -- the row's blocks are data from now on
  let F' : Nat → Prop := fun b => S.F b ∨ ∃ x, S.blk (.loc i) = some x ∧ x.1 = b
  obtain ⟨h1, h2⟩ := Rel.drop hrel hinv i
  let S1 : Sig := newSig S i .dead none S.w
  have hb1 : ∀ r x, S1.blk r = some x → S.blk r = some x ∧ r ≠ .loc i := fun r x hx => by
    have hx0 := hx
    rcases newSig_obj hwf i .dead none S.w r with ⟨_, _, _, g⟩ | ⟨g0, _, g⟩ | ⟨⟨k, hk⟩, _, g⟩
    · rw [show S1.blk r = none from g] at hx; cases hx
    · refine ⟨by rw [← g]; exact hx, fun hr => ?_⟩
      subst hr
      have := g0 rfl
      have h7 : S.la.getD i none = none := by
        rw [List.getD_eq_getElem?_getD, List.getElem?_eq_none (by rw [hwf.lalen]; omega)]; rfl
      rw [show S1.blk (.loc i) = S.blk (.loc i) from g, show S.blk (.loc i) = none from h7] at hx0
      cases hx0
    · exact ⟨by rw [← g]; exact hx, fun hr => by rw [hk] at hr; cases hr⟩
  let S2 : Sig := { S1 with F := F' }
  have mK1 : ∀ {k : K} {x : V} {u : Value}, RepK (lfs T) S1.w S1.F k x u → RepK (lfs T) S2.w S2.F k x u := fun h => RepK.mono (w := S1.w) (w' := S2.w) (F := S1.F) (F' := S2.F) (fun b hb => .inl hb) (fun _ _ => rfl) h
  have mD : ∀ {d : D} {u : Value}, RepD (lfs T) S1 d u → RepD (lfs T) S2 d u := fun {d u} h =>
    RepD.mono (S := S1) (S' := S2) (Nat.le_refl _) (fun b hb => .inl hb) (fun _ _ => rfl) (p := fun _ => false) (fun r _ _ => .refl rfl rfl) (anyR_false d) h
  have hwf1 := h1.wf
  have hwf2 : Wf (lfs T) S2 := by
    refine ⟨fun b hb => ?_, hwf1.inj, hwf1.lt, fun r => ?_, hwf1.own, hwf1.mulen, hwf1.lalen⟩
    · rcases hb with hb | ⟨x, hx, rfl⟩
      · exact hwf1.frozen b hb
      · refine ⟨hwf.lt _ x hx, fun r y hy he => ?_⟩
        obtain ⟨g1, g2⟩ := hb1 r y hy
        exact g2 (hwf.inj r (.loc i) y x g1 hx he)
    · have := hwf1.obj r
      show ObjRep (lfs T) S2 (S1.obj r) (S1.blk r)
      cases hr : S1.obj r with
      | cells cs =>
        rw [hr] at this
        obtain ⟨b, c, e, arr, h3, h4, h5, h6⟩ := this
        exact ⟨b, c, e, arr, h3, h4, h5, fun j hj => ⟨mD (h6 j hj).1, (h6 j hj).2⟩⟩
      | row e xs =>
        rw [hr] at this
        rcases this with h3 | ⟨b, c, arr, h3, h4, h5, h6, h7, h9, h8⟩
        · exact .inl h3
        · exact .inr ⟨b, c, arr, h3, h4, h5, h6, h7, h9, fun x y hx hy => mK1 (h8 x y hx hy)⟩
      | map m xs =>
        rw [hr] at this
        obtain ⟨b, c, clock, ents, us, h3, h4, h5, h6, h7, h8⟩ := this
        exact ⟨b, c, clock, ents, us, h3, h4, h5, h6, h7, fun x y hx hy => mK1 (h8 x y hx hy)⟩
      | iter m x n s =>
        rw [hr] at this
        obtain ⟨b, c, mb, h3, h4, h5, h6⟩ := this
        exact ⟨b, c, mb, h3, h4, mD h5, h6⟩
      | dead => rw [hr] at this; exact this
  have hrel2 : Rel (lfs T) (Abs.newLoc i .dead st) H a S2 := ⟨h1.H, h1.L, h1.size, h1.defers, fun j => mD (h1.rep j), hwf2⟩
  have hinv2 : Inv S0 S2 := by
    have he := h2.ext
    refine ⟨⟨he.size, he.os, he.tape, he.output, he.block, fun b hb => .inl (he.F b hb), fun b hb hF => ?_, he.len, fun k hk => (he.keep k hk).trans (.refl rfl rfl), he.fresh⟩, h2.loc⟩
    rcases hF with hF | ⟨x, hx, rfl⟩
    · exact he.Fnew b hb hF
    · have := hinv.loc i x hx; omega
  -- the cell
  obtain ⟨b, c, e', arr, hb, hh, hsz, hr⟩ := hwf.cells hobl
  have hol : S2.obj (.loc l) = .cells (cs.map (scrubD i)) ∧ S2.blk (.loc l) = some (b, c) := by
    rcases newSig_obj hwf i .dead none S.w (.loc l) with ⟨h4, _⟩ | ⟨_, h4, h5⟩ | ⟨⟨k, hk⟩, _⟩
    · exact absurd h4 (fun h => hli (by cases h; rfl))
    · exact ⟨by rw [show S2.obj (.loc l) = scrubO i (S.obj (.loc l)) from h4, hobl]; rfl, by rw [show S2.blk (.loc l) = S.blk (.loc l) from h5]; exact hb⟩
    · cases hk
  have hhas : S2.has (.loc l) := Sig.has_of (by rw [hol.1]; intro h; cases h)
  have hdata : ∀ (h : j < cs.length), RepD (lfs T) S2 (.v (.sl e) (.l xs)) (arr.getD j undef) := fun h => by
    have h4 := (hr j h).1
    rw [hj] at h4
    cases h4 with
    | osl _ _ _ _ hu =>
      have hu' := (hu e xs hobi).2 hn
      rw [hu']
      rcases hwf.row hobi with ⟨h3, h5⟩ | ⟨b', c', arr', h3, h4, h5, h6, h7, h9, h8⟩
      · rw [h3, hn, h5]
        exact .v _ _ _ (.sl0 e (.l []) none 0 rfl)
      · rw [h3]
        refine .v _ _ _ ?_
        have := RepK.sl (lf := lfs T) (w := S2.w) (F := S2.F) e (.l xs) b' 0 c' (fun i j => arr'.getD (i * (lfs T e).length + j) undef) (.inr ⟨_, h3, rfl⟩) ⟨h6, h7⟩ h9
          (fun i j hi hj => by
            have hi' : i < xs.length := hi
            have h10 := Nat.mul_le_mul_right (lfs T e).length (show i + 1 ≤ c' by omega)
            rw [Nat.add_mul, Nat.one_mul] at h10
            rw [Nat.zero_add]
            exact cell_of h4 (by omega))
          (fun i j hi hj => RepK.mono (w := S.w) (w' := S2.w) (F := S.F) (F' := S2.F) (fun b hb => .inl hb) (fun _ _ => rfl) (h8 i j hi hj))
        rw [list_l, ← hn] at this
        exact this
  obtain ⟨g1, g2, _⟩ := Rel.upd hrel2 hinv2 (.loc l) (.cells ((cs.map (scrubD i)).set j (.v (.sl e) (.l xs)))) (some (b, c)) S.w hhas (Nat.le_refl _) (fun _ _ _ => rfl) rfl rfl rfl
    (fun x hx => by cases hx; exact ⟨.inl ⟨_, hol.2, rfl⟩, hwf.lt _ _ hb⟩)
    (by
      obtain ⟨j1, j2⟩ := Sig.upd_at hwf2 hhas (.cells ((cs.map (scrubD i)).set j (.v (.sl e) (.l xs)))) (some (b, c)) S.w
      refine ⟨fun bc j3 j4 => ⟨by rw [hol.1]; rfl, ?_⟩, fun e' xs' j3 => ?_, fun e' xs' j3 => (by rw [j1] at j3; cases j3)⟩
      · rw [j2] at j4; rw [hol.2]; exact j4
      · rw [j1] at j3; cases j3)
    (fun _ h => by cases h)
    (fun mD' mK' => ⟨b, c, e', arr, rfl, by rw [Sig.upd_w]; exact hh, by simpa using hsz, fun k hk => by
      have hk' : k < cs.length := by simpa using hk
      rw [set_getD]
      split
      · rename_i h
        rw [h.1]
        exact ⟨mD' (hdata (h.1 ▸ hk')), (hr j (h.1 ▸ hk')).2⟩
      · rw [getD_map_scrub]
        exact ⟨mD' (mD (newSig_repD (w' := S.w) hwf (fun _ _ => rfl) (hr k hk').1)), (hr k hk').2⟩⟩)
  exact ⟨_, by rw [Sig.upd_w], g1, g2⟩
theorem Rel.frz : ∀ (l : List Frz) {st : St} {S : Sig} (q : St → Prop), evFrz l st q → Rel (lfs T) st H a S → Inv S0 S → ∃ st' S', q st' ∧ S'.w = S.w ∧ Rel (lfs T) st' H a S' ∧ Inv S0 S'
  | [], st, S, q, h, hrel, hinv => ⟨st, S, h, rfl, hrel, hinv⟩
  | f :: r, st, S, q, h, hrel, hinv => by
    unfold evFrz at h
    split at h
    · rename_i cs e xs hl hi hli
      have hne : f.l ≠ f.i := fun h => by rw [h, Nat.beq_refl] at hli; cases hli
      split at h
      · rename_i i' n hj
        split at h
        · rename_i hb
          have hii := Nat.eq_of_beq_eq_true hb
          subst hii
          obtain ⟨S1, w1, g1, g2⟩ := Rel.frz1 hrel hinv hl hi hne hj h.1
          obtain ⟨st', S', k1, k2, k3, k4⟩ := Rel.frz r q h.2 g1 g2
          exact ⟨st', S', k1, k2.trans w1, k3, k4⟩
        · exact h.elim
      · exact h.elim
    · exact h.elim
theorem Rel.repl (hrel : Rel (lfs T) st H a S) (g : Nat) {d : D} (hd : RepD (lfs T) S d (a.tmps.getD g undef)) : Rel (lfs T) (st.put (some g) d) H a S := by
  refine ⟨hrel.H, hrel.L, by simpa [St.put] using hrel.size, hrel.defers, fun j => ?_, hrel.wf⟩
  show RepD _ _ ((st.tmps.set g d).getD j .undef) _
  rw [set_getD]
  split
  · rename_i h; rw [h.1]; exact hd
  · exact hrel.rep j
theorem yielded_of {ops : Array Oper} {j g : Nat} {tmps : Array Value} (hg : (ops[j]?).bind (·.dst) = some g) : yielded ops tmps j = match tmps.getD g undef with | .bool b => some b | _ => none := by
  unfold yielded
  rw [hg]
  simp only [Option.bind_some, Array.getD_eq_getD_getElem?]
  cases tmps[g]? with
  | none => rfl
  | some v => cases v <;> rfl
def PostC (T : Tab) (S0 : Sig) (Q : Ex → St → Heap → Prop) (e : Exit) (a' : Act) (w' : World) : Prop :=
  ∃ st' H' S', S'.w = w' ∧ Rel (lfs T) st' H' a' S' ∧ Inv S0 S' ∧ match e with
    | .normal => Q .n st' H'
    | .exit id => Q (.x id) st' H'
    | .ret => Q .r st' H'
    | _ => False
theorem sound_ops {E : Env} (hE : EnvOk P E) (ops : Array Oper) (Q : Ex → St → Heap → Prop) : ∀ (l : List Oper) (st : St) (H : Heap) (a : Act) (S : Sig), evOps E ops l st H (fun st H => Q .n st H) → Rel (lfs E.T) st H a S → Inv S0 S →
    wpList P ops (PostC E.T S0 Q) l a S.w
  | [], st, H, a, S, h, hrel, hinv => ⟨st, H, S, rfl, hrel, hinv, h⟩
  | o :: r, st, H, a, S, h, hrel, hinv => by
    have run : ∀ (st : St), Rel (lfs E.T) st H a S → evOp E o st H (fun d st H => evOps E ops r (st.put o.dst d) H fun st H => Q .n st H) → o.wp P a S.w (wpList P ops (PostC E.T S0 Q) r) (PostC E.T S0 Q) := fun st hrel h =>
      ok_op hE o _ hrel hinv h _ _ fun d v st' H' S' hq h1 h2 h3 => sound_ops hE ops Q r _ _ _ _ hq (h1.put o.dst h3) h2
    have runP : ∀ (st : St), Rel (lfs E.T) st H a S → evOp E o st H (fun d st H => evOps E ops r (post E o.dst (st.put o.dst d)) H fun st H => Q .n st H) → o.wp P a S.w (wpList P ops (PostC E.T S0 Q) r) (PostC E.T S0 Q) := fun st hrel h =>
      ok_op hE o _ hrel hinv h _ _ fun d v st' H' S' hq h1 h2 h3 => by
        have hp := h1.put o.dst h3
        unfold post at hq
        split at hq
        · obtain ⟨S'', w1, g1, g2⟩ := Rel.adj (E.adj _) h2 hp
          rw [← w1]
          exact sound_ops hE ops Q r _ _ _ _ hq g1 g2
        · exact sound_ops hE ops Q r _ _ _ _ hq hp h2
    have skip : ∀ (st : St), Rel (lfs E.T) st H a S → evOps E ops r (st.put o.dst .skip) H (fun st H => Q .n st H) → wpList P ops (PostC E.T S0 Q) r (a.put o.dst undef) S.w := fun st hrel h =>
      sound_ops hE ops Q r _ _ _ _ h (hrel.put o.dst .skip) hinv
    simp only [evOps] at h
    simp only [wpList]
    split at h
    · rename_i hg
      rw [if_pos (by simp [Region.wanted, hg])]
      exact .inl (runP st hrel h)
    · rename_i j want hg
      split at h
      · exact h.elim
      · rename_i g hj
        have hy := yielded_of (tmps := a.tmps) hj
        split at h
        · rename_i x hx
          have hb := hrel.rep g
          rw [hx] at hb
          have hb' := hb.bool_inv
          rw [hb'] at hy
          have hset : Rel (lfs E.T) (st.put (some g) (.v .bool (.b x.bool))) H a S := hrel.repl g (by rw [hb']; exact RepD.mkBool _)
          unfold iff iffC at h
          cases hxb : x.bool with
          | true =>
            rw [hxb] at h hy hset
            cases want with
            | true =>
              rw [if_pos (by simp [Region.wanted, hg, hy])]
              exact .inl (run _ hset h)
            | false =>
              rw [if_neg (by simp [Region.wanted, hg, hy])]
              exact skip _ hset h
          | false =>
            rw [hxb] at h hy hset
            cases want with
            | true =>
              rw [if_neg (by simp [Region.wanted, hg, hy])]
              exact skip _ hset h
            | false =>
              rw [if_pos (by simp [Region.wanted, hg, hy])]
              exact .inl (run _ hset h)
        · rename_i hx
          have hb := hrel.rep g
          rw [hx] at hb
          have hb' : a.tmps.getD g undef = undef := by
            generalize a.tmps.getD g undef = u at hb
            cases hb; rfl
          rw [hb'] at hy
          rw [if_neg (by simp [Region.wanted, hg, hy, undef])]
          exact skip _ hrel h
        · exact h.elim
end Go.Abs
