/-
  Texts AbsJ, ArgA, R01S, R03S, LawX, ArgB, MatT, LawY, R01G, LawZ of this proof, joined.
-/
import Derived.WalkKit
import Derived.ProofKit
import Derived.OpenShut
import Derived.JoinedCond
import Derived.Test.YtgohjdaepcmonaaP12
set_option linter.unusedVariables false
set_option linter.unusedSimpArgs false
namespace Go.Abs
variable {P : Program} {T : Tab}
inductive WT (lf : TypeId → List K) : K → V → Prop
  | int (k : IntKind) (n : Int) : (Lit.int k n).wf = true → WT lf (.int k) (.i n)
  | bool (b : Bool) : WT lf .bool (.b b)
  | str (s : ByteArray) : WT lf .str (.s s)
  | sl (e : TypeId) (xs : List (List V)) : (∀ i, i < xs.length → (xs.getD i []).length = (lf e).length) →
      (∀ i j, i < xs.length → j < (lf e).length → WT lf ((lf e).getD j .oth) ((xs.getD i []).getD j V.none)) → WT lf (.sl e) (.l xs)
mutual
def V.bulk : V → Nat
  | .i _ => 1 | .b _ => 1 | .s x => x.size + 1
  | .l xs => V.bulkR xs + 1
def V.bulkR : List (List V) → Nat
  | [] => 0
  | c :: r => V.bulkL c + V.bulkR r
def V.bulkL : List V → Nat
  | [] => 0
  | x :: r => x.bulk + V.bulkL r
end
theorem bulkL_append : ∀ (l r : List V), V.bulkL (l ++ r) = V.bulkL l + V.bulkL r
  | [], r => by simp [V.bulkL]
  | x :: l, r => by simp [V.bulkL, bulkL_append l r]; omega
mutual
def dbulk {H : Type} : DataW H → Nat
  | .lit (.string bytes) => bytes.length + 1
  | .lit _ => 1
  | .nil => 1
  | .ptr d => dbulk d + 1
  | .slice elems spare => dbulkAll elems + dbulkAll spare + 1
  | .agg parts => dbulkAll parts + 1
  | .iface _ d => dbulk d + 1
  | .map entries => dbulkEntries entries + 1
  | .held _ => 1
def dbulkAll {H : Type} : List (DataW H) → Nat
  | [] => 0
  | d :: r => dbulk d + dbulkAll r
def dbulkEntries {H : Type} : List (Lit × DataW H) → Nat
  | [] => 0
  | x :: r => dbulkEntry x + dbulkEntries r
def dbulkEntry {H : Type} : Lit × DataW H → Nat
  | (.string bytes, d) => bytes.length + dbulk d + 1
  | (_, d) => dbulk d + 1
end
def fieldsTile (T : Tab) (good : List Nat) : List (Nat × TypeId) → Nat → List K → Bool
  | [], _, lf => lf.isEmpty
  | (o, t) :: r, off, lf => Nat.beq o off && inL good t && decide (lf.take (T.get t).lf.length = (T.get t).lf) && Nat.ble (T.get t).lf.length lf.length && fieldsTile T good r (off + (T.get t).lf.length) (lf.drop (T.get t).lf.length)
def rdOk (T : Tab) (good : List Nat) (t : TypeId) : Bool :=
  Nat.blt 0 (T.get t).lf.length &&
  match (T.get t).flds, (T.get t).ar, (T.get t).kd with
  | [], none, .int k => decide ((T.get t).lf = [.int k])
  | [], none, .bool => decide ((T.get t).lf = [.bool])
  | [], none, .str => decide ((T.get t).lf = [.str])
  | [], none, .sl e => decide ((T.get t).el = some e) && decide ((T.get t).lf = [.sl e]) && inL good e && Nat.blt 0 (T.get e).lf.length
  | [], some (n, e), _ => inL good e && decide ((T.get t).lf = (List.replicate n (T.get e).lf).flatten)
  | f :: r, none, _ => fieldsTile T good (f :: r) 0 (T.get t).lf
  | _, _, _ => false
theorem inL_mem : ∀ {l : List Nat} {x : Nat}, inL l x = true → x ∈ l
  | [], x, h => by simp [inL] at h
  | y :: r, x, h => by
    simp only [inL] at h
    cases hb : Nat.beq x y with
    | true => rw [Nat.eq_of_beq_eq_true hb]; exact List.mem_cons_self
    | false => rw [hb] at h; exact List.mem_cons_of_mem _ (inL_mem h)
theorem TabOk.cells (hT : TabOk P T) {t : TypeId} (hn : 0 < (T.get t).lf.length) : P.cellsOf t = (T.get t).lf.length := by
  obtain ⟨hok, ht⟩ := hT.get hn
  obtain ⟨i, z, hi, _, hs, _⟩ := hok.info
  rw [ht] at hi
  simp [Program.cellsOf, hi, hs]
theorem mapM_some {α β : Type} {f : α → Option β} : ∀ {l : List α} {r : List β}, l.mapM f = some r → r.length = l.length ∧ ∀ (i : Nat) (x : α), l[i]? = some x → ∃ y, r[i]? = some y ∧ f x = some y
  | [], r, h => by
    simp at h; subst h; exact ⟨rfl, fun i x hx => by simp at hx⟩
  | a :: l, r, h => by
    rw [List.mapM_cons] at h
    cases ha : f a with
    | none => simp [ha] at h
    | some y =>
      cases hl : l.mapM f with
      | none => simp [ha, hl] at h
      | some ys =>
        simp [ha, hl] at h
        subst h
        obtain ⟨h1, h2⟩ := mapM_some hl
        refine ⟨by simp [h1], fun i x hx => ?_⟩
        cases i with
        | zero => simp at hx; subst hx; exact ⟨y, by simp, ha⟩
        | succ i => simpa using h2 i x (by simpa using hx)
def Reads (T : Tab) (w : World) (lf : List K) (xs : List V) (cs : List Value) : Prop :=
  xs.length = lf.length ∧ cs.length = lf.length ∧ ∀ j, j < lf.length → WT (lfs T) (lf.getD j .oth) (xs.getD j V.none) ∧ RepK (lfs T) w (fun b => b < w.heap.size) (lf.getD j .oth) (xs.getD j V.none) (cs.getD j undef)
theorem Reads.append {w : World} {lf lf' : List K} {xs xs' : List V} {cs cs' : List Value} (h : Reads T w lf xs cs) (h' : Reads T w lf' xs' cs') : Reads T w (lf ++ lf') (xs ++ xs') (cs ++ cs') := by
  obtain ⟨h1, h2, h3⟩ := h
  obtain ⟨h1', h2', h3'⟩ := h'
  refine ⟨by simp [h1, h1'], by simp [h2, h2'], fun j hj => ?_⟩
  by_cases hl : j < lf.length
  · have e1 : (lf ++ lf').getD j .oth = lf.getD j .oth := by simp [List.getD_eq_getElem?_getD, List.getElem?_append_left hl]
    have e2 : (xs ++ xs').getD j V.none = xs.getD j V.none := by simp [List.getD_eq_getElem?_getD, List.getElem?_append_left (h1 ▸ hl : j < xs.length)]
    have e3 : (cs ++ cs').getD j undef = cs.getD j undef := by simp [List.getD_eq_getElem?_getD, List.getElem?_append_left (h2 ▸ hl : j < cs.length)]
    rw [e1, e2, e3]; exact h3 j hl
  · have e1 : (lf ++ lf').getD j .oth = lf'.getD (j - lf.length) .oth := by simp [List.getD_eq_getElem?_getD, List.getElem?_append_right (Nat.le_of_not_lt hl)]
    have e2 : (xs ++ xs').getD j V.none = xs'.getD (j - lf.length) V.none := by rw [← h1]; simp [List.getD_eq_getElem?_getD, List.getElem?_append_right (by rw [h1]; exact Nat.le_of_not_lt hl : xs.length ≤ j)]
    have e3 : (cs ++ cs').getD j undef = cs'.getD (j - lf.length) undef := by rw [← h2]; simp [List.getD_eq_getElem?_getD, List.getElem?_append_right (by rw [h2]; exact Nat.le_of_not_lt hl : cs.length ≤ j)]
    rw [e1, e2, e3]
    exact h3' _ (by simp at hj; omega)
theorem exists_list {α : Type} {p : Nat → α → Prop} (d : α) : ∀ (n : Nat), (∀ i, i < n → ∃ x, p i x) → ∃ l : List α, l.length = n ∧ ∀ i, i < n → p i (l.getD i d)
  | 0, _ => ⟨[], rfl, fun i hi => by omega⟩
  | n + 1, h => by
    obtain ⟨l, h1, h2⟩ := exists_list d n fun i hi => h i (by omega)
    obtain ⟨x, hx⟩ := h n (by omega)
    refine ⟨l ++ [x], by simp [h1], fun i hi => ?_⟩
    by_cases hin : i < n
    · rw [List.getD_eq_getElem?_getD, List.getElem?_append_left (by omega), ← List.getD_eq_getElem?_getD]; exact h2 i hin
    · have : i = n := by omega
      subst this
      rw [List.getD_eq_getElem?_getD, List.getElem?_append_right (by omega), h1]; simpa using hx
theorem bulkR_le {H : Type} : ∀ (xs : List (List V)) (ds : List (DataW H)), xs.length = ds.length → (∀ i d, ds[i]? = some d → V.bulkL (xs.getD i []) ≤ dbulk d) → V.bulkR xs ≤ dbulkAll ds
  | [], _, _, _ => by simp [V.bulkR]
  | _ :: _, [], h, _ => by simp at h
  | c :: xs, d :: ds, h, hb => by
    have h1 := hb 0 d rfl
    have h2 := bulkR_le xs ds (by simpa using h) fun i d' hd => by simpa using hb (i + 1) d' (by simpa using hd)
    simp only [V.bulkR, dbulkAll]
    simp at h1
    omega
section
variable {H : Type} {enc : TypeId × Value → H} {w : World}
theorem add_add (a : Addr) (n m : Nat) (h : a.spot = none) : (a.add n).add m = ⟨a.block, a.off + n + m, none⟩ := by
  obtain ⟨b, o, s⟩ := a
  simp only at h
  subst h
  rw [add_plain, add_plain]
theorem read_fields (hT : TabOk P T) {good : List Nat} {rd : TypeId → List Value → Option (DataW H × List MemPlace)} (ih : ∀ t cs d ps, t ∈ good → rd t cs = some (d, ps) → ∃ xs, Reads T w (T.get t).lf xs cs ∧ V.bulkL xs ≤ dbulk d) :
    ∀ (l : List (Nat × TypeId)) (off : Nat) (lf : List K) (cs : List Value) (rs : List (DataW H × List MemPlace)), fieldsTile T good l off lf = true → (∀ o t, (o, t) ∈ l → 0 < (T.get t).lf.length) → cs.length = off + lf.length →
      l.mapM (fun f => rd f.2 ((cs.drop f.1).take (P.cellsOf f.2))) = some rs → ∃ xs, Reads T w lf xs (cs.drop off) ∧ V.bulkL xs ≤ dbulkAll (rs.map (·.1))
  | [], off, lf, cs, rs, h, _, hl, hm => by
    have : lf = [] := by simpa [fieldsTile] using h
    subst this
    exact ⟨[], ⟨rfl, by simp at hl ⊢; omega, fun j hj => by simp at hj⟩, by simp [V.bulkL]⟩
  | (o, t) :: r, off, lf, cs, rs, h, hp, hl, hm => by
    obtain ⟨⟨⟨⟨h1, h2⟩, h3⟩, h4⟩, h5⟩ : (((o = off ∧ inL good t = true) ∧ lf.take (T.get t).lf.length = (T.get t).lf) ∧ (T.get t).lf.length ≤ lf.length) ∧ fieldsTile T good r (off + (T.get t).lf.length) (lf.drop (T.get t).lf.length) = true := by simpa [fieldsTile] using h
    subst h1
    rw [List.mapM_cons] at hm
    rw [hT.cells (hp o t (by simp))] at hm
    cases ha : rd t ((cs.drop o).take (T.get t).lf.length) with
    | none => simp [ha] at hm
    | some y =>
      cases hb : r.mapM (fun f => rd f.2 ((cs.drop f.1).take (P.cellsOf f.2))) with
      | none => simp [ha, hb] at hm
      | some ys =>
        simp [ha, hb] at hm
        subst hm
        obtain ⟨d, ps⟩ := y
        obtain ⟨xs, q1, q2⟩ := ih t _ d ps (inL_mem h2) ha
        obtain ⟨xs', q3, q4⟩ := read_fields hT ih r (o + (T.get t).lf.length) (lf.drop (T.get t).lf.length) cs ys h5 (fun o' t' hm => hp o' t' (by simp [hm])) (by simp; omega) hb
        refine ⟨xs ++ xs', ?_, by simp only [List.map_cons, dbulkAll, bulkL_append]; omega⟩
        have e1 : lf = (T.get t).lf ++ lf.drop (T.get t).lf.length := by
          conv => lhs; rw [← List.take_append_drop (T.get t).lf.length lf, h3]
        have e2 : cs.drop o = (cs.drop o).take (T.get t).lf.length ++ cs.drop (o + (T.get t).lf.length) := by
          conv => lhs; rw [← List.take_append_drop (T.get t).lf.length (cs.drop o), List.drop_drop]
        rw [e1, e2]
        exact q1.append q3
theorem read_array {good : List Nat} {rd : TypeId → List Value → Option (DataW H × List MemPlace)} (ih : ∀ t cs d ps, t ∈ good → rd t cs = some (d, ps) → ∃ xs, Reads T w (T.get t).lf xs cs ∧ V.bulkL xs ≤ dbulk d) (e : TypeId) (he : e ∈ good) (m : Nat) (hm : (T.get e).lf.length = m) (cs : List Value) :
    ∀ (n k : Nat) (rs : List (DataW H × List MemPlace)), ((List.range' k n).mapM fun i => rd e ((cs.drop (i * m)).take m)) = some rs → cs.length = (k + n) * m → ∃ xs, Reads T w (List.replicate n (T.get e).lf).flatten xs (cs.drop (k * m)) ∧ V.bulkL xs ≤ dbulkAll (rs.map (·.1))
  | 0, k, rs, h, hl => by
    simp at h; subst h
    exact ⟨[], ⟨rfl, by simp [hl], fun j hj => by simp at hj⟩, by simp [V.bulkL]⟩
  | n + 1, k, rs, h, hl => by
    rw [List.range'_succ, List.mapM_cons] at h
    cases ha : rd e ((cs.drop (k * m)).take m) with
    | none => simp [ha] at h
    | some y =>
      cases hb : (List.range' (k + 1) n).mapM fun i => rd e ((cs.drop (i * m)).take m) with
      | none => simp [ha, hb] at h
      | some ys =>
        simp [ha, hb] at h
        subst h
        obtain ⟨d, ps⟩ := y
        obtain ⟨xs, q1, q2⟩ := ih e _ d ps he ha
        obtain ⟨xs', q3, q4⟩ := read_array ih e he m hm cs n (k + 1) ys hb (by rw [hl]; congr 1; omega)
        refine ⟨xs ++ xs', ?_, by simp only [List.map_cons, dbulkAll, bulkL_append]; omega⟩
        have e2 : cs.drop (k * m) = (cs.drop (k * m)).take m ++ cs.drop ((k + 1) * m) := by
          conv => lhs; rw [← List.take_append_drop m (cs.drop (k * m)), List.drop_drop]
          rw [Nat.add_mul, Nat.one_mul]
        rw [List.replicate_succ, List.flatten_cons, e2]
        exact q1.append q3
theorem read_data (hT : TabOk P T) {good : List Nat} (hg : good.all (rdOk T good) = true) :
    ∀ (fuel : Nat) (t : TypeId) (cs : List Value) (d : DataW H) (ps : List MemPlace), t ∈ good → DataW.trod enc P w 0 (fun _ => true) true fuel t cs = some (d, ps) → ∃ xs, Reads T w (T.get t).lf xs cs ∧ V.bulkL xs ≤ dbulk d
  | 0, t, cs, d, ps, ht, h => by simp [DataW.trod] at h
  | fuel + 1, t, cs, d, ps, ht, h => by
    have ih := read_data hT hg fuel
    have hr := List.all_eq_true.1 hg t ht
    unfold rdOk at hr
    rw [Bool.and_eq_true] at hr
    obtain ⟨hpos0, hr⟩ := hr
    have hpos : 0 < (T.get t).lf.length := by simpa using hpos0
    have hpg : ∀ e, e ∈ good → 0 < (T.get e).lf.length := fun e he => by
      have := List.all_eq_true.1 hg e he
      unfold rdOk at this
      rw [Bool.and_eq_true] at this
      simpa using this.1
    obtain ⟨hok, htt⟩ := hT.get hpos
    unfold DataW.trod at h
    split at hr
    · rename_i k hf har hk
      have hu := hT.get_int hk
      have hlf : (T.get t).lf = [.int k] := by simpa using hr
      rw [hu] at h
      split at h <;> first | (simp at *; done) | skip
      rename_i k0 k' n hu'
      simp only [Option.some.injEq, TypeDesc.int.injEq] at hu'
      subst hu'
      split at h
      · rename_i hc
        obtain ⟨rfl, hwf⟩ := hc
        simp only [Option.some.injEq, Prod.mk.injEq] at h
        obtain ⟨rfl, _⟩ := h
        refine ⟨[.i n], ⟨by simp [hlf], by simp [hlf], fun j hj => ?_⟩, by simp [V.bulkL, V.bulk, dbulk]⟩
        have hj0 : j = 0 := by rw [hlf] at hj; simpa using hj
        subst hj0
        rw [hlf]
        exact ⟨.int _ n hwf, .int _ (.i n)⟩
      · cases h
    · rename_i hf har hk
      have hu := hT.get_bool hk
      have hlf : (T.get t).lf = [.bool] := by simpa using hr
      rw [hu] at h
      split at h <;> first | (simp at *; done) | skip
      rename_i b _
      simp only [Option.some.injEq, Prod.mk.injEq] at h
      obtain ⟨rfl, _⟩ := h
      refine ⟨[.b b], ⟨by simp [hlf], by simp [hlf], fun j hj => ?_⟩, by simp [V.bulkL, V.bulk, dbulk]⟩
      have hj0 : j = 0 := by rw [hlf] at hj; simpa using hj
      subst hj0
      rw [hlf]
      exact ⟨.bool b, .bool (.b b)⟩
    · rename_i hf har hk
      have hu := hT.get_str hk
      have hlf : (T.get t).lf = [.str] := by simpa using hr
      rw [hu] at h
      split at h <;> first | (simp at *; done) | skip
      rename_i s _
      split at h
      · rename_i hsz
        simp only [Option.some.injEq, Prod.mk.injEq] at h
        obtain ⟨rfl, _⟩ := h
        refine ⟨[.s s], ⟨by simp [hlf], by simp [hlf], fun j hj => ?_⟩, by simp [V.bulkL, V.bulk, dbulk]⟩
        have hj0 : j = 0 := by rw [hlf] at hj; simpa using hj
        subst hj0
        rw [hlf]
        exact ⟨.str s, .str (.s s) hsz⟩
      · cases h
    · rename_i e hf har hk
      obtain ⟨⟨⟨hel, hlf⟩, hge⟩, hpe⟩ : (((T.get t).el = some e ∧ (T.get t).lf = [.sl e]) ∧ inL good e = true) ∧ 0 < (T.get e).lf.length := by simpa using hr
      have hu := hT.get_el hel
      have hce := hT.cells hpe
      rw [hu] at h
      split at h <;> first | (simp at *; done) | skip
      · simp only [Option.some.injEq, Prod.mk.injEq] at h
        obtain ⟨rfl, _⟩ := h
        refine ⟨[.l []], ⟨by simp [hlf], by simp [hlf], fun j hj => ?_⟩, by simp [V.bulkL, V.bulk, V.bulkR, dbulk]⟩
        have hj0 : j = 0 := by rw [hlf] at hj; simpa using hj
        subst hj0
        rw [hlf]
        exact ⟨.sl e [] (fun i hi => by simp at hi) (fun i j hi => by simp at hi), .sl0 e (.l []) none 0 rfl⟩
      · rename_i e0 a len cap hu'
        simp only [Option.some.injEq, TypeDesc.slice.injEq] at hu'
        subst hu'
        simp only at h
        split at h
        · rename_i hc
          obtain ⟨_, hlc, hcm⟩ := hc
          simp only [Option.bind_eq_some_iff, Option.map_eq_some_iff] at h
          obtain ⟨elems, hel1, rest, hrest, hd⟩ := h
          simp only [Prod.mk.injEq] at hd
          obtain ⟨rfl, _⟩ := hd
          obtain ⟨m1, m2⟩ := mapM_some hel1
          simp only [List.length_range] at m1
          rw [hce] at m2
          have hcell : ∀ i, i < len → ∃ ds cs', elems[i]? = some ds ∧ w.cells? 0 (a.add (i * (T.get e).lf.length)) (T.get e).lf.length = some cs' ∧ DataW.trod enc P w 0 (fun _ => true) true fuel e cs' = some ds := fun i hi => by
            obtain ⟨y, h1, h2⟩ := m2 i i (by simp [hi])
            simp only [Option.bind_eq_some_iff] at h2
            obtain ⟨cs', h3, h4⟩ := h2
            exact ⟨y, cs', h1, h3, h4⟩
          have hcells : ∀ i cs', w.cells? 0 (a.add (i * (T.get e).lf.length)) (T.get e).lf.length = some cs' → cs'.length = (T.get e).lf.length ∧ ∀ j, j < (T.get e).lf.length → w.cell? ((a.add (i * (T.get e).lf.length)).add j) = some (cs'.getD j undef) := fun i cs' h3 => by
            unfold World.cells? at h3
            rw [if_pos (Nat.zero_le _)] at h3
            obtain ⟨n1, n2⟩ := mapM_some h3
            simp only [List.length_range] at n1
            refine ⟨n1, fun j hj => ?_⟩
            obtain ⟨y, h5, h6⟩ := n2 j j (by simp [hj])
            rw [h6, List.getD_eq_getElem?_getD, h5]; rfl
          by_cases h0 : len = 0
          · subst h0
            refine ⟨[.l []], ⟨by simp [hlf], by simp [hlf], fun j hj => ?_⟩, by simp [V.bulkL, V.bulk, V.bulkR, dbulk]⟩
            have hj0 : j = 0 := by rw [hlf] at hj; simpa using hj
            subst hj0
            rw [hlf]
            exact ⟨.sl e [] (fun i hi => by simp at hi) (fun i j hi => by simp at hi), .sl0 e (.l []) _ _ rfl⟩
          · have hspot : a.spot = none := by
              obtain ⟨ds, cs', _, h3, _⟩ := hcell 0 (by omega)
              have h6 := (hcells 0 cs' h3).2 0 hpe
              simp only [Nat.zero_mul, Addr.add, if_pos] at h6
              cases hsp : a.spot with
              | none => rfl
              | some s =>
                simp only [World.cell?] at h6
                split at h6
                · simp [hsp] at h6
                · cases h6
            obtain ⟨xs, x1, x2⟩ := exists_list (p := fun i (x : List V) => ∃ ds cs', elems[i]? = some ds ∧ w.cells? 0 (a.add (i * (T.get e).lf.length)) (T.get e).lf.length = some cs' ∧ Reads T w (T.get e).lf x cs' ∧ V.bulkL x ≤ dbulk ds.1) [] len fun i hi => by
              obtain ⟨ds, cs', h1, h2, h3⟩ := hcell i hi
              obtain ⟨x, h4, h5⟩ := ih e cs' ds.1 ds.2 (inL_mem hge) h3
              exact ⟨x, ds, cs', h1, h2, h4, h5⟩
            have hlen : ∀ i, i < xs.length → (xs.getD i []).length = (lfs T e).length := fun i hi => by
              obtain ⟨ds, cs', h1, h2, h3, h4⟩ := x2 i (x1 ▸ hi)
              exact h3.1
            refine ⟨[.l xs], ⟨by simp [hlf], by simp [hlf], fun j hj => ?_⟩, ?_⟩
            · have hj0 : j = 0 := by rw [hlf] at hj; simpa using hj
              subst hj0
              rw [hlf]
              refine ⟨.sl e xs hlen fun i j hi hj => ?_, ?_⟩
              · obtain ⟨ds, cs', h1, h2, h3, h4⟩ := x2 i (x1 ▸ hi)
                exact (h3.2.2 j hj).1
              · have key := RepK.sl (lf := lfs T) (w := w) (F := fun b => b < w.heap.size) e (.l xs) a.block a.off cap (fun i j => (w.cell? ⟨a.block, a.off + i * (lfs T e).length + j, none⟩).getD undef)
                  (by
                    obtain ⟨ds, cs', _, h3, _⟩ := hcell 0 (by omega)
                    have h6 := (hcells 0 cs' h3).2 0 hpe
                    rw [add_add _ _ _ hspot] at h6
                    simp only [World.cell?] at h6
                    rcases Nat.lt_or_ge a.block w.heap.size with hb | hb
                    · exact hb
                    · rw [Array.getElem?_eq_none hb] at h6; cases h6)
                  ⟨by show xs.length ≤ cap; omega, hcm⟩ hlen
                  (fun i j hi hj => by
                    obtain ⟨ds, cs', h1, h2, h3, h4⟩ := x2 i (x1 ▸ hi)
                    have h6 := (hcells i cs' h2).2 j hj
                    rw [add_add _ _ _ hspot] at h6
                    rw [h6]; rfl)
                  (fun i j hi hj => by
                    obtain ⟨ds, cs', h1, h2, h3, h4⟩ := x2 i (x1 ▸ hi)
                    have h6 := (hcells i cs' h2).2 j hj
                    rw [add_add _ _ _ hspot] at h6
                    rw [h6]
                    exact (h3.2.2 j hj).2)
                have e1 : (V.l xs).list.length = len := x1
                have e2 : a = ⟨a.block, a.off, none⟩ := by cases a; simp at hspot; rw [hspot]
                rw [e1] at key
                rw [show [Value.slice (some a) len cap].getD 0 undef = .slice (some a) len cap from rfl, e2]
                exact key
            · simp only [V.bulkL, V.bulk, dbulk, Nat.add_zero]
              have := bulkR_le xs (elems.map (·.1)) (by rw [x1]; simp [m1]) fun i d hd => by
                rw [List.getElem?_map] at hd
                cases hei : elems[i]? with
                | none => rw [hei] at hd; cases hd
                | some y =>
                  rw [hei] at hd
                  simp only [Option.map_some, Option.some.injEq] at hd
                  subst hd
                  have hi : i < len := by
                    rcases Nat.lt_or_ge i elems.length with h7 | h7
                    · omega
                    · rw [List.getElem?_eq_none h7] at hei; cases hei
                  obtain ⟨ds, cs', h1, h2, h3, h4⟩ := x2 i hi
                  rw [hei] at h1
                  cases h1
                  exact h4
              omega
        · cases h
    · rename_i n e hf har
      obtain ⟨hge, hlf⟩ : inL good e = true ∧ (T.get t).lf = (List.replicate n (T.get e).lf).flatten := by simpa using hr
      have hu := hT.get_ar har
      have hpe := hpg e (inL_mem hge)
      have hce := hT.cells hpe
      have hct := hT.cells hpos
      rw [hu] at h
      split at h <;> first | (simp at *; done) | skip
      rename_i cs _ _ n0 e0 hu'
      simp only [Option.some.injEq, TypeDesc.array.injEq] at hu'
      obtain ⟨rfl, rfl⟩ := hu'
      split at h
      · rename_i hl
        rw [hct] at hl
        rw [hce] at h
        simp only [Option.map_eq_some_iff] at h
        obtain ⟨rs, hm, hd⟩ := h
        simp only [Prod.mk.injEq] at hd
        obtain ⟨rfl, _⟩ := hd
        rw [List.range_eq_range'] at hm
        have hlen : (T.get t).lf.length = n * (T.get e).lf.length := by rw [hlf]; simp
        obtain ⟨xs, q1, q2⟩ := read_array (T := T) (w := w) (good := good) ih e (inL_mem hge) _ rfl cs n 0 rs hm (by rw [hl, hlen]; simp)
        rw [hlf]
        simp only [Nat.zero_mul, List.drop_zero] at q1
        exact ⟨xs, q1, by simp only [dbulk]; omega⟩
      · cases h
    · rename_i f r hf har
      obtain ⟨fs, hu, hfs⟩ := hok.fexact (by rw [hf]; simp)
      rw [htt] at hu
      have hct := hT.cells hpos
      rw [hu] at h
      split at h <;> first | (simp at *; done) | skip
      rename_i cs _ _ fs0 hu'
      simp only [Option.some.injEq, TypeDesc.struct.injEq] at hu'
      subst hu'
      split at h
      · rename_i hl
        rw [hct] at hl
        simp only [Option.map_eq_some_iff] at h
        obtain ⟨rs, hm, hd⟩ := h
        simp only [Prod.mk.injEq] at hd
        obtain ⟨rfl, _⟩ := hd
        have hm' : (T.get t).flds.mapM (fun f => DataW.trod enc P w 0 (fun _ => true) true fuel f.2 ((cs.drop f.1).take (P.cellsOf f.2))) = some rs := by
          rw [← hfs, List.mapM_map]; exact hm
        rw [hf] at hm'
        have htile : ∀ (l : List (Nat × TypeId)) (off : Nat) (lf : List K), fieldsTile T good l off lf = true → ∀ o t, (o, t) ∈ l → 0 < (T.get t).lf.length := fun l => by
          induction l with
          | nil => intro _ _ _ o t hm; simp at hm
          | cons x l ihl =>
            intro off lf h o t hm
            obtain ⟨o', t'⟩ := x
            obtain ⟨⟨⟨⟨h1, h2⟩, h3⟩, h4⟩, h5⟩ : (((o' = off ∧ inL good t' = true) ∧ lf.take (T.get t').lf.length = (T.get t').lf) ∧ (T.get t').lf.length ≤ lf.length) ∧ fieldsTile T good l (off + (T.get t').lf.length) (lf.drop (T.get t').lf.length) = true := by simpa [fieldsTile] using h
            rcases List.mem_cons.1 hm with h6 | h6
            · cases h6; exact hpg _ (inL_mem h2)
            · exact ihl _ _ h5 o t h6
        obtain ⟨xs, q1, q2⟩ := read_fields (T := T) (w := w) hT ih (f :: r) 0 (T.get t).lf cs rs hr (htile _ _ _ hr) (by rw [hl]; simp) hm'
        rw [List.drop_zero] at q1
        exact ⟨xs, q1, by simp only [dbulk]; omega⟩
      · cases h
    · cases hr
end
def argD (T : Tab) (t : TypeId) (xs : List V) : D := mkVal T t (vcells (T.get t).lf xs)
def argsD (T : Tab) : List TypeId → List (List V) → List D
  | [], _ => []
  | t :: ts, xss => argD T t (xss.headD []) :: argsD T ts xss.tail
theorem argsD_length (T : Tab) : ∀ (ts : List TypeId) (xss : List (List V)), (argsD T ts xss).length = ts.length
  | [], _ => rfl
  | t :: ts, xss => by simp [argsD, argsD_length T ts]
def memOf (w : World) : Sig := { w := w, F := fun b => b < w.heap.size, H := [], mu := [], L := [], la := [] }
theorem memOf_wf (w : World) : Wf (lfs T) (memOf w) := by
  have hb : ∀ r, (memOf w).blk r = none := fun r => by cases r <;> simp [memOf, Sig.blk]
  have ho : ∀ r, (memOf w).obj r = .dead := fun r => by cases r <;> simp [memOf, Sig.obj]
  refine ⟨fun b hF => ⟨hF, fun r x h => by rw [hb] at h; cases h⟩, fun r _ x _ h => (by rw [hb] at h; cases h), fun r x h => (by rw [hb] at h; cases h), fun r => ?_, fun i => ?_, rfl, rfl⟩
  · rw [ho, hb]; rfl
  · show ((memOf w).obj (.own i)).free
    rw [ho]; trivial
section
variable {H : Type} {enc : TypeId × Value → H} {w : World}
theorem argD_rep (hT : TabOk P T) {good : List Nat} (hg : good.all (rdOk T good) = true) {r : Go.Reach} {b0 : Nat} {t : TypeId} {v : Value} {xs : List V} (ht : t ∈ good) (hval : Value.okWide P w r b0 t v) (h : Reads T w (T.get t).lf xs v.cells.toList) :
    RepD (lfs T) (memOf w) (argD T t xs) v := by
  have hr := List.all_eq_true.1 hg t ht
  unfold rdOk at hr
  rw [Bool.and_eq_true] at hr
  obtain ⟨hpos0, hr⟩ := hr
  have hpos : 0 < (T.get t).lf.length := by simpa using hpos0
  obtain ⟨hok, htt⟩ := hT.get hpos
  have hagg := hok.agg w
  rw [htt] at hagg
  obtain ⟨h1, h2, h3⟩ := h
  have cell : ∀ j, j < (T.get t).lf.length → RepD (lfs T) (memOf w) ((vcells (T.get t).lf xs).getD j .undef) (v.cells.toList.getD j undef) := fun j hj => by
    rw [vcells_getD hj]
    exact .v _ _ _ (h3 j hj).2
  unfold argD
  cases ha : (T.get t).agg with
  | true =>
    rw [ha] at hagg
    rw [mkVal_agg ha]
    have : ∃ cs, v = .agg cs := by
      unfold Value.okWide at hval
      split at hval
      · obtain ⟨cs, h, _⟩ := hval; exact ⟨cs, h⟩
      · obtain ⟨cs, h, _⟩ := hval; exact ⟨cs, h⟩
      · rename_i hn1 hn2
        exfalso
        cases hu : P.underlying t with
        | none => unfold Cell.okWide at hval; rw [hu] at hval; simp [Cell.ok, hu] at hval
        | some d =>
          simp only [isAgg, Sem.run_bind, run_underlying hu, Result.andThen_ok] at hagg
          cases d <;> first | exact hn1 _ hu | exact hn2 _ _ hu | (simp [Sem.run, pure] at hagg)
    obtain ⟨cs, rfl⟩ := this
    have e : cs = cs.toList.toArray := by simp
    rw [e]
    refine .agg _ cs.toList (by rw [vcells_length]; exact h2.symm) (repD_of_list (by rw [vcells_length]; exact h2.symm) fun j hj => ?_)
    exact cell j (by have : cs.toList.length = (T.get t).lf.length := h2; omega)
  | false =>
    rw [ha] at hagg
    rw [mkVal_one ha]
    have hl1 := hok.one ha
    have hnot : ∀ cs, v ≠ .agg cs := fun cs hv => by
      subst hv
      unfold Value.okWide at hval
      cases hu : P.underlying t with
      | none => rw [hu] at hval; simp [Cell.okWide, Cell.ok, hu] at hval
      | some d =>
        simp only [isAgg, Sem.run_bind, run_underlying hu, Result.andThen_ok] at hagg
        rw [hu] at hval
        cases d <;> first | (simp [Sem.run, pure] at hagg; done) | (simp [Cell.okWide, Cell.ok, hu] at hval)
    have hc : v.cells.toList = [v] := by
      cases v <;> first | rfl | exact absurd rfl (hnot _)
    have := cell 0 hpos
    rw [hc] at this
    have e : (vcells (T.get t).lf xs).headD .undef = (vcells (T.get t).lf xs).getD 0 .undef := by
      cases (vcells (T.get t).lf xs) <;> rfl
    rw [e]; exact this
theorem args_read (hT : TabOk P T) {good : List Nat} (hg : good.all (rdOk T good) = true) {r : Go.Reach} {b0 : Nat} : ∀ (ts : List TypeId) (vs : List Value) (ds : List (DataW H)) (ps : List MemPlace), (∀ t ∈ ts, t ∈ good) →
    (∀ (j : Nat) t v, ts[j]? = some t → vs[j]? = some v → Value.okWide P w r b0 t v) → DataW.TrodAll enc P w 0 (fun _ => true) true ts vs ds ps →
    ∃ xss : List (List V), xss.length = ts.length ∧ (∀ i t, ts[i]? = some t → (xss.getD i []).length = (T.get t).lf.length ∧ ∀ j, j < (T.get t).lf.length → WT (lfs T) ((T.get t).lf.getD j .oth) ((xss.getD i []).getD j V.none)) ∧
      V.bulkR xss ≤ dbulkAll ds ∧ vs.length = ts.length ∧ ∀ j, RepD (lfs T) (memOf w) ((argsD T ts xss).getD j .undef) (vs.getD j undef)
  | [], [], [], ps, _, _, _ => ⟨[], rfl, fun i t h => by simp at h, by simp [V.bulkR], rfl, fun j => by simp [argsD]; exact .undef _⟩
  | t :: ts, v :: vs, d :: ds, ps, hin, hval, h => by
    obtain ⟨p, q, h1, h2, _⟩ := h
    obtain ⟨fuel, hf⟩ := h1
    obtain ⟨xs, r1, r2⟩ := read_data (enc := enc) hT hg fuel t _ d p (hin t (by simp)) hf
    obtain ⟨xss, s1, s2, s3, s4, s5⟩ := args_read hT hg ts vs ds q (fun t ht => hin t (by simp [ht])) (fun j t v h h' => hval (j + 1) t v (by simpa using h) (by simpa using h')) h2
    refine ⟨xs :: xss, by simp [s1], fun i t' hi => ?_, by simp only [V.bulkR, dbulkAll]; omega, by simp [s4], fun j => ?_⟩
    · cases i with
      | zero =>
        simp at hi; subst hi
        exact ⟨r1.1, fun j hj => (r1.2.2 j hj).1⟩
      | succ i => simpa using s2 i t' (by simpa using hi)
    · cases j with
      | zero => exact argD_rep hT hg (hin t (by simp)) (hval 0 t v rfl rfl) r1
      | succ j => exact s5 j
  | [], [], _ :: _, _, _, _, h => h.elim
  | [], _ :: _, _, _, _, _, h => by cases h
  | _ :: _, [], _, _, _, _, h => by cases h
  | _ :: _, _ :: _, [], _, _, _, h => by cases h
theorem trodAll_again (hl : laidOutB P = true) {w' : World} {sp' : Nat → Bool} : ∀ (ts : List TypeId) (vs : List Value) (ds : List (DataW H)) (ps : List MemPlace), (∀ t ∈ ts, t < P.types.size ∧ P.readableRec t = true) →
    DataW.TrodAll enc P w 0 (fun _ => true) true ts vs ds ps → (∀ p ∈ ps, w.sameAt w' p) → (∀ p ∈ ps, sp' p.block = true) → DataW.TrodAll enc P w' 0 sp' true ts vs ds ps
  | [], [], [], ps, _, h, _, _ => h
  | t :: ts, v :: vs, d :: ds, ps, hin, h, hs, hsp => by
    obtain ⟨p, q, h1, h2, e⟩ := h
    subst e
    obtain ⟨k1, k2⟩ := hin t (by simp)
    exact ⟨p, q, WideElems.Trod_stays hl k2 k1 h1 (fun x hx => hs x (by simp [hx])) (fun x hx => hsp x (by simp [hx])), trodAll_again hl ts vs ds q (fun t ht => hin t (by simp [ht])) h2 (fun x hx => hs x (by simp [hx])) (fun x hx => hsp x (by simp [hx])), rfl⟩
  | [], [], _ :: _, _, _, h, _, _ => h.elim
  | [], _ :: _, _, _, _, h, _, _ => by cases h
  | _ :: _, [], _, _, _, h, _, _ => by cases h
  | _ :: _, _ :: _, [], _, _, h, _, _ => by cases h
open Go.ChangeShapes Go.WideShapes in
theorem law_calls (hT : TabOk P T) {good : List Nat} (hg : good.all (rdOk T good) = true) (hl : laidOutB P = true) {f : FuncId} {fn : Func} {spec : ChangeSpec} {tb : TypeId} {B : Nat}
    (hpar : ∀ t ∈ fn.params.toList, t ∈ good ∧ t < P.types.size ∧ P.readableRec t = true) (hvars : spec.vars = []) (hres : fn.resultTypes = #[tb]) (htb : P.underlying tb = some .bool)
    (hspec : ∀ ds : List (DataW H), ds.length = fn.params.size → spec.fn H ds = { results := [.lit (.bool true)], args := ds })
    (hlaw : ∀ xss : List (List V), xss.length = fn.params.toList.length → (∀ i t, fn.params.toList[i]? = some t → (xss.getD i []).length = (T.get t).lf.length ∧ ∀ j, j < (T.get t).lf.length → WT (lfs T) ((T.get t).lf.getD j .oth) ((xss.getD i []).getD j V.none)) → V.bulkR xss ≤ B →
      ACalls P (lfs T) f (argsD T fn.params.toList xss) [] fun r _ => r = .v .bool (.b true))
    (W : World) (base : Nat) (args : Array Value) (ds gs : List (DataW H)) (before : List MemPlace)
    (hval : ∀ (j : Nat) t v, fn.params[j]? = some t → args[j]? = some v → Value.okWide P W .any base t v)
    (hW : DataW.Whole enc P fn.params.toList spec.vars false W args.toList ds gs before) (hB : dbulkAll (ds ++ gs) ≤ B) :
    Calls P f args W fun e W' => ∃ v, e = .returned v ∧ spec.post enc P fn false true false false W args v W' := by
  have hW' := hW
  obtain ⟨p, q, hA, hV, rfl, hfz, _⟩ := hW
  rw [hvars] at hV
  cases gs with
  | cons _ _ => exact hV.elim
  | nil =>
  obtain rfl : q = [] := hV
  simp only [List.append_nil] at hB hW' hfz
  obtain ⟨xss, s1, s2, s3, s4, s5⟩ := args_read (enc := enc) hT hg fn.params.toList args.toList ds p (fun t ht => (hpar t ht).1) (fun j t v h h' => hval j t v (by simpa using h) (by simpa using h')) hA
  have hloc : ∀ (ts : List TypeId) (xss : List (List V)), D.localL (argsD T ts xss) = false := fun ts => by
    induction ts with
    | nil => intro _; rfl
    | cons t ts ih =>
      intro xss
      show D.anyL _ _ = false
      simp only [argsD, D.anyL]
      have hv : ∀ (lf : List K) (xs : List V), D.anyL Ref.isLoc (vcells lf xs) = false := fun lf => by
        induction lf with
        | nil => intro _; rfl
        | cons k r ih => intro xs; simp only [vcells, D.anyL, D.anyR]; exact ih _
      have : D.anyR Ref.isLoc (argD T t (xss.headD [])) = false := by
        unfold argD
        cases ha : (T.get t).agg with
        | true => rw [mkVal_agg ha]; exact hv _ _
        | false =>
          rw [mkVal_one ha]
          cases (T.get t).lf with
          | nil => rfl
          | cons k r => rfl
      rw [this]
      exact ih _
  have hcall := hlaw xss s1 s2 (by omega) (memOf W) args.toList rfl rfl rfl (memOf_wf W) (by rw [argsD_length, s4]) s5 (hloc _ _)
  rw [show args.toList.toArray = args from by simp] at hcall
  refine hcall.mono fun e W' ⟨v, r, S', he, hw, _, _, _, hrv, _, hext, hr⟩ => ⟨v, he, ?_⟩
  subst hr
  have hv := hrv.bool_inv
  have hb0 : ∀ i bc, (memOf W).blk (.own i) = some bc → False := fun i bc h => by simp [memOf, Sig.blk] at h
  have hheap : ∀ b, b < W.heap.size → W'.heap[b]? = W.heap[b]? := fun b hb => by
    rw [← hw]
    exact (hext.block b hb fun i bc h => (hb0 i bc h).elim).1
  have hlt : ∀ x ∈ p, x.block < W.heap.size := fun x hx => hW'.lt x hx
  have hsame : ∀ x ∈ p, W.sameAt W' x := fun x hx => by
    have := hheap _ (hlt x hx)
    cases x with
    | cell b off => exact World.cell?_of_block this
    | map b => exact this
  have hlen : ds.length = fn.params.size := by
    have : ∀ (ts : List TypeId) (vs : List Value) (ds : List (DataW H)) (ps : List MemPlace), DataW.TrodAll enc P W 0 (fun _ => true) true ts vs ds ps → ds.length = ts.length := fun ts => by
      induction ts with
      | nil => intro vs ds ps h; cases vs <;> cases ds <;> first | rfl | cases h
      | cons t ts ih =>
        intro vs ds ps h
        cases vs with
        | nil => cases h
        | cons v vs =>
          cases ds with
          | nil => cases h
          | cons d ds => obtain ⟨_, _, _, h2, _⟩ := h; simp [ih vs ds _ h2]
    simpa using this _ _ _ _ hA
  have hsp := hspec ds hlen
  have hargs : ∀ sp : Nat → Bool, (∀ x ∈ p, sp x.block = true) → DataW.TrodAll enc P W' 0 sp true fn.params.toList args.toList ds p := fun sp h => trodAll_again hl _ _ _ _ (fun t ht => (hpar t ht).2) hA hsame h
  have hold : ∀ x ∈ p, (fun b => decide (b < W.heap.size)) x.block = true := fun x hx => by simpa using hlt x hx
  have hout : ∀ (b : Nat) (sp : Nat → Bool) (hd : Bool), DataW.TrodAll enc P W' b sp hd fn.resultTypes.toList (v.resultList fn.resultTypes.size) [.lit (.bool true)] [] := fun b sp hd => by
    rw [hres, hv]
    exact trodAll_cons_mk (RowKit.shut_bool htb _) trodAll_mk0
  have hfrz : ∀ b off, b < W.heap.size → W'.frozen? ⟨b, off, none⟩ = W.frozen? ⟨b, off, none⟩ := fun b off hb => by
    simp only [World.frozen?, hheap b hb]
  refine ⟨ds, [], p, [], p, [], hW', by rw [List.append_nil, hsp]; exact hout _ _ _, by rw [List.append_nil, hsp]; exact hargs _ hold, by rw [hvars, List.append_nil, hsp]; rfl, ?_, fun h => by cases h⟩
  refine ⟨by rw [← hw]; exact hext.os, by rw [← hw]; exact hext.output, fun i hi => ?_⟩
  rw [hheap i hi]
  rw [Array.getElem?_eq_getElem hi]
  cases W.heap[i] <;> simp
end
end Go.Abs
set_option linter.unusedVariables false
set_option linter.unusedSimpArgs false
namespace Go.Proofs.Ytgohjdaepcmonaa
open Go.Abs
abbrev WTt := WT (lfs tab)
def AllWT : List K → List V → Prop
  | [], [] => True
  | k :: ks, v :: vs => WTt k v ∧ AllWT ks vs
  | _, _ => False
theorem allWT_of : ∀ (ks : List K) (vs : List V), vs.length = ks.length → (∀ j, j < ks.length → WTt (ks.getD j .oth) (vs.getD j V.none)) → AllWT ks vs
  | [], [], _, _ => trivial
  | [], _ :: _, h, _ => by simp at h
  | _ :: _, [], h, _ => by simp at h
  | k :: ks, v :: vs, h, h2 => ⟨h2 0 (by simp), allWT_of ks vs (by simpa using h) fun j hj => h2 (j + 1) (by simpa using hj)⟩
theorem wt_str {v : V} (h : WTt .str v) : ∃ s, v = .s s := by cases h with | str s => exact ⟨s, rfl⟩
theorem wt_bool {v : V} (h : WTt .bool v) : ∃ b, v = .b b := by cases h with | bool b => exact ⟨b, rfl⟩
theorem wt_sl {e : TypeId} {v : V} (h : WTt (.sl e) v) : ∃ xs, v = .l xs ∧ ∀ i, i < xs.length → AllWT (lfs tab e) (xs.getD i []) := by
  cases h with
  | sl _ xs h1 h2 => exact ⟨xs, rfl, fun i hi => allWT_of _ _ (h1 i hi) fun j hj => h2 i j hi hj⟩
theorem lf_Term : lfs tab t_Term = [.str, .bool, .sl t_Term] := by kernel_rfl
theorem lf_Bind : lfs tab t_Bind = [.str, .str, .bool, .sl t_Term] := by kernel_rfl
theorem terms_of_rows : ∀ (xs : List (List V)), (∀ i, i < xs.length → ∃ t : Tm, xs.getD i [] = t.enc ∧ t.size ≤ V.bulkL t.enc) → ∃ l : List Tm, xs = Tm.encL l ∧ Tm.sizeL l ≤ V.bulkR (Tm.encL l)
  | [], _ => ⟨[], rfl, by simp [Tm.sizeL]⟩
  | x :: xs, h => by
    obtain ⟨t, ht, hs⟩ := h 0 (by simp)
    obtain ⟨l, hl, hs2⟩ := terms_of_rows xs fun i hi => h (i + 1) (by simpa using hi)
    refine ⟨t :: l, ?_, ?_⟩
    · have : x = t.enc := ht
      rw [this, hl]; rfl
    · simp only [Tm.sizeL, Tm.encL, V.bulkR]; omega
theorem wt_terms_aux {k : K} {v : V} (h : WTt k v) : k = .sl t_Term → ∃ l : List Tm, v = .l (Tm.encL l) ∧ Tm.sizeL l + 1 ≤ V.bulk (.l (Tm.encL l)) := by
  induction h with
  | int _ _ _ => intro h; cases h
  | bool _ => intro h; cases h
  | str _ => intro h; cases h
  | sl e xs h1 h2 ih =>
    intro he
    obtain rfl : e = t_Term := by injection he
    rw [lf_Term] at h1 h2 ih
    obtain ⟨l, hl, hs⟩ := terms_of_rows xs fun i hi => by
      have g0 := h1 i hi
      have g1 := h2 i 0 hi (by decide)
      have g2 := h2 i 1 hi (by decide)
      have g3 := ih i 2 hi (by decide) rfl
      generalize xs.getD i [] = c at g0 g1 g2 g3
      match c, g0 with
      | [a, b, d], _ =>
        obtain ⟨n, hn⟩ := wt_str g1
        obtain ⟨w, hw⟩ := wt_bool g2
        obtain ⟨l, hl, hs⟩ := g3
        have hn : a = .s n := hn
        have hw : b = .b w := hw
        have hl : d = .l (Tm.encL l) := hl
        subst hn hw hl
        refine ⟨.mk n w l, rfl, ?_⟩
        simp only [Tm.size, Tm.enc, V.bulkL, V.bulk] at hs ⊢
        omega
    exact ⟨l, by rw [hl], by simp only [V.bulk]; omega⟩
theorem wt_terms {v : V} (h : WTt (.sl t_Term) v) : ∃ l : List Tm, v = .l (Tm.encL l) ∧ Tm.sizeL l + 1 ≤ v.bulk := by
  obtain ⟨l, h1, h2⟩ := wt_terms_aux h rfl
  exact ⟨l, h1, by rw [h1]; exact h2⟩
theorem wt_term {a b c : V} (h : AllWT [.str, .bool, .sl t_Term] [a, b, c]) : ∃ t : Tm, a = .s t.name ∧ b = .b t.var ∧ c = .l (Tm.encL t.args) ∧ t.size ≤ a.bulk + b.bulk + c.bulk := by
  obtain ⟨h1, h2, h3, _⟩ := h
  obtain ⟨n, rfl⟩ := wt_str h1
  obtain ⟨w, rfl⟩ := wt_bool h2
  obtain ⟨l, rfl, hs⟩ := wt_terms h3
  refine ⟨.mk n w l, rfl, rfl, rfl, ?_⟩
  simp only [Tm.size] at hs ⊢
  simp only [V.bulk] at hs ⊢
  omega
def ArgWT (ts : List TypeId) (xss : List (List V)) : Prop := xss.length = ts.length ∧ ∀ i t, ts[i]? = some t → AllWT (tab.get t).lf (xss.getD i [])
theorem argWT_of {ts : List TypeId} {xss : List (List V)} (h1 : xss.length = ts.length) (h2 : ∀ i t, ts[i]? = some t → (xss.getD i []).length = (tab.get t).lf.length ∧ ∀ j, j < (tab.get t).lf.length → WT (lfs tab) ((tab.get t).lf.getD j .oth) ((xss.getD i []).getD j V.none)) : ArgWT ts xss :=
  ⟨h1, fun i t ht => allWT_of _ _ (h2 i t ht).1 (h2 i t ht).2⟩
end Go.Proofs.Ytgohjdaepcmonaa
set_option linter.unusedVariables false
set_option linter.unusedSimpArgs false
namespace Go.Proofs.Ytgohjdaepcmonaa
open Go.Abs
namespace Tm
theorem image_mem (l : Su) (x : ByteArray) : image l x = mk x true [] ∨ ∃ y ∈ l, image l x = y.2 := by
  induction l with
  | nil => exact .inl rfl
  | cons y r ih =>
    simp only [image]
    by_cases h : y.1 = x
    · rw [if_pos h]; exact .inr ⟨y, by simp, rfl⟩
    · rw [if_neg h]
      rcases ih with h2 | ⟨z, h3, h4⟩
      · exact .inl h2
      · exact .inr ⟨z, by simp [h3], h4⟩
theorem sizeL_map_le {f : Tm → Tm} {M : Nat} : ∀ {l : List Tm}, (∀ a ∈ l, (f a).size ≤ a.size * M) → sizeL (l.map f) ≤ sizeL l * M
  | [], _ => by simp [sizeL]
  | t :: r, h => by
    have h1 := h t (by simp)
    have h2 := sizeL_map_le (l := r) fun a ha => h a (by simp [ha])
    simp only [List.map_cons, sizeL, Nat.add_mul]; omega
theorem app_size {l : Su} {M : Nat} (hM : 1 ≤ M) (h : ∀ x ∈ l, x.2.size ≤ M) : ∀ t : Tm, (app l t).size ≤ t.size * M := ind fun t ih => by
  rw [app_eq]
  have hp : M ≤ t.size * M := Nat.le_mul_of_pos_left M (size_pos t)
  split
  · rcases image_mem l t.name with h2 | ⟨y, hy, h2⟩
    · rw [h2]; simp [size, sizeL]; omega
    · rw [h2]; exact Nat.le_trans (h y hy) hp
  · have := sizeL_map_le ih
    rw [size_eq t, Nat.add_mul]
    show 1 + sizeL (t.args.map (app l)) ≤ _
    omega
theorem app_formed {l : Su} (h : ∀ x ∈ l, x.2.formed = true) : ∀ t : Tm, t.formed = true → (app l t).formed = true := ind fun t ih ht => by
  rw [app_eq]
  have ht' := ht
  rw [formed_eq] at ht'
  split
  · rename_i hv
    rw [hv, if_pos rfl, Bool.and_eq_true] at ht'
    rcases image_mem l t.name with h2 | ⟨y, hy, h2⟩
    · rw [h2, formed_eq]
      show (if true then nameOk t.name false && List.isEmpty ([] : List Tm) else _) = true
      rw [if_pos rfl, ht'.1]; rfl
    · rw [h2]; exact h y hy
  · rename_i hv
    rw [if_neg hv] at ht'
    simp only [Bool.and_eq_true] at ht'
    rw [formed_eq]
    simp only [name, var, args, Bool.false_eq_true, if_false, Bool.and_eq_true, List.length_map]
    refine ⟨⟨ht'.1.1, ht'.1.2⟩, ?_⟩
    rw [List.all_eq_true]
    intro x hx
    obtain ⟨a, ha, rfl⟩ := List.mem_map.1 hx
    exact ih a ha (List.all_eq_true.1 ht'.2 a ha)
end Tm
theorem suErr_zero {l : Su} (h : suErr l = 0) : ∀ x ∈ l, x.2.check = 0 := by
  unfold suErr at h
  split at h
  · rw [Tm.checkAll_zero] at h
    exact fun x hx => h _ (List.mem_map_of_mem hx)
  · cases h
end Go.Proofs.Ytgohjdaepcmonaa
set_option linter.unusedVariables false
set_option linter.unusedSimpArgs false
namespace Go.Proofs.Ytgohjdaepcmonaa
open Go.Abs Tm
theorem sort_namesOk {l : Su} (h : SortS l) (hn : ∀ y ∈ l, nameOk y.1 false = true) : namesOk false (suNames l) = true := by
  have hl2 : (suNames l).length = l.length := by simp [suNames]
  refine namesOk_all fun k hk => ?_
  unfold nameAt
  rw [Bool.and_eq_true, Bool.or_eq_true, decide_eq_true_iff, decide_eq_true_iff]
  rw [suNames_getD l k (by omega)]
  refine ⟨hn _ (List.getElem_mem _), ?_⟩
  by_cases h0 : k = 0
  · exact .inl h0
  · refine .inr ?_
    rw [suNames_getD l (k - 1) (by omega)]
    exact h.lt _ _ _ _ (by omega)
theorem suErr_ok {l : Su} (h : SortS l) (hn : ∀ y ∈ l, nameOk y.1 false = true) (hc : ∀ y ∈ l, y.2.check = 0) : suErr l = 0 := by
  unfold suErr
  rw [if_pos (sort_namesOk h hn), Tm.checkAll_zero]
  intro t ht
  obtain ⟨y, hy, rfl⟩ := List.mem_map.1 ht
  exact hc y hy
theorem formed_vs : ∀ t : Tm, t.formed = true → ∀ x ∈ vs t, nameOk x false = true := ind fun t ih h x hx => by
  by_cases hv : t.var = true
  · rw [vs_var hv] at hx
    rw [Tm.formed_eq, if_pos hv, Bool.and_eq_true] at h
    rw [hx]; exact h.1
  · have hv : t.var = false := by simpa using hv
    rw [vs_fn hv] at hx
    obtain ⟨a, ha, hxa⟩ := hx
    exact ih a ha (formed_args h a ha) x hxa
theorem formed_vr {x : ByteArray} : (vr x).formed = nameOk x false := by
  rw [Tm.formed_eq]
  show (if true = true then nameOk x false && List.isEmpty ([] : List Tm) else _) = _
  rw [if_pos rfl, List.isEmpty_nil, Bool.and_true]
theorem sub_formed {f : ByteArray → Tm} : ∀ t : Tm, t.formed = true → (∀ x ∈ vs t, (f x).formed = true) → (sub f t).formed = true := ind fun t ih h hf => by
  by_cases hv : t.var = true
  · rw [sub_var _ hv]; exact hf _ ((vs_var hv).2 rfl)
  · have hv : t.var = false := by simpa using hv
    rw [sub_fn _ hv]
    have h' := h
    rw [Tm.formed_eq, if_neg (by rw [hv]; simp)] at h'
    simp only [Bool.and_eq_true] at h'
    rw [Tm.formed_eq]
    simp only [name, var, args, Bool.false_eq_true, if_false, Bool.and_eq_true, List.length_map]
    refine ⟨⟨h'.1.1, h'.1.2⟩, ?_⟩
    rw [List.all_eq_true]
    intro x hx
    obtain ⟨a, ha, rfl⟩ := List.mem_map.1 hx
    exact ih a ha (formed_args h a ha) fun y hy => hf y ((vs_fn hv).2 ⟨a, ha, hy⟩)
theorem Tri.formed {σ : Bd} {θ : ByteArray → Tm} {r : ByteArray → Nat} (h : Tri σ θ r) (hσ : ∀ x t, σ x = some t → t.formed = true) : ∀ (n : Nat) (x : ByteArray), r x ≤ n → nameOk x false = true → (θ x).formed = true := by
  intro n
  induction n with
  | zero =>
    intro x hx hn
    cases hs : σ x with
    | none => rw [h.fre x hs, formed_vr]; exact hn
    | some t =>
      rw [h.bnd x t hs]
      refine sub_formed t (hσ x t hs) fun y hy => ?_
      have := h.rk x t hs y hy; omega
  | succ n ih =>
    intro x hx hn
    cases hs : σ x with
    | none => rw [h.fre x hs, formed_vr]; exact hn
    | some t =>
      rw [h.bnd x t hs]
      refine sub_formed t (hσ x t hs) fun y hy => ?_
      have := h.rk x t hs y hy
      exact ih y (by omega) (formed_vs t (hσ x t hs) y hy)
theorem sub_vr : ∀ t : Tm, t.formed = true → sub vr t = t := ind fun t ih h => by
  by_cases hv : t.var = true
  · rw [sub_var _ hv]; exact (formed_var h hv).symm
  · have hv : t.var = false := by simpa using hv
    rw [sub_fn _ hv]
    have : t.args.map (sub vr) = t.args := by
      conv => rhs; rw [← List.map_id t.args]
      exact List.map_congr_left fun a ha => ih a ha (formed_args h a ha)
    rw [this]
    exact Tm.ext rfl hv.symm rfl
theorem sub_inj {f g : ByteArray → Tm} : ∀ t : Tm, sub f t = sub g t → ∀ x ∈ vs t, f x = g x := ind fun t ih h x hx => by
  by_cases hv : t.var = true
  · rw [sub_var _ hv, sub_var _ hv] at h
    rw [vs_var hv] at hx
    rw [hx]; exact h
  · have hv : t.var = false := by simpa using hv
    rw [sub_fn _ hv, sub_fn _ hv] at h
    injection h with _ _ h
    obtain ⟨a, ha, hxa⟩ := (vs_fn hv).1 hx
    exact ih a ha (List.map_inj_left.1 h a ha) x hxa
theorem UnOk.image {σ : Bd} {θ : ByteArray → Tm} {r : ByteArray → Nat} {out : Su} (h : UnOk σ θ out) (ht : Tri σ θ r) : Tm.image out = θ := by
  funext x
  cases hs : σ x with
  | none =>
    rw [image_free (boundS_false.2 fun y hy e => ((h.mem y).1 hy).1 (e ▸ hs)), ht.fre x hs]
  | some t =>
    exact image_sort h.sort ((h.mem (x, θ x)).2 ⟨by rw [hs]; simp, rfl⟩)
theorem resp_vr (τ : ByteArray → Tm) : Resp τ (fun _ => none) := fun x t h => by cases h
structure Uni2 (a b : Tm) (σ : Bd) (θ : ByteArray → Tm) (r : ByteArray → Nat) : Prop where
  sl : Sl (fun _ => none) [a] [b] (some σ)
  tri : Tri σ θ r
theorem Uni2.eq {a b : Tm} {σ : Bd} {θ : ByteArray → Tm} {r : ByteArray → Nat} (h : Uni2 a b σ θ r) : sub θ a = sub θ b := by
  have := (h.sl.mono σ rfl θ h.tri.resp).2
  simpa using this
theorem Uni2.resp {a b : Tm} {σ : Bd} {θ : ByteArray → Tm} {r : ByteArray → Nat} (h : Uni2 a b σ θ r) {τ : ByteArray → Tm} (e : sub τ a = sub τ b) : Resp τ σ := by
  obtain ⟨σ', h1, h2⟩ := h.sl.complete _ _ Tri.empty τ (resp_vr τ) (by simp [e])
  cases h1; exact h2
theorem Uni2.thr {a b : Tm} {σ : Bd} {θ : ByteArray → Tm} {r : ByteArray → Nat} (h : Uni2 a b σ θ r) {τ : ByteArray → Tm} (e : sub τ a = sub τ b) (t : Tm) : sub τ (sub θ t) = sub τ t := h.tri.thr (h.resp e) t
theorem Uni2.thrX {a b : Tm} {σ : Bd} {θ : ByteArray → Tm} {r : ByteArray → Nat} (h : Uni2 a b σ θ r) {τ : ByteArray → Tm} (e : sub τ a = sub τ b) (x : ByteArray) : sub τ (θ x) = τ x := by
  have := h.thr e (vr x)
  rwa [sub_var θ (t := vr x) rfl, sub_var τ (t := vr x) rfl] at this
theorem no_unifier {a b : Tm} (h : Sl (fun _ => none) [a] [b] none) {τ : ByteArray → Tm} (e : sub τ a = sub τ b) : False := by
  obtain ⟨σ', h1, _⟩ := h.complete _ _ Tri.empty τ (resp_vr τ) (by simp [e])
  cases h1
theorem Uni2.formed {a b : Tm} {σ : Bd} {θ : ByteArray → Tm} {r : ByteArray → Nat} (h : Uni2 a b σ θ r) (ha : a.formed = true) (hb : b.formed = true) : ∀ x, nameOk x false = true → (θ x).formed = true := fun x =>
  h.tri.formed (h.sl.terms (P := fun t => t.formed = true) (fun t ht a ha => formed_args ht a ha) _ rfl (fun x t h => by cases h) (fun t ht => by rw [List.mem_singleton.1 ht]; exact ha) (fun t ht => by rw [List.mem_singleton.1 ht]; exact hb)) _ x (Nat.le_refl _)
theorem Uni2.dom {a b : Tm} {σ : Bd} {θ : ByteArray → Tm} {r : ByteArray → Nat} (h : Uni2 a b σ θ r) {x : ByteArray} (hx : σ x ≠ none) : x ∈ vs a ∨ x ∈ vs b := by
  have := h.sl.dom (U := vs a ++ vs b) σ rfl (inU_none _) (fun t ht y hy => by rw [List.mem_singleton.1 ht] at hy; exact List.mem_append_left _ hy) (fun t ht y hy => by rw [List.mem_singleton.1 ht] at hy; exact List.mem_append_right _ hy) x hx
  rcases this with h | h
  · exact absurd rfl h
  · exact List.mem_append.1 h
theorem sub_grow {f : ByteArray → Tm} : ∀ t : Tm, t.formed = true → t.size ≤ (sub f t).size ∧ t.depth ≤ (sub f t).depth := ind fun t ih h => by
  by_cases hv : t.var = true
  · have h2 := formed_var h hv
    have h3 : t.size = 1 ∧ t.depth = 1 := by rw [h2]; exact ⟨rfl, rfl⟩
    have h4 := size_pos (sub f t)
    have h5 := depth_eq (sub f t)
    omega
  · have hv : t.var = false := by simpa using hv
    have key : ∀ l : List Tm, (∀ a ∈ l, a.size ≤ (sub f a).size ∧ a.depth ≤ (sub f a).depth) → sizeL l ≤ sizeL (l.map (sub f)) ∧ depthL l ≤ depthL (l.map (sub f)) := by
      intro l
      induction l with
      | nil => intro _; exact ⟨Nat.le_refl _, Nat.le_refl _⟩
      | cons a r ihr =>
        intro hl
        have g1 := hl a (by simp)
        have g2 := ihr fun b hb => hl b (List.mem_cons_of_mem _ hb)
        simp only [List.map_cons, sizeL, depthL]
        omega
    have g := key t.args fun a ha => ih a ha (formed_args h a ha)
    rw [sub_fn _ hv, size_eq t, depth_eq t]
    simp only [size, depth]
    omega
theorem Uni2.same {a b : Tm} {σ σ' : Bd} {θ θ' : ByteArray → Tm} {r r' : ByteArray → Nat} (h : Uni2 a b σ θ r) (h' : Uni2 b a σ' θ' r') (ha : a.formed = true) (hb : b.formed = true) (x : ByteArray) (hx : nameOk x false = true) : (θ x).size = (θ' x).size ∧ (θ x).depth = (θ' x).depth := by
  have g1 := sub_grow (f := θ') _ (h.formed ha hb x hx)
  have g2 := sub_grow (f := θ) _ (h'.formed hb ha x hx)
  rw [h.thrX h'.eq.symm] at g1
  rw [h'.thrX h.eq.symm] at g2
  omega
theorem Uni2.fits {a b : Tm} {σ σ' : Bd} {θ θ' : ByteArray → Tm} {r r' : ByteArray → Nat} (h : Uni2 a b σ θ r) (h' : Uni2 b a σ' θ' r') (ha : a.formed = true) (hb : b.formed = true) (hf : ∀ x, σ' x ≠ none → fitsT (θ' x)) (x : ByteArray) (hx : σ x ≠ none) : fitsT (θ x) := by
  have hn : nameOk x false = true := by
    rcases h.dom hx with g | g
    · exact formed_vs a ha x g
    · exact formed_vs b hb x g
  have e := h.same h' ha hb x hn
  cases hs : σ' x with
  | none =>
    rw [h'.tri.fre x hs] at e
    have e1 : (vr x).size = 1 := rfl
    have e2 : (vr x).depth = 1 := rfl
    unfold fitsT
    omega
  | some t =>
    have g := hf x (by rw [hs]; simp)
    unfold fitsT at g ⊢
    omega
end Go.Proofs.Ytgohjdaepcmonaa
set_option linter.unusedVariables false
set_option linter.unusedSimpArgs false
namespace Go.Proofs.Ytgohjdaepcmonaa
open Go.Abs Tm
theorem enc_rule (s t : Tm) : [[V.s s.name, V.b s.var, V.l (Tm.encL s.args), V.s t.name, V.b t.var, V.l (Tm.encL t.args)]] = encRs [(s, t)] := by
  simp [encRs, encR, Tm.enc_eq]
theorem isB_same {l : Ru} {res : Su × Bool × Int} (h : UnRes l res) : isB res.1 res.2.1 res.2.2 res.1 res.2.1 res.2.2 = true := by
  cases h <;> simp [isB, sameS]
theorem isB_bad (e : Int) (h : e ≠ 0) : isB [] false e [] false e = true := by simp [isB, h]
theorem rules_form {l : Ru} (h : rules l = 0) : RuForm l := by
  unfold rules at h
  split at h
  · cases h
  · intro x hx
    have := Tm.checkAll_zero.1 (rulesL_zero h x hx)
    exact ⟨(Tm.check_zero.1 (this x.1 (by simp))).1, (Tm.check_zero.1 (this x.2 (by simp))).1⟩
theorem the_end {Q : D → Heap → Prop} (hQ : Q (bD true) []) : cl f_l03_alive [] [] fun r5 H6 => r5 = (.v .bool (r5.V)) ∧ H6 = [] ∧ True ∧ Q (.v .bool (r5.V)) [] :=
  l03_alive_ok _ ⟨rfl, rfl, trivial, hQ⟩
theorem l03_UnifyUnifies_ok (a b : Tm) (l : Ru) (ha : a.size ≤ 1048576) (hb : b.size ≤ 1048576) (hl : ∀ x ∈ l, x.1.size + x.2.size ≤ 1048576) : Fn f_l03_UnifyUnifies [tD a, tD b, ruD l] (bD true) := fun Q hQ => by
  have hsm : small = 1152921504606846976 := rfl
  obtain ⟨res1, h1⟩ := UnAll.exists_ [(a, b)]
  obtain ⟨res2, h2⟩ := UnAll.exists_ l
  have hl2 : ∀ x ∈ l, x.1.size ≤ small ∧ x.2.size ≤ small := fun x hx => by have := hl x hx; omega
  have al := the_end hQ
  have j0 : jp_l03_UnifyUnifies_0 Q (encRs l) (.l (encS res2.1)) (.b res2.2.1) (.i res2.2.2) := by
    rw [jp_l03_UnifyUnifies_0_s]
    unfold je_l03_UnifyUnifies_0
    refine r01_Rules_ok l hl2 _ ⟨rfl, rfl, iff_bne (fun h => ?_) (fun h => ?_)⟩
    · have h : rules l ≠ 0 := h
      rcases h2 with ⟨_, rfl⟩ | ⟨h3, _⟩
      · refine l03_is_ok [] false (rules l) [] false (rules l) _ ⟨rfl, rfl, ?_⟩
        rw [isB_bad _ h]
        exact iff_intro (fun _ => al) (fun h => by cases h)
      · exact absurd h3 h
    · have h : rules l = 0 := h
      rcases h2 with ⟨h3, _⟩ | ⟨h3, hr⟩
      · exact absurd h h3
      · refine r03_UnifyAll_ok l (rules_ok h) (rules_form h) hr _ ⟨rfl, rfl, ?_⟩
        refine l03_is_ok res2.1 res2.2.1 res2.2.2 res2.1 res2.2.1 res2.2.2 _ ⟨rfl, rfl, ?_⟩
        rw [isB_same hr]
        exact iff_intro (fun _ => al) (fun h => by cases h)
  refine C_l03_UnifyUnifies _ _ _ _ _ _ _ _ ?_
  unfold vc_l03_UnifyUnifies
  refine unify_Unify_ok a b (by omega) (by omega) h1 _ ⟨rfl, rfl, ?_⟩
  refine unify_UnifyAll_ok l hl2 h2 _ ⟨rfl, rfl, ?_⟩
  rw [enc_pair]
  refine r01_CheckAll_ok [a, b] (fun x hx => ?_) _ ⟨rfl, rfl, iff_bne (fun h => ?_) (fun h => ?_)⟩
  · rcases List.mem_cons.1 hx with rfl | hx
    · omega
    · rw [List.mem_singleton.1 hx]; omega
  · have h : Tm.checkAll [a, b] ≠ 0 := h
    rcases h1 with ⟨_, rfl⟩ | ⟨h3, _⟩
    · rw [rules_one]
      refine l03_is_ok [] false (Tm.checkAll [a, b]) [] false (Tm.checkAll [a, b]) _ ⟨rfl, rfl, ?_⟩
      rw [isB_bad _ h]
      exact iff_not (iff_intro (fun _ => j0) (fun h => by cases h))
    · rw [rules_one] at h3; exact absurd h3 h
  · have h : Tm.checkAll [a, b] = 0 := h
    have hz : rules [(a, b)] = 0 := by rw [rules_one]; exact h
    rcases h1 with ⟨h3, _⟩ | ⟨h3, hr⟩
    · exact absurd hz h3
    · rw [enc_rule]
      refine r03_UnifyAll_ok [(a, b)] (rules_ok hz) (rules_form hz) hr _ ⟨rfl, rfl, ?_⟩
      refine l03_is_ok res1.1 res1.2.1 res1.2.2 res1.1 res1.2.1 res1.2.2 _ ⟨rfl, rfl, ?_⟩
      rw [isB_same hr]
      exact iff_not (iff_intro (fun _ => j0) (fun h => by cases h))
end Go.Proofs.Ytgohjdaepcmonaa
set_option linter.unusedVariables false
set_option linter.unusedSimpArgs false
namespace Go.Proofs.Ytgohjdaepcmonaa
open Go.Abs
theorem binds_of_rows : ∀ (xs : List (List V)), (∀ i, i < xs.length → ∃ y : ByteArray × Tm, xs.getD i [] = encB y ∧ y.2.size ≤ V.bulkL (encB y)) → ∃ l : Su, xs = encS l ∧ ∀ y ∈ l, y.2.size ≤ V.bulkR (encS l)
  | [], _ => ⟨[], rfl, fun y hy => by cases hy⟩
  | x :: xs, h => by
    obtain ⟨y, hy, hs⟩ := h 0 (by simp)
    obtain ⟨l, hl, hs2⟩ := binds_of_rows xs fun i hi => h (i + 1) (by simpa using hi)
    have e : encS (y :: l) = encB y :: encS l := rfl
    refine ⟨y :: l, ?_, fun z hz => ?_⟩
    · have : x = encB y := hy
      rw [this, hl]; rfl
    · rw [e]
      simp only [V.bulkR]
      rcases List.mem_cons.1 hz with rfl | hz
      · omega
      · have := hs2 z hz; omega
theorem wt_binds {v : V} (h : WTt (.sl t_Bind) v) : ∃ l : Su, v = .l (encS l) ∧ ∀ y ∈ l, y.2.size ≤ v.bulk := by
  obtain ⟨xs, rfl, hx⟩ := wt_sl h
  rw [lf_Bind] at hx
  obtain ⟨l, hl, hs⟩ := binds_of_rows xs fun i hi => by
    have g := hx i hi
    generalize xs.getD i [] = c at g
    match c, g with
    | [a, b, d, e], ⟨g1, g2⟩ =>
      obtain ⟨n, rfl⟩ := wt_str g1
      obtain ⟨t, rfl, rfl, rfl, ht⟩ := wt_term g2
      refine ⟨(n, t), by rw [encB, Tm.enc_eq], ?_⟩
      rw [encB, Tm.enc_eq]
      simp only [V.bulkL]
      omega
  refine ⟨l, by rw [hl], fun y hy => ?_⟩
  have := hs y hy
  rw [hl]
  simp only [V.bulk]; omega
theorem lf_Rule : lfs tab t_Rule = [.str, .bool, .sl t_Term, .str, .bool, .sl t_Term] := by kernel_rfl
theorem rules_of_rows : ∀ (xs : List (List V)), (∀ i, i < xs.length → ∃ y : Tm × Tm, xs.getD i [] = encR y ∧ y.1.size + y.2.size ≤ V.bulkL (encR y)) → ∃ l : Ru, xs = encRs l ∧ ∀ y ∈ l, y.1.size + y.2.size ≤ V.bulkR (encRs l)
  | [], _ => ⟨[], rfl, fun y hy => by cases hy⟩
  | x :: xs, h => by
    obtain ⟨y, hy, hs⟩ := h 0 (by simp)
    obtain ⟨l, hl, hs2⟩ := rules_of_rows xs fun i hi => h (i + 1) (by simpa using hi)
    have e : encRs (y :: l) = encR y :: encRs l := rfl
    refine ⟨y :: l, ?_, fun z hz => ?_⟩
    · have : x = encR y := hy
      rw [this, hl]; rfl
    · rw [e]
      simp only [V.bulkR]
      rcases List.mem_cons.1 hz with rfl | hz
      · omega
      · have := hs2 z hz; omega
theorem wt_rules {v : V} (h : WTt (.sl t_Rule) v) : ∃ l : Ru, v = .l (encRs l) ∧ ∀ y ∈ l, y.1.size + y.2.size ≤ v.bulk := by
  obtain ⟨xs, rfl, hx⟩ := wt_sl h
  rw [lf_Rule] at hx
  obtain ⟨l, hl, hs⟩ := rules_of_rows xs fun i hi => by
    have g := hx i hi
    generalize xs.getD i [] = c at g
    match c, g with
    | [a, b, d, a', b', d'], ⟨g1, g2, g3, g4⟩ =>
      obtain ⟨s, rfl, rfl, rfl, hs⟩ := wt_term ⟨g1, g2, g3, trivial⟩
      obtain ⟨t, rfl, rfl, rfl, ht⟩ := wt_term g4
      refine ⟨(s, t), by rw [encR, Tm.enc_eq, Tm.enc_eq]; rfl, ?_⟩
      rw [encR, Tm.enc_eq, Tm.enc_eq]
      simp only [V.bulkL, List.cons_append, List.nil_append]
      omega
  refine ⟨l, by rw [hl], fun y hy => ?_⟩
  have := hs y hy
  rw [hl]
  simp only [V.bulk]; omega
end Go.Proofs.Ytgohjdaepcmonaa
set_option linter.unusedVariables false
set_option linter.unusedSimpArgs false
namespace Go.Proofs.Ytgohjdaepcmonaa
open Go.Abs Tm
def SubS (s u : Su) : Prop := ∀ x, boundS s x = true → boundS u x = true ∧ image u x = image s x
theorem SubS.refl (s : Su) : SubS s s := fun x h => ⟨h, rfl⟩
theorem SubS.trans {s u w : Su} (h1 : SubS s u) (h2 : SubS u w) : SubS s w := fun x h => ⟨(h2 x (h1 x h).1).1, (h2 x (h1 x h).1).2.trans (h1 x h).2⟩
theorem bound_withS {s : Su} {v : ByteArray} {t : Tm} {x : ByteArray} : boundS (withS s v t) x = true ↔ x = v ∨ boundS s x = true := by
  rw [boundS_iff, boundS_iff]
  constructor
  · rintro ⟨y, hy, rfl⟩
    rcases withS_mem.1 hy with rfl | h
    · exact .inl rfl
    · exact .inr ⟨y, h, rfl⟩
  · rintro (rfl | ⟨y, hy, rfl⟩)
    · exact ⟨_, withS_mem.2 (.inl rfl), rfl⟩
    · exact ⟨y, withS_mem.2 (.inr hy), rfl⟩
theorem withS_so {s : Su} {v : ByteArray} {t : Tm} (hs : SortS s) (hv : boundS s v = false) : SortS (withS s v t) := withS_sort hs (boundS_false.1 hv)
theorem image_withS {s : Su} {v : ByteArray} {t : Tm} (hs : SortS s) (hv : boundS s v = false) : image (withS s v t) v = t :=
  image_sort (withS_so hs hv) (withS_mem.2 (.inl rfl))
theorem sub_withS {s : Su} {v : ByteArray} {t : Tm} (hs : SortS s) (hv : boundS s v = false) : SubS s (withS s v t) := fun x hx => by
  refine ⟨bound_withS.2 (.inr hx), ?_⟩
  obtain ⟨y, hy, rfl⟩ := boundS_iff.1 hx
  rw [image_sort (withS_so hs hv) (withS_mem.2 (.inr hy)), image_sort hs hy]
theorem app_SubS {s u : Su} (h : SubS s u) (q : Tm) (hq : ∀ x ∈ vs q, boundS s x = true) : app u q = app s q := by
  rw [app_sub, app_sub]; exact sub_congr q fun x hx => (h x (hq x hx)).2
theorem mat_app : ∀ (p : Tm) (s : Su) (t : Tm), SortS s → (mat p s t).2 = true → SubS s (mat p s t).1 ∧ (∀ x ∈ vs p, boundS (mat p s t).1 x = true) ∧ app (mat p s t).1 p = t := ind fun p ih s t hs h => by
  have hL : ∀ (ps : List Tm), (∀ q ∈ ps, ∀ (s : Su) (t : Tm), SortS s → (mat q s t).2 = true → SubS s (mat q s t).1 ∧ (∀ x ∈ vs q, boundS (mat q s t).1 x = true) ∧ app (mat q s t).1 q = t) → ∀ (s : Su) (ts : List Tm), SortS s → ts.length = ps.length → (matL ps s ts).2 = true → SubS s (matL ps s ts).1 ∧ (∀ q ∈ ps, ∀ x ∈ vs q, boundS (matL ps s ts).1 x = true) ∧ ps.map (app (matL ps s ts).1) = ts := fun ps => by
    induction ps with
    | nil =>
      intro _ s ts hs hl _
      exact ⟨SubS.refl _, fun q hq => (by cases hq), (List.eq_nil_of_length_eq_zero hl).symm⟩
    | cons q r ihr =>
      intro hq s ts hs hl h
      cases ts with
      | nil => simp at hl
      | cons t ts =>
        simp only [matL] at h ⊢
        split at h
        · rename_i h1
          rw [if_pos h1]
          obtain ⟨a1, a2, a3⟩ := hq q (by simp) s t hs h1
          obtain ⟨b1, b2, b3⟩ := ihr (fun q' h' => hq q' (List.mem_cons_of_mem _ h')) _ ts (mat_sort q s t hs) (by simpa using hl) h
          refine ⟨a1.trans b1, fun q' h' x hx => ?_, ?_⟩
          · rcases List.mem_cons.1 h' with rfl | h'
            · exact (b1 x (a2 x hx)).1
            · exact b2 q' h' x hx
          · rw [List.map_cons, b3, app_SubS b1 q a2, a3]
        · cases h
  rw [mat_eq] at h ⊢
  by_cases hv : p.var = true
  · rw [if_pos hv] at h ⊢
    by_cases hb : boundS s p.name = true
    · rw [if_pos hb] at h ⊢
      refine ⟨SubS.refl _, fun x hx => ?_, ?_⟩
      · rw [(vs_var hv).1 hx]; exact hb
      · rw [app_eq, if_pos hv]; exact eqB_iff.1 h
    · have hb : boundS s p.name = false := by simpa using hb
      rw [if_neg (by rw [hb]; simp)] at h ⊢
      refine ⟨sub_withS hs hb, fun x hx => ?_, ?_⟩
      · rw [(vs_var hv).1 hx]; exact bound_withS.2 (.inl rfl)
      · rw [app_eq, if_pos hv]; exact image_withS hs hb
  · have hv : p.var = false := by simpa using hv
    rw [if_neg (by rw [hv]; simp)] at h ⊢
    split at h
    · cases h
    · rename_i hc
      rw [if_neg hc]
      simp only [Bool.or_eq_true, Bool.not_eq_true', decide_eq_false_iff_not, not_or, Classical.not_not, Bool.not_eq_true] at hc
      obtain ⟨⟨c1, c2⟩, c3⟩ := hc
      obtain ⟨a1, a2, a3⟩ := hL p.args ih s t.args hs c3 h
      refine ⟨a1, fun x hx => ?_, ?_⟩
      · obtain ⟨q, hq, hx⟩ := (vs_fn hv).1 hx
        exact a2 q hq x hx
      · rw [app_eq, if_neg (by rw [hv]; simp), a3, ← c2]
        exact Tm.ext rfl c1.symm rfl
theorem mat_inst (f : ByteArray → Tm) : ∀ (p : Tm) (s : Su), SortS s → (∀ x, boundS s x = true → image s x = f x) → (mat p s (sub f p)).2 = true ∧ (∀ x, boundS (mat p s (sub f p)).1 x = true → (image (mat p s (sub f p)).1 x = f x ∧ (boundS s x = true ∨ x ∈ vs p))) := ind fun p ih s hs h => by
  have hL : ∀ (ps : List Tm), (∀ q ∈ ps, ∀ (s : Su), SortS s → (∀ x, boundS s x = true → image s x = f x) → (mat q s (sub f q)).2 = true ∧ (∀ x, boundS (mat q s (sub f q)).1 x = true → (image (mat q s (sub f q)).1 x = f x ∧ (boundS s x = true ∨ x ∈ vs q)))) → ∀ (s : Su), SortS s → (∀ x, boundS s x = true → image s x = f x) → (matL ps s (ps.map (sub f))).2 = true ∧ (∀ x, boundS (matL ps s (ps.map (sub f))).1 x = true → (image (matL ps s (ps.map (sub f))).1 x = f x ∧ (boundS s x = true ∨ ∃ q ∈ ps, x ∈ vs q))) := fun ps => by
    induction ps with
    | nil => intro _ s hs h; exact ⟨rfl, fun x hx => ⟨h x hx, .inl hx⟩⟩
    | cons q r ihr =>
      intro hq s hs h
      obtain ⟨a1, a2⟩ := hq q (by simp) s hs h
      obtain ⟨b1, b2⟩ := ihr (fun q' h' => hq q' (List.mem_cons_of_mem _ h')) _ (mat_sort q s (sub f q) hs) (fun x hx => (a2 x hx).1)
      simp only [List.map_cons, matL]
      rw [if_pos a1]
      refine ⟨b1, fun x hx => ⟨(b2 x hx).1, ?_⟩⟩
      rcases (b2 x hx).2 with g | ⟨q', g1, g2⟩
      · rcases (a2 x g).2 with g | g
        · exact .inl g
        · exact .inr ⟨q, by simp, g⟩
      · exact .inr ⟨q', List.mem_cons_of_mem _ g1, g2⟩
  rw [mat_eq]
  by_cases hv : p.var = true
  · rw [if_pos hv, sub_var _ hv]
    by_cases hb : boundS s p.name = true
    · rw [if_pos hb]
      exact ⟨eqB_iff.2 (h _ hb), fun x hx => ⟨h x hx, .inl hx⟩⟩
    · have hb : boundS s p.name = false := by simpa using hb
      rw [if_neg (by rw [hb]; simp)]
      refine ⟨rfl, fun x hx => ?_⟩
      rcases bound_withS.1 hx with rfl | g
      · exact ⟨image_withS hs hb, .inr ((vs_var hv).2 rfl)⟩
      · exact ⟨((sub_withS hs hb) x g).2.trans (h x g), .inl g⟩
  · have hv : p.var = false := by simpa using hv
    rw [if_neg (by rw [hv]; simp), sub_fn _ hv]
    have e : ((mk p.name false (p.args.map (sub f))).var || !(decide ((mk p.name false (p.args.map (sub f))).name = p.name)) || !(decide ((mk p.name false (p.args.map (sub f))).args.length = p.args.length))) = false := by
      simp [var, name, args]
    rw [e, if_neg (by simp)]
    obtain ⟨a1, a2⟩ := hL p.args ih s hs h
    refine ⟨a1, fun x hx => ⟨(a2 x hx).1, ?_⟩⟩
    rcases (a2 x hx).2 with g | ⟨q, g1, g2⟩
    · exact .inl g
    · exact .inr ((vs_fn hv).2 ⟨q, g1, g2⟩)
theorem insN_in : ∀ {s : Su} {x : ByteArray}, SortS s → boundS s x = true → insN (suNames s) x = suNames s
  | [], x, _, h => by simp [boundS, hasN, suNames] at h
  | y :: r, x, hs, h => by
    obtain ⟨z, hz, hzx⟩ := boundS_iff.1 h
    show insN (y.1 :: suNames r) x = y.1 :: suNames r
    unfold insN
    rcases List.mem_cons.1 hz with rfl | hz
    · rw [hzx, cmpN_self, if_neg (by omega), if_pos rfl]
    · have hlt := hs.1 z hz
      rw [hzx] at hlt
      rw [if_pos hlt, insN_in hs.2 (boundS_iff.2 ⟨z, hz, hzx⟩)]
theorem insN_with : ∀ {s : Su} {x : ByteArray} {t : Tm}, boundS s x = false → insN (suNames s) x = suNames (withS s x t)
  | [], x, t, _ => rfl
  | y :: r, x, t, h => by
    have h0 := boundS_false.1 h
    show insN (y.1 :: suNames r) x = _
    unfold insN withS
    have hr : boundS r x = false := boundS_false.2 fun z hz => h0 z (List.mem_cons_of_mem _ hz)
    by_cases hc : cmpN y.1 x = -1
    · rw [if_pos hc, if_pos (by omega), insN_with (t := t) hr]; rfl
    · have : ¬ cmpN y.1 x < 0 := by rcases cmpN_cases y.1 x with g | g | g <;> omega
      rw [if_neg hc, if_neg (h0 y (by simp)), if_neg (by omega)]; rfl
theorem mat_names : ∀ (p : Tm) (s : Su) (t : Tm), p.formed = true → SortS s → (mat p s t).2 = true → suNames (mat p s t).1 = collect p (suNames s) := ind fun p ih s t hf hs h => by
  have hL : ∀ (ps : List Tm), (∀ q ∈ ps, ∀ (s : Su) (t : Tm), q.formed = true → SortS s → (mat q s t).2 = true → suNames (mat q s t).1 = collect q (suNames s)) → (∀ q ∈ ps, q.formed = true) → ∀ (s : Su) (ts : List Tm), SortS s → ts.length = ps.length → (matL ps s ts).2 = true → suNames (matL ps s ts).1 = collectL ps (suNames s) := fun ps => by
    induction ps with
    | nil => intro _ _ s ts hs hl _; rfl
    | cons q r ihr =>
      intro hq hf s ts hs hl h
      cases ts with
      | nil => simp at hl
      | cons t ts =>
        simp only [matL] at h ⊢
        split at h
        · rename_i h1
          rw [if_pos h1, collectL, ← hq q (by simp) s t (hf q (by simp)) hs h1]
          exact ihr (fun q' h' => hq q' (List.mem_cons_of_mem _ h')) (fun q' h' => hf q' (List.mem_cons_of_mem _ h')) _ ts (mat_sort q s t hs) (by simpa using hl) h
        · cases h
  rw [mat_eq] at h ⊢
  rw [collect_eq]
  by_cases hv : p.var = true
  · rw [if_pos hv] at h ⊢
    rw [if_pos hv]
    have ha : p.args = [] := by rw [formed_var hf hv]; rfl
    rw [ha, collectL]
    by_cases hb : boundS s p.name = true
    · rw [if_pos hb] at h ⊢
      exact (insN_in hs hb).symm
    · have hb : boundS s p.name = false := by simpa using hb
      rw [if_neg (by rw [hb]; simp)] at h ⊢
      exact (insN_with hb).symm
  · have hv : p.var = false := by simpa using hv
    rw [if_neg (by rw [hv]; simp)] at h
    rw [if_neg (show ¬ p.var = true by rw [hv]; simp), if_neg (show ¬ p.var = true by rw [hv]; simp)]
    split at h
    · cases h
    · rename_i hc
      rw [if_neg hc]
      simp only [Bool.or_eq_true, Bool.not_eq_true', decide_eq_false_iff_not, not_or, Classical.not_not, Bool.not_eq_true] at hc
      exact hL p.args ih (formed_args hf) s t.args hs hc.2 h
end Go.Proofs.Ytgohjdaepcmonaa
set_option linter.unusedVariables false
set_option linter.unusedSimpArgs false
namespace Go.Proofs.Ytgohjdaepcmonaa
open Go.Abs Tm
theorem list_l' (l : List (List V)) : (V.l l).list = l := rfl
theorem l03_UnifyMatching_ok (p t : Tm) (s : Su) (hp : p.size ≤ 1048576) (ht : t.size ≤ 1048576) (hs : ∀ y ∈ s, y.2.size ≤ 1048576) : Fn f_l03_UnifyMatching [tD p, tD t, suD s] (bD true) := fun Q hQ => by
  have hlim : lim = 549755813888 := rfl
  have hsm : small = 1152921504606846976 := rfl
  have al := the_end hQ
  have j1 : p.check = 0 → suErr s = 0 → Tm.fits s p = true → jp_l03_UnifyMatching_1 Q (encS s) p.name p.var (Tm.encL p.args) := fun hc hse hf => by
    rw [jp_l03_UnifyMatching_1_s]
    unfold je_l03_UnifyMatching_1
    obtain ⟨c1, c2, c3⟩ := Tm.check_zero.1 hc
    unfold Tm.fits at hf
    simp only [Bool.and_eq_true, decide_eq_true_iff] at hf
    have hfo : (app s p).formed = true := app_formed (fun x hx => (Tm.check_zero.1 (suErr_zero hse x hx)).1) p c1
    have hca : Tm.checkAll [p, app s p] = 0 := Tm.checkAll_zero.2 fun x hx => by
      rcases List.mem_cons.1 hx with rfl | hx
      · exact hc
      · rw [List.mem_singleton.1 hx]; exact Tm.check_zero.2 ⟨hfo, hf⟩
    obtain ⟨m1, m2⟩ := mat_inst (image s) p [] trivial (fun x h => by simp [boundS, hasN, suNames] at h)
    rw [← app_sub] at m1 m2
    have em : matchR p (app s p) = ((mat p [] (app s p)).1, true, 0) := by unfold matchR; rw [if_neg (by rw [hca]; simp), if_pos m1]
    have hnm := mat_names p [] (app s p) c1 trivial m1
    have hnl : (mat p [] (app s p)).1.length = (vars [p]).length := by
      have := congrArg List.length hnm
      simp only [suNames, List.length_map] at this
      rw [this]; rfl
    refine ⟨tD (app s p), (r01_Apply_ok s p (by omega)).here rfl, .tup [suD (matchR p (app s p)).1, bD (matchR p (app s p)).2.1, iD (matchR p (app s p)).2.2], (unify_Match_ok p (app s p) ⟨hp, by omega⟩ (fun y hy => by have := Tm.mat_bnd 1048576 p [] (app s p) (by simp) (by omega) y hy; omega)).here rfl, ?_⟩
    rw [em]
    refine iff_bne (fun h => absurd rfl h) (fun _ => iff_not (iff_intro (fun _ => ?_) (fun h => by cases h)))
    show (encS (mat p [] (app s p)).1).length ≤ big → _
    intro hb
    have eV : ([[V.s p.name, V.b p.var, V.l (encL p.args)]] : List (List V)) = Tm.encL [p] := by simp [Tm.encL, Tm.enc_eq]
    rw [eV]
    refine r01_Vars_ok [p] (by simp only [sizeL]; omega) _ ⟨rfl, rfl, fun _ => iff_bne (fun h => absurd ?_ h) (fun _ => ?_)⟩
    · show ((encS (mat p [] (app s p)).1).length : Int) = ((encN (vars [p])).length : Int)
      rw [encS_length, encN_length, hnl]
    · show jp_l03_UnifyMatching_2 Q (encS s) (.l (encS (mat p [] (app s p)).1))
      rw [jp_l03_UnifyMatching_2_s]
      unfold je_l03_UnifyMatching_2
      rw [list_l', encS_length]
      intro hb
      refine range_l03_UnifyMatching_0 Q _ _ _ hb (fun _ => True) (fun k hk _ K hK => ?_) (fun _ => al) 0 (Nat.zero_le _) trivial
      rw [list_l']
      simp only [encS_getD _ k hk, Tm.enc_eq, List.drop_zero, List.headD_cons, List.tail_cons]
      rw [encS_length]
      refine ⟨by omega, by omega, tD (image s ((mat p [] (app s p)).1[k]).1), (r01_Image_ok s _).here rfl, r01_Equal_ok _ _ _ ⟨rfl, rfl, iff_not (iff_intro (fun _ => hK trivial) (fun h => ?_))⟩⟩
      have h : eqB ((mat p [] (app s p)).1[k]).2 (image s ((mat p [] (app s p)).1[k]).1) = false := h
      rw [eqB_false] at h
      have hmem := List.getElem_mem hk
      exact absurd (by rw [← image_sort (mat_sort p [] (app s p) trivial) hmem, (m2 _ (boundS_iff.2 ⟨_, hmem, rfl⟩)).1]) h
  have j0 : jp_l03_UnifyMatching_0 Q (encS s) p.name p.var (Tm.encL p.args) := by
    rw [jp_l03_UnifyMatching_0_s]
    unfold je_l03_UnifyMatching_0
    refine r01_Check_ok p (by omega) _ ⟨rfl, rfl, iff_bne (fun _ => al) (fun h1 => ?_)⟩
    refine r01_CheckSubst_ok s (fun x hx => by have := hs x hx; omega) _ ⟨rfl, rfl, iff_bne (fun _ => al) (fun h2 => ?_)⟩
    have hz := app_size (l := s) (M := 1048576) (by omega) hs p
    refine r01_Fits_ok s p (by omega) _ ⟨rfl, rfl, iff_not (iff_intro (fun h3 => j1 h1 h2 h3) (fun _ => al))⟩
  refine C_l03_UnifyMatching _ _ _ _ _ _ _ _ ?_
  unfold vc_l03_UnifyMatching
  refine unify_Match_ok p t ⟨hp, ht⟩ (fun y hy => by have := Tm.mat_bnd 1048576 p [] t (by simp) ht y hy; omega) _ ⟨rfl, rfl, iff_beq (fun h1 => iff_intro (fun h2 => ?_) (fun _ => j0)) (fun _ => j0)⟩
  have h2 : (matchR p t).2.1 = true := h2
  have hm : (mat p [] t).2 = true ∧ (matchR p t).1 = (mat p [] t).1 := by
    unfold matchR at h2 ⊢
    split at h2
    · cases h2
    · rename_i g
      rw [if_neg g]
      split at h2
      · rename_i g2; rw [if_pos g2]; exact ⟨g2, rfl⟩
      · cases h2
  refine ⟨tD (app (matchR p t).1 p), (r01_Apply_ok _ p (by omega)).here rfl, r01_Equal_ok _ _ _ ⟨rfl, rfl, iff_not (iff_intro (fun _ => j0) (fun h => ?_))⟩⟩
  have h : eqB (app (matchR p t).1 p) t = false := h
  rw [hm.2, eqB_false] at h
  exact absurd (mat_app p [] t trivial hm.1).2.2 h
end Go.Proofs.Ytgohjdaepcmonaa
set_option linter.unusedVariables false
set_option linter.unusedSimpArgs false
namespace Go.Proofs.Ytgohjdaepcmonaa
open Go.Abs Tm
namespace Tm
mutual
def first : Tm → List ByteArray → List ByteArray | mk n v xs, l => if v then (if hasN l n then l else l ++ [n]) else firstL xs l
def firstL : List Tm → List ByteArray → List ByteArray | [], l => l | t :: r, l => firstL r (first t l)
end
theorem first_eq : ∀ (t : Tm) (l : List ByteArray), first t l = if t.var then (if hasN l t.name then l else l ++ [t.name]) else firstL t.args l | mk _ _ _, _ => rfl
theorem firstL_append : ∀ (a b : List Tm) (l : List ByteArray), firstL (a ++ b) l = firstL b (firstL a l)
  | [], _, _ => rfl
  | t :: r, b, l => by rw [List.cons_append, firstL, firstL, firstL_append r b]
theorem firstL_take (a : List Tm) (k : Nat) (h : k < a.length) (l : List ByteArray) : firstL (a.take (k + 1)) l = first a[k] (firstL (a.take k) l) := by
  rw [List.take_succ_eq_append_getElem h, firstL_append]; rfl
theorem firstL_length : ∀ (a : List Tm), (∀ t ∈ a, ∀ l, (first t l).length ≤ l.length + t.size) → ∀ l, (firstL a l).length ≤ l.length + sizeL a
  | [], _, l => by simp [firstL, sizeL]
  | t :: r, h, l => by
    have h1 := h t (by simp) l
    have h2 := firstL_length r (fun t ht => h t (List.mem_cons_of_mem _ ht)) (first t l)
    simp only [firstL, sizeL]; omega
theorem first_length : ∀ (t : Tm) (l : List ByteArray), (first t l).length ≤ l.length + t.size := ind fun t ih l => by
  rw [first_eq, size_eq]
  have h := firstL_length t.args ih l
  split
  · split
    · omega
    · rw [List.length_append, List.length_singleton]; omega
  · omega
theorem firstL_len (a : List Tm) (l : List ByteArray) : (firstL a l).length ≤ l.length + sizeL a := firstL_length a (fun t _ => first_length t) l
theorem firstL_mem : ∀ (a : List Tm), (∀ t ∈ a, ∀ l x, x ∈ first t l ↔ x ∈ l ∨ x ∈ vs t) → ∀ l x, x ∈ firstL a l ↔ x ∈ l ∨ ∃ t ∈ a, x ∈ vs t
  | [], _, l, x => by simp [firstL]
  | t :: r, h, l, x => by
    rw [firstL, firstL_mem r (fun t ht => h t (List.mem_cons_of_mem _ ht)), h t (by simp)]
    simp [or_assoc]
theorem first_mem : ∀ (t : Tm) (l : List ByteArray) (x : ByteArray), x ∈ first t l ↔ x ∈ l ∨ x ∈ vs t := ind fun t ih l x => by
  rw [first_eq]
  by_cases hv : t.var = true
  · rw [if_pos hv, vs_var hv]
    split
    · rename_i h
      rw [hasN_iff] at h
      constructor
      · exact .inl
      · rintro (g | rfl)
        · exact g
        · exact h
    · simp
  · have hv : t.var = false := by simpa using hv
    rw [if_neg (by rw [hv]; simp), vs_fn hv]
    exact firstL_mem t.args ih l x
theorem firstL_nodup : ∀ (a : List Tm), (∀ t ∈ a, ∀ l : List ByteArray, l.Nodup → (first t l).Nodup) → ∀ l : List ByteArray, l.Nodup → (firstL a l).Nodup
  | [], _, l, h => h
  | t :: r, h, l, hl => by rw [firstL]; exact firstL_nodup r (fun t ht => h t (List.mem_cons_of_mem _ ht)) _ (h t (by simp) l hl)
theorem first_nodup : ∀ (t : Tm) (l : List ByteArray), l.Nodup → (first t l).Nodup := ind fun t ih l hl => by
  rw [first_eq]
  split
  · split
    · exact hl
    · rename_i h
      have h : hasN l t.name = false := by simpa using h
      rw [hasN_false] at h
      rw [List.nodup_append]
      exact ⟨hl, by simp, fun x hx y hy => by rw [List.mem_singleton.1 hy]; rintro rfl; exact h hx⟩
  · exact firstL_nodup t.args ih l hl
theorem firstL_map (ρ : ByteArray → ByteArray) (S : ByteArray → Prop) : ∀ (a : List Tm), (∀ t ∈ a, ∀ l, (∀ x ∈ vs t, S x) → (∀ x ∈ l, S x) → first (sub (fun x => vr (ρ x)) t) (l.map ρ) = (first t l).map ρ) → ∀ l, (∀ t ∈ a, ∀ x ∈ vs t, S x) → (∀ x ∈ l, S x) → firstL (a.map (sub fun x => vr (ρ x))) (l.map ρ) = (firstL a l).map ρ
  | [], _, l, _, _ => rfl
  | t :: r, h, l, h1, h2 => by
    rw [List.map_cons, firstL, firstL, h t (by simp) l (h1 t (by simp)) h2]
    refine firstL_map ρ S r (fun t ht => h t (List.mem_cons_of_mem _ ht)) _ (fun t ht => h1 t (List.mem_cons_of_mem _ ht)) fun x hx => ?_
    rcases (first_mem t l x).1 hx with g | g
    · exact h2 x g
    · exact h1 t (by simp) x g
theorem first_map (ρ : ByteArray → ByteArray) (S : ByteArray → Prop) (hρ : ∀ x y, S x → S y → ρ x = ρ y → x = y) : ∀ (t : Tm) (l : List ByteArray), (∀ x ∈ vs t, S x) → (∀ x ∈ l, S x) → first (sub (fun x => vr (ρ x)) t) (l.map ρ) = (first t l).map ρ := ind fun t ih l h1 h2 => by
  by_cases hv : t.var = true
  · rw [sub_var _ hv, first_eq t, if_pos hv, show first (vr (ρ t.name)) (l.map ρ) = (if hasN (l.map ρ) (ρ t.name) then l.map ρ else l.map ρ ++ [ρ t.name]) from rfl]
    have hs : S t.name := h1 _ ((vs_var hv).2 rfl)
    have e : hasN (l.map ρ) (ρ t.name) = hasN l t.name := by
      rw [Bool.eq_iff_iff, hasN_iff, hasN_iff]
      constructor
      · intro h
        obtain ⟨y, hy, he⟩ := List.mem_map.1 h
        exact hρ y t.name (h2 y hy) hs he ▸ hy
      · exact List.mem_map_of_mem
    rw [e]
    split
    · rfl
    · simp
  · have hv : t.var = false := by simpa using hv
    rw [sub_fn _ hv, first_eq t, if_neg (by rw [hv]; simp)]
    show firstL (t.args.map _) (l.map ρ) = _
    exact firstL_map ρ S t.args ih l (fun a ha x hx => h1 x ((vs_fn hv).2 ⟨a, ha, hx⟩)) h2
end Tm
theorem r01_First_ok : ∀ (t : Tm) (l : List ByteArray), l.length + t.size ≤ lim → Fn f_r01_First [tD t, nsD l] (nsD (Tm.first t l)) := Tm.ind fun t ih l hB Q hQ => by
  refine C_r01_First _ _ _ _ _ ?_
  unfold vc_r01_First
  have hlim : lim = 549755813888 := rfl
  have hsz := Tm.size_eq t
  rw [Tm.first_eq] at hQ
  refine iff_intro (fun h => ?_) (fun h hb => ?_)
  · rw [if_pos h] at hQ
    refine r01_Has_ok l t.name _ ⟨rfl, rfl, iff_not (iff_intro (fun h2 => ⟨trivial, ?_⟩) (fun h2 => ?_))⟩
    · have h2 : hasN l t.name = true := h2
      rw [if_pos h2] at hQ; exact hQ
    · have h2 : hasN l t.name = false := h2
      rw [if_neg (by rw [h2]; simp)] at hQ
      have hl := encN_length l
      have e2 : encN (l ++ [t.name]) = ([] ++ encN l) ++ [[V.s t.name]] := by rw [encN_append, List.nil_append]; rfl
      have hQ : Q (D.v (K.sl t_string) (.l (encN (l ++ [t.name])))) [] := hQ
      rw [e2] at hQ
      refine ⟨rfl, by omega, by simp, by simp only [List.length_cons, List.length_nil]; omega, by simp, hQ⟩
  · rw [if_neg (by rw [h]; simp)] at hQ
    have hl := Tm.encL_length t.args
    rw [hl] at hb ⊢
    have hls := Tm.length_sizeL t.args
    refine range_r01_First_0 Q _ _ hb (fun k y => y = .l (encN (Tm.firstL (t.args.take k) l))) (fun k y hk hJ K hK => ?_) (fun y hJ => ?_) 0 _ (Nat.zero_le _) rfl
    · simp only [Tm.encL_getD _ k hk, Tm.enc_eq, List.drop_zero, List.headD_cons, List.tail_cons]
      subst hJ
      have h1 := Tm.firstL_len (t.args.take k) l
      have h2 := Tm.sizeL_take _ k hk
      have h3 := Tm.sizeL_take_le t.args (k + 1)
      exact ⟨by omega, by omega, ih _ (List.getElem_mem hk) _ (by omega) _ ⟨rfl, rfl, hK _ (by rw [Tm.firstL_take _ k hk]; rfl)⟩⟩
    · subst hJ
      rw [List.take_length]
      exact ⟨trivial, hQ⟩
def sortN (l : List ByteArray) : List ByteArray := l.foldl insN []
theorem sortN_take (l : List ByteArray) (k : Nat) (h : k < l.length) : sortN (l.take (k + 1)) = insN (sortN (l.take k)) l[k] := by
  unfold sortN; rw [List.take_succ_eq_append_getElem h, List.foldl_append]; rfl
theorem foldl_insN_length : ∀ (l m : List ByteArray), (l.foldl insN m).length ≤ m.length + l.length
  | [], m => by simp
  | x :: r, m => by
    have h1 := insN_length m x
    have h2 := foldl_insN_length r (insN m x)
    simp only [List.foldl_cons, List.length_cons]; omega
theorem sortN_length (l : List ByteArray) : (sortN l).length ≤ l.length := by
  have := foldl_insN_length l []
  simpa [sortN] using this
theorem insN_mem {l : List ByteArray} {s x : ByteArray} : x ∈ insN l s ↔ x = s ∨ x ∈ l := by
  induction l with
  | nil => simp [insN]
  | cons y r ih =>
    unfold insN
    split
    · rw [List.mem_cons, ih, List.mem_cons]
      constructor
      · rintro (h | h | h)
        · exact .inr (.inl h)
        · exact .inl h
        · exact .inr (.inr h)
      · rintro (h | h | h)
        · exact .inr (.inl h)
        · exact .inl h
        · exact .inr (.inr h)
    · split
      · rename_i h
        constructor
        · exact .inr
        · rintro (rfl | h)
          · rw [h]; simp
          · exact h
      · simp
theorem foldl_insN_mem {x : ByteArray} : ∀ (l m : List ByteArray), x ∈ l.foldl insN m ↔ x ∈ m ∨ x ∈ l
  | [], m => by simp
  | y :: r, m => by
    rw [List.foldl_cons, foldl_insN_mem r, insN_mem, List.mem_cons]
    constructor
    · rintro ((h | h) | h)
      · exact .inr (.inl h)
      · exact .inl h
      · exact .inr (.inr h)
    · rintro (h | h | h)
      · exact .inl (.inr h)
      · exact .inl (.inl h)
      · exact .inr h
theorem sortN_mem {x : ByteArray} (l : List ByteArray) : x ∈ sortN l ↔ x ∈ l := by
  unfold sortN; rw [foldl_insN_mem]; simp
theorem r01_sorted_ok (l : List ByteArray) (hB : l.length + 1 ≤ lim) : Fn f_r01_sorted [nsD l] (nsD (sortN l)) := fun Q hQ => by
  refine C_r01_sorted _ _ ?_
  unfold vc_r01_sorted
  have hlim : lim = 549755813888 := rfl
  rw [encN_length]
  intro hb
  refine range_r01_sorted_0 Q _ _ hb (fun k y => y = .l (encN (sortN (l.take k)))) (fun k y hk hJ K hK => ?_) (fun y hJ => ?_) 0 _ (Nat.zero_le _) rfl
  · subst hJ
    simp only [encN_getD _ k hk, List.drop_zero, List.headD_cons]
    have h1 := sortN_length (l.take k)
    have h2 : (l.take k).length ≤ k := List.length_take_le _ _
    rw [encN_length]
    exact ⟨by omega, by omega, r01_Insert_ok _ _ (by omega) _ ⟨rfl, rfl, hK _ (by rw [sortN_take _ k hk]; rfl)⟩⟩
  · subst hJ
    rw [List.take_length]
    exact ⟨trivial, hQ⟩
def digN (n : Nat) : ByteArray := if n < 10 then strV [[V.i (IntKind.u8.wrap (IntKind.i64.wrap ((48 : Int) + n)))]] else digN (n / 10) ++ digN (n % 10)
termination_by n
decreasing_by all_goals omega
theorem strV_one (v : V) : (strV [[v]]).size = 1 := rfl
theorem digN_size (n : Nat) : (digN n).size ≤ n + 1 := by
  induction n using Nat.strongRecOn with
  | ind n ih =>
    rw [digN]
    split
    · rw [strV_one]; omega
    · have h1 := ih (n / 10) (by omega)
      have h2 := ih (n % 10) (by omega)
      rw [ByteArray.size_append]; omega
theorem r01_Digits_ok (n : Nat) (hB : n ≤ 1048576) : Fn f_r01_Digits [iD n] (sD (digN n)) := by
  have hlim : lim = 549755813888 := rfl
  induction n using Nat.strongRecOn with
  | ind n ih =>
    intro Q hQ
    refine C_r01_Digits _ _ ?_
    unfold vc_r01_Digits
    rw [digN] at hQ
    refine iff_dec (fun h => ⟨trivial, ?_⟩) (fun h => ⟨by omega, ?_⟩)
    · rw [if_pos (by omega)] at hQ; exact hQ
    · rw [if_neg (by omega)] at hQ
      have e1 : ((n : Nat) : Int).tdiv (10 : Int) = ((n / 10 : Nat) : Int) := by
        rw [Int.tdiv_eq_ediv_of_nonneg (by omega)]; rfl
      have e2 : ((n : Nat) : Int).tmod (10 : Int) = ((n % 10 : Nat) : Int) := by
        rw [Int.tmod_eq_emod_of_nonneg (by omega)]; rfl
      have s1 := digN_size (n / 10)
      have s2 := digN_size (n % 10)
      rw [e1, e2, wrap_in _ (by omega) (by omega)]
      exact ih (n / 10) (by omega) (by omega) _ ⟨rfl, rfl, by omega, ih (n % 10) (by omega) (by omega) _ ⟨rfl, rfl, by show (digN (n / 10)).size + (digN (n % 10)).size ≤ lim; omega, trivial, hQ⟩⟩
def renB (l : List ByteArray) (p v : ByteArray) (k : Nat) : Su := (List.range k).filterMap fun i => if l.getD i bz = v then some (v, vr (p ++ digN i)) else none
def renS (l : List ByteArray) (p : ByteArray) (m : List ByteArray) : Su := m.flatMap fun v => renB l p v l.length
theorem renB_succ (l : List ByteArray) (p v : ByteArray) (k : Nat) : renB l p v (k + 1) = if l.getD k bz = v then renB l p v k ++ [(v, vr (p ++ digN k))] else renB l p v k := by
  unfold renB
  rw [List.range_succ, List.filterMap_append]
  split
  · rename_i h; rw [List.filterMap_cons]; simp only [h, if_true, List.filterMap_nil]
  · rename_i h; rw [List.filterMap_cons]; simp only [h, if_false, List.filterMap_nil, List.append_nil]
theorem renB_length (l : List ByteArray) (p v : ByteArray) (k : Nat) : (renB l p v k).length ≤ k := by
  unfold renB
  exact Nat.le_trans (List.length_filterMap_le _ _) (by simp)
theorem renS_take (l : List ByteArray) (p : ByteArray) (m : List ByteArray) (k : Nat) (h : k < m.length) : renS l p (m.take (k + 1)) = renS l p (m.take k) ++ renB l p m[k] l.length := by
  unfold renS; rw [List.take_succ_eq_append_getElem h, List.flatMap_append, List.flatMap_singleton]
theorem renS_length (l : List ByteArray) (p : ByteArray) : ∀ (m : List ByteArray), (renS l p m).length ≤ m.length * l.length
  | [] => by simp [renS]
  | v :: r => by
    have h1 := renB_length l p v l.length
    have h2 := renS_length l p r
    unfold renS at h2 ⊢
    simp only [List.flatMap_cons, List.length_append, List.length_cons, Nat.add_mul]; omega
theorem r01_Renaming_ok (l : List ByteArray) (p : ByteArray) (hB : l.length ≤ 131072) (hp : p.size ≤ 1000) : Fn f_r01_Renaming [nsD l, sD p] (suD (renS l p (sortN l))) := fun Q hQ => by
  refine C_r01_Renaming _ _ _ ?_
  unfold vc_r01_Renaming
  have hlim : lim = 549755813888 := rfl
  have hbig : big = 9223372036854775807 := rfl
  refine r01_sorted_ok l (by omega) _ ⟨rfl, rfl, ?_⟩
  show (encN (sortN l)).length ≤ big → _
  rw [show ((nsD (sortN l)).V.list) = encN (sortN l) from rfl, encN_length]
  intro hb
  have hs := sortN_length l
  refine range_r01_Renaming_0 Q _ _ _ _ hb (fun k n y => n = y.length ∧ y = encS (renS l p ((sortN l).take k))) (fun k n y hk hJ m0 ih => ?_) (fun n y hJ => ?_) 0 0 _ (Nat.zero_le _) ⟨rfl, rfl⟩
  · obtain ⟨rfl, rfl⟩ := hJ
    have hlen := renS_length l p ((sortN l).take k)
    have htk : ((sortN l).take k).length ≤ k := List.length_take_le _ _
    have hq : ((sortN l).take k).length * l.length ≤ 131072 * 131072 := Nat.mul_le_mul (by omega) hB
    rw [show ((nsD (sortN l)).V.list) = encN (sortN l) from rfl]
    rw [encN_length, encN_length l]
    simp only [encN_getD _ k hk, List.drop_zero, List.headD_cons]
    refine ⟨by omega, by omega, fun hb2 => ?_⟩
    refine range_r01_Renaming_1 Q m0 _ _ _ _ _ _ _ _ hb2 (fun i n y => n = y.length ∧ y = encS (renS l p ((sortN l).take k) ++ renB l p (sortN l)[k] i)) (fun i n y hi hJ K hK => ?_) (fun n y hJ => ?_) 0 _ _ (Nat.zero_le _) ⟨rfl, by simp [renB]⟩
    · obtain ⟨rfl, rfl⟩ := hJ
      have hlb := renB_length l p (sortN l)[k] i
      have hli : l.getD i bz = l[i] := by rw [List.getD_eq_getElem?_getD, List.getElem?_eq_getElem hi]; rfl
      simp only [encN_getD _ i hi, List.drop_zero, List.headD_cons]
      rw [encN_length l]
      refine ⟨by omega, by omega, ?_⟩
      show iff (l[i].toList == (sortN l)[k].toList) _ _
      rw [ba_beq]
      refine iff_dec (fun h => ?_) (fun h => ?_)
      · refine r01_Digits_ok i (by omega) _ ⟨rfl, rfl, ?_, trivial, ?_, hK _ _ ⟨?_, ?_⟩⟩
        · have := digN_size i
          show p.size + (digN i).size ≤ lim
          omega
        · rw [encS_length, List.length_append, List.length_singleton]; omega
        · rw [List.length_append]
        · rw [renB_succ, hli, if_pos h]
          simp only [encS, List.map_append, List.map_cons, List.map_nil, List.append_assoc]
          rfl
      · refine hK _ _ ⟨rfl, ?_⟩
        rw [renB_succ, hli, if_neg h]
    · obtain ⟨rfl, rfl⟩ := hJ
      refine ih _ _ ⟨rfl, ?_⟩
      rw [renS_take _ _ _ k hk]
  · obtain ⟨rfl, rfl⟩ := hJ
    rw [List.take_of_length_le (Nat.le_refl _)]
    exact ⟨rfl, hQ⟩
abbrev xB : ByteArray := ByteArray.mk #[120]
def renF (p : ByteArray) (t : Tm) : Su := renS (first t []) p (sortN (first t []))
def canon (t : Tm) : Tm := app (renF xB t) t
theorem image_renS {l : List ByteArray} (hl : l.Nodup) (p : ByteArray) {i : Nat} (hi : i < l.length) : image (renS l p (sortN l)) l[i] = vr (p ++ digN i) := by
  have g : ∀ j (hj : j < l.length), l.getD j bz = l[j] := fun j hj => by rw [List.getD_eq_getElem?_getD, List.getElem?_eq_getElem hj]; rfl
  have h1 : ∀ y ∈ renS l p (sortN l), y.1 = l[i] → y.2 = vr (p ++ digN i) := fun y hy e => by
    unfold renS renB at hy
    obtain ⟨v, hv, hy⟩ := List.mem_flatMap.1 hy
    obtain ⟨j, hj, hy⟩ := List.mem_filterMap.1 hy
    have hj : j < l.length := by simpa using hj
    rw [g j hj] at hy
    split at hy
    · rename_i h
      cases hy
      have : j = i := (List.getElem_inj hl).1 (h.trans e)
      subst this; rfl
    · cases hy
  have h2 : ∃ y ∈ renS l p (sortN l), y.1 = l[i] := ⟨(l[i], vr (p ++ digN i)), by
    unfold renS renB
    refine List.mem_flatMap.2 ⟨l[i], (sortN_mem l).2 (List.getElem_mem hi), List.mem_filterMap.2 ⟨i, by simpa using hi, ?_⟩⟩
    rw [g i hi, if_pos rfl], rfl⟩
  obtain ⟨y, hy, e1, e2⟩ := image_bound (boundS_iff.2 h2)
  rw [e2]; exact h1 y hy e1
theorem canon_map (p : ByteArray) (ρ : ByteArray → ByteArray) (t : Tm) (hρ : ∀ x ∈ vs t, ∀ y ∈ vs t, ρ x = ρ y → x = y) : app (renF p (sub (fun x => vr (ρ x)) t)) (sub (fun x => vr (ρ x)) t) = app (renF p t) t := by
  have hf := first_map ρ (fun x => x ∈ vs t) (fun x y hx hy => hρ x hx y hy) t [] (fun x hx => hx) (fun x hx => by cases hx)
  rw [List.map_nil] at hf
  have hn := first_nodup t [] List.nodup_nil
  have hn2 := first_nodup (sub (fun x => vr (ρ x)) t) [] List.nodup_nil
  rw [app_sub, app_sub, sub_sub]
  refine sub_congr t fun x hx => ?_
  rw [sub_var _ (t := vr (ρ x)) rfl]
  have hx2 : x ∈ first t [] := (first_mem t [] x).2 (.inr hx)
  obtain ⟨i, hi, rfl⟩ := List.getElem_of_mem hx2
  unfold renF
  rw [image_renS hn p hi]
  have hi2 : i < (first (sub (fun x => vr (ρ x)) t) []).length := by rw [hf, List.length_map]; exact hi
  have e : (first (sub (fun x => vr (ρ x)) t) [])[i] = ρ (first t [])[i] := by
    simp only [hf, List.getElem_map]
  have := image_renS hn2 p hi2
  rw [e] at this
  exact this
theorem canon_var {t u : Tm} {f g : ByteArray → Tm} (h1 : sub f t = u) (h2 : sub g u = t) (ht : t.formed = true) (hf : ∀ x ∈ vs t, (f x).formed = true) : canon u = canon t := by
  have e : ∀ x ∈ vs t, sub g (f x) = vr x := by
    refine sub_inj (f := fun x => sub g (f x)) t ?_
    rw [← sub_sub, h1, h2, sub_vr t ht]
  have hv : ∀ x ∈ vs t, f x = vr (f x).name := fun x hx => by
    have h := e x hx
    by_cases hv : (f x).var = true
    · exact formed_var (hf x hx) hv
    · have hv : (f x).var = false := by simpa using hv
      rw [sub_fn _ hv] at h; injection h with _ h _; cases h
  have eu : u = sub (fun x => vr (f x).name) t := by rw [← h1]; exact sub_congr t hv
  unfold canon
  rw [eu]
  refine canon_map xB (fun x => (f x).name) t fun x hx y hy h => ?_
  have h : (f x).name = (f y).name := h
  have e1 := e x hx
  have e2 := e y hy
  rw [hv x hx, h, ← hv y hy, e2] at e1
  injection e1 with e1; exact e1.symm
theorem r01_Canonical_ok (t : Tm) (hB : t.size ≤ 131072) : Fn f_r01_Canonical [tD t] (tD (canon t)) := fun Q hQ => by
  have hlim : lim = 549755813888 := rfl
  refine C_r01_Canonical _ _ _ _ ?_
  unfold vc_r01_Canonical
  have hl := first_length t []
  rw [List.length_nil, Nat.zero_add] at hl
  refine ⟨nsD (first t []), (r01_First_ok t [] (by simp only [List.length_nil]; omega)).here rfl, suD (renF xB t), (r01_Renaming_ok _ xB (by omega) (by decide)).here rfl, ?_⟩
  exact r01_Apply_ok (renF xB t) t (by omega) _ ⟨rfl, rfl, ⟨trivial, trivial, trivial, trivial⟩, hQ⟩
theorem r03_Variant_ok (a b : Tm) (ha : a.size ≤ 131072) (hb : b.size ≤ 131072) : Fn f_r03_Variant [tD a, tD b] (bD (eqB (canon a) (canon b))) := fun Q hQ => by
  refine C_r03_Variant _ _ _ _ _ _ _ ?_
  unfold vc_r03_Variant
  exact ⟨tD (canon a), (r01_Canonical_ok a ha).here rfl, r01_Canonical_ok b hb _ ⟨rfl, rfl, r01_Equal_ok _ _ _ ⟨rfl, rfl, trivial, hQ⟩⟩⟩
end Go.Proofs.Ytgohjdaepcmonaa
set_option linter.unusedVariables false
set_option linter.unusedSimpArgs false
namespace Go.Proofs.Ytgohjdaepcmonaa
open Go.Abs Tm
theorem fits_iff {l : Su} {t : Tm} : Tm.fits l t = true ↔ fitsT (app l t) := by
  unfold Tm.fits fitsT; simp
theorem list_z (l : List (List V)) : (V.l l).list = l := rfl
theorem checkAll_two {a b : Tm} : Tm.checkAll [a, b] = 0 ↔ a.check = 0 ∧ b.check = 0 := by
  rw [Tm.checkAll_zero]; simp
theorem collectL_mem : ∀ (a : List Tm), (∀ t ∈ a, t.formed = true → ∀ l x, x ∈ collect t l → x ∈ l ∨ x ∈ vs t) → (∀ t ∈ a, t.formed = true) → ∀ l x, x ∈ collectL a l → x ∈ l ∨ ∃ t ∈ a, x ∈ vs t
  | [], _, _, l, x, h => .inl h
  | t :: r, ih, hf, l, x, h => by
    rw [collectL] at h
    rcases collectL_mem r (fun t ht => ih t (List.mem_cons_of_mem _ ht)) (fun t ht => hf t (List.mem_cons_of_mem _ ht)) _ x h with g | ⟨u, hu, g⟩
    · rcases ih t (by simp) (hf t (by simp)) l x g with g | g
      · exact .inl g
      · exact .inr ⟨t, by simp, g⟩
    · exact .inr ⟨u, List.mem_cons_of_mem _ hu, g⟩
theorem collect_mem : ∀ (t : Tm), t.formed = true → ∀ (l : List ByteArray) (x : ByteArray), x ∈ collect t l → x ∈ l ∨ x ∈ vs t := ind fun t ih hf l x h => by
  rw [collect_eq] at h
  by_cases hv : t.var = true
  · rw [if_pos hv, show t.args = [] by rw [formed_var hf hv]; rfl, collectL, insN_mem] at h
    rcases h with h | h
    · exact .inr ((vs_var hv).2 h)
    · exact .inl h
  · have hv : t.var = false := by simpa using hv
    rw [if_neg (by rw [hv]; simp)] at h
    rcases collectL_mem t.args ih (formed_args hf) l x h with g | g
    · exact .inl g
    · exact .inr ((vs_fn hv).2 g)
theorem out_err {a b : Tm} {σ : Bd} {θ : ByteArray → Tm} {r : ByteArray → Nat} {out : Su} (h : Uni2 a b σ θ r) (ha : a.formed = true) (hb : b.formed = true) (hf : ∀ x, σ x ≠ none → fitsT (θ x)) (ho : UnOk σ θ out) : suErr out = 0 := by
  have hn : ∀ y ∈ out, nameOk y.1 false = true := fun y hy => by
    rcases h.dom ((ho.mem y).1 hy).1 with g | g
    · exact formed_vs a ha _ g
    · exact formed_vs b hb _ g
  refine suErr_ok ho.sort hn fun y hy => ?_
  obtain ⟨g1, g2⟩ := (ho.mem y).1 hy
  rw [g2]
  exact Tm.check_zero.2 ⟨h.formed ha hb _ (hn y hy), hf _ g1⟩
theorem out_small {σ : Bd} {θ : ByteArray → Tm} {out : Su} (hf : ∀ x, σ x ≠ none → fitsT (θ x)) (ho : UnOk σ θ out) : ∀ y ∈ out, y.2.size ≤ 4000 := fun y hy => by
  obtain ⟨g1, g2⟩ := (ho.mem y).1 hy
  rw [g2]; exact (hf _ g1).1
theorem Uni2.idem {a b : Tm} {σ : Bd} {θ : ByteArray → Tm} {r : ByteArray → Nat} (h : Uni2 a b σ θ r) (x : ByteArray) : sub θ (θ x) = θ x := h.thrX h.eq x
theorem l03_UnifyMostGeneral_ok (a b : Tm) (s : Su) (ha : a.size ≤ 1048576) (hb : b.size ≤ 1048576) (hs : ∀ y ∈ s, y.2.size ≤ 1048576) : Fn f_l03_UnifyMostGeneral [tD a, tD b, suD s] (bD true) := fun Q hQ => by
  have hlim : lim = 549755813888 := rfl
  have hsm : small = 1152921504606846976 := rfl
  have al := the_end hQ
  obtain ⟨res, h1⟩ := UnAll.exists_ [(a, b)]
  -- the second part
  have j2 : ∀ (u : Su) (ok : Bool), Tm.checkAll [a, b] = 0 → (∀ y ∈ u, y.2.size ≤ 4000) →
      (∀ τ : ByteArray → Tm, sub τ a = sub τ b → ok = true ∧ ∀ x, sub τ (image u x) = τ x) →
      jp_l03_UnifyMostGeneral_2 Q (encS s) (.l (encS u)) (.b ok) a.name a.var (Tm.encL a.args) b.name b.var (Tm.encL b.args) := fun u ok hc hus hu => by
    rw [jp_l03_UnifyMostGeneral_2_s]
    unfold je_l03_UnifyMostGeneral_2
    refine ⟨iD (suErr s), (r01_CheckSubst_ok s (fun x hx => by have := hs x hx; omega)).here rfl, iff_bne (fun _ => al) (fun h2 => ?_)⟩
    have h2 : suErr s = 0 := h2
    have hza := app_size (l := s) (M := 1048576) (by omega) hs a
    have hzb := app_size (l := s) (M := 1048576) (by omega) hs b
    refine ⟨bD (Tm.fits s a), (r01_Fits_ok s a (by omega)).here rfl, iff_not (iff_intro (fun h3 => ?_) (fun _ => al))⟩
    refine ⟨bD (Tm.fits s b), (r01_Fits_ok s b (by omega)).here rfl, iff_not (iff_intro (fun h4 => ?_) (fun _ => al))⟩
    refine ⟨tD (app s a), (r01_Apply_ok s a (by omega)).here rfl, r01_Apply_ok s b (by omega) _ ⟨rfl, rfl, r01_Equal_ok _ _ _ ⟨rfl, rfl, iff_not (iff_intro (fun h5 => ?_) (fun _ => al))⟩⟩⟩
    have h5 : eqB (app s a) (app s b) = true := h5
    rw [eqB_iff, app_sub, app_sub] at h5
    obtain ⟨hok, hth⟩ := hu _ h5
    show jp_l03_UnifyMostGeneral_3 Q _ _ _ _ _ _ _ _ _
    rw [jp_l03_UnifyMostGeneral_3_s]
    unfold je_l03_UnifyMostGeneral_3
    rw [hok]
    refine iff_not (iff_intro (fun _ => ?_) (fun h => by cases h))
    rw [enc_pair]
    refine r01_Vars_ok [a, b] (by simp only [sizeL]; omega) _ ⟨rfl, rfl, ?_⟩
    show (encN (vars [a, b])).length ≤ big → _
    rw [show (nsD (vars [a, b])).V = .l (encN (vars [a, b])) from rfl, list_z, encN_length]
    intro hb2
    refine range_l03_UnifyMostGeneral_1 Q _ _ _ _ hb2 (fun _ => True) (fun k hk _ K hK => ?_) (fun _ => al) 0 (Nat.zero_le _) trivial
    rw [list_z]
    simp only [encN_getD _ k hk, List.drop_zero, List.headD_cons]
    rw [encN_length]
    refine ⟨by omega, by omega, ?_⟩
    generalize hx : (vars [a, b])[k] = x
    have hxn : nameOk x false = true := by
      obtain ⟨c1, c2⟩ := checkAll_two.1 hc
      have hm : x ∈ vars [a, b] := hx ▸ List.getElem_mem hk
      unfold vars at hm
      rcases collectL_mem [a, b] (fun t _ => collect_mem t) (fun t ht => by
        rcases List.mem_cons.1 ht with rfl | ht
        · exact (Tm.check_zero.1 c1).1
        · rw [List.mem_singleton.1 ht]; exact (Tm.check_zero.1 c2).1) [] x hm with g | ⟨t, ht, g⟩
      · cases g
      · rcases List.mem_cons.1 ht with rfl | ht
        · exact formed_vs _ (Tm.check_zero.1 c1).1 x g
        · rw [List.mem_singleton.1 ht] at g; exact formed_vs _ (Tm.check_zero.1 c2).1 x g
    have hux : (image u x).size ≤ 4000 := by
      rcases image_mem u x with g | ⟨y, hy, g⟩
      · rw [g]; exact (by simp [size, sizeL] : (mk x true []).size ≤ 4000)
      · rw [g]; exact hus y hy
    have hap : app s (image u x) = image s x := by rw [app_sub]; exact hth x
    have hfx : fitsT (image s x) := by
      rcases image_mem s x with g | ⟨y, hy, g⟩
      · rw [g]; exact ⟨by simp [size, sizeL], by simp [depth, depthL]⟩
      · rw [g]; exact (Tm.check_zero.1 (suErr_zero h2 y hy)).2
    have hfit : Tm.fits s (image u x) = true := fits_iff.2 (hap ▸ hfx)
    have hfs := hfx.1
    refine r01_Image_ok u x _ ⟨rfl, rfl, r01_Fits_ok s (image u x) (by rw [hap]; omega) _ ⟨rfl, rfl, iff_not (iff_intro (fun _ => ?_) (fun h => by rw [show (bD (Tm.fits s (image u x))).V.bool = Tm.fits s (image u x) from rfl, hfit] at h; cases h))⟩⟩
    refine r01_Apply_ok s (image u x) (by omega) _ ⟨rfl, rfl, r01_Image_ok s x _ ⟨rfl, rfl, r01_Equal_ok _ _ _ ⟨rfl, rfl, iff_not (iff_intro (fun _ => hK trivial) (fun h => ?_))⟩⟩⟩
    have h : eqB (app s (image u x)) (image s x) = false := h
    rw [hap, eqB_self] at h; cases h
  refine C_l03_UnifyMostGeneral _ _ _ _ _ _ _ _ ?_
  unfold vc_l03_UnifyMostGeneral
  refine unify_Unify_ok a b (by omega) (by omega) h1 _ ⟨rfl, rfl, ?_⟩
  rw [enc_pair]
  refine r01_CheckAll_ok [a, b] (fun x hx => ?_) _ ⟨rfl, rfl, iff_bne (fun _ => al) (fun hc => ?_)⟩
  · rcases List.mem_cons.1 hx with rfl | hx
    · omega
    · rw [List.mem_singleton.1 hx]; omega
  have hc : Tm.checkAll [a, b] = 0 := hc
  refine iff_beq (fun _ => al) (fun h3 => ?_)
  have h3 : res.2.2 ≠ 3 := h3
  show jp_l03_UnifyMostGeneral_0 Q (encS s) (.l (encS res.1)) (.b res.2.1) (.i res.2.2) a.name a.var (Tm.encL a.args) b.name b.var (Tm.encL b.args)
  rw [jp_l03_UnifyMostGeneral_0_s]
  unfold je_l03_UnifyMostGeneral_0
  obtain ⟨ca, cb⟩ := checkAll_two.1 hc
  obtain ⟨fa, sa, _⟩ := Tm.check_zero.1 ca
  obtain ⟨fb, sb, _⟩ := Tm.check_zero.1 cb
  rcases h1 with ⟨h4, _⟩ | ⟨_, hr⟩
  · rw [rules_one] at h4; exact absurd hc h4
  cases hr with
  | no hsl =>
    refine iff_bne (fun h => absurd rfl h) (fun _ => iff_intro (fun h => by cases h) (fun _ => j2 [] false hc (fun y hy => by cases hy) fun τ e => (no_unifier hsl e).elim))
  | large => exact absurd rfl h3
  | yes σ θ r out hsl htri hfit hout =>
    have hU : Uni2 a b σ θ r := ⟨hsl, htri⟩
    have him := hout.image htri
    have herr := out_err hU fa fb hfit hout
    have hos := out_small hfit hout
    have J2 := j2 out true hc hos fun τ e => ⟨rfl, fun x => by rw [him]; exact hU.thrX e x⟩
    have j1 : jp_l03_UnifyMostGeneral_1 Q (encS s) (.l (encS out)) (.b true) a.name a.var (Tm.encL a.args) b.name b.var (Tm.encL b.args) := by
      rw [jp_l03_UnifyMostGeneral_1_s]
      unfold je_l03_UnifyMostGeneral_1
      rw [list_z, encS_length]
      intro hb2
      refine range_l03_UnifyMostGeneral_0 Q _ _ _ _ _ _ _ _ _ _ _ hb2 (fun _ => True) (fun k hk _ K hK => ?_) (fun _ => J2) 0 (Nat.zero_le _) trivial
      rw [list_z]
      simp only [encS_getD _ k hk, Tm.enc_eq, List.drop_zero, List.headD_cons, List.tail_cons]
      rw [encS_length]
      have hmem := List.getElem_mem hk
      obtain ⟨g1, g2⟩ := (hout.mem _).1 hmem
      have hap : app out (out[k]).2 = (out[k]).2 := by rw [app_sub, him, g2]; exact hU.idem _
      have hft : fitsT (out[k]).2 := by rw [g2]; exact hfit _ g1
      have hfo : Tm.fits out (out[k]).2 = true := fits_iff.2 (hap.symm ▸ hft)
      have hsz := hft.1
      refine ⟨by omega, by omega, bD (Tm.fits out (out[k]).2), (r01_Fits_ok out _ (by rw [hap]; omega)).here rfl, iff_not (iff_intro (fun _ => ?_) (fun h => by rw [show (bD (Tm.fits out (out[k]).2)).V.bool = Tm.fits out (out[k]).2 from rfl, hfo] at h; cases h))⟩
      refine ⟨tD (app out (out[k]).2), (r01_Apply_ok out _ (by omega)).here rfl, r01_Equal_ok _ _ _ ⟨rfl, rfl, iff_not (iff_intro (fun _ => hK trivial) (fun h => ?_))⟩⟩
      have h : eqB (app out (out[k]).2) (out[k]).2 = false := h
      rw [hap, eqB_self] at h; cases h
    have hza := app_size (l := out) (M := 4000) (by omega) hos a
    have hzb := app_size (l := out) (M := 4000) (by omega) hos b
    refine iff_bne (fun h => absurd rfl h) (fun _ => iff_intro (fun _ => ?_) (fun h => by cases h))
    refine ⟨iD (suErr out), (r01_CheckSubst_ok out (fun x hx => by have := hos x hx; omega)).here rfl, iff_bne (fun h => absurd herr h) (fun _ => ?_)⟩
    refine ⟨bD (Tm.fits out a), (r01_Fits_ok out a (by omega)).here rfl, iff_intro (fun _ => ?_) (fun _ => j1)⟩
    refine ⟨bD (Tm.fits out b), (r01_Fits_ok out b (by omega)).here rfl, iff_intro (fun _ => ?_) (fun _ => j1)⟩
    refine ⟨tD (app out a), (r01_Apply_ok out a (by omega)).here rfl, r01_Apply_ok out b (by omega) _ ⟨rfl, rfl, r01_Equal_ok _ _ _ ⟨rfl, rfl, iff_not (iff_intro (fun _ => j1) (fun h => ?_))⟩⟩⟩
    have h : eqB (app out a) (app out b) = false := h
    rw [app_sub, app_sub, him, hU.eq, eqB_self] at h; cases h
theorem checkAll_flip {a b : Tm} : Tm.checkAll [a, b] = 0 ↔ Tm.checkAll [b, a] = 0 := by
  rw [checkAll_two, checkAll_two]; exact And.comm
theorem l03_UnifySymmetric_ok (a b : Tm) (ha : a.size ≤ 1048576) (hb : b.size ≤ 1048576) : Fn f_l03_UnifySymmetric [tD a, tD b] (bD true) := fun Q hQ => by
  have hlim : lim = 549755813888 := rfl
  have hsm : small = 1152921504606846976 := rfl
  have al := the_end hQ
  obtain ⟨res1, h1⟩ := UnAll.exists_ [(a, b)]
  obtain ⟨res2, h2⟩ := UnAll.exists_ [(b, a)]
  refine C_l03_UnifySymmetric _ _ _ _ _ _ _ ?_
  unfold vc_l03_UnifySymmetric
  refine unify_Unify_ok a b (by omega) (by omega) h1 _ ⟨rfl, rfl, ?_⟩
  refine unify_Unify_ok b a (by omega) (by omega) h2 _ ⟨rfl, rfl, ?_⟩
  rw [enc_pair]
  refine r01_CheckAll_ok [a, b] (fun x hx => ?_) _ ⟨rfl, rfl, iff_bne (fun hc => ?_) (fun hc => ?_)⟩
  · rcases List.mem_cons.1 hx with rfl | hx
    · omega
    · rw [List.mem_singleton.1 hx]; omega
  · have hc : Tm.checkAll [a, b] ≠ 0 := hc
    have hc2 : Tm.checkAll [b, a] ≠ 0 := fun h => hc (checkAll_flip.2 h)
    rcases h1 with ⟨g1, rfl⟩ | ⟨g1, _⟩
    · rcases h2 with ⟨g2, rfl⟩ | ⟨g2, _⟩
      · exact iff_bne (fun _ => iff_bne (fun _ => al) (fun h => absurd h g2)) (fun h => absurd h g1)
      · rw [rules_one] at g2; exact absurd g2 hc2
    · rw [rules_one] at g1; exact absurd g1 hc
  have hc : Tm.checkAll [a, b] = 0 := hc
  have hc2 : Tm.checkAll [b, a] = 0 := checkAll_flip.1 hc
  obtain ⟨ca, cb⟩ := checkAll_two.1 hc
  obtain ⟨fa, sa, _⟩ := Tm.check_zero.1 ca
  obtain ⟨fb, sb, _⟩ := Tm.check_zero.1 cb
  rcases h1 with ⟨h4, _⟩ | ⟨_, r1⟩
  · rw [rules_one] at h4; exact absurd hc h4
  rcases h2 with ⟨h4, _⟩ | ⟨_, r2⟩
  · rw [rules_one] at h4; exact absurd hc2 h4
  have go : ∀ (o1 o2 : Su) (ok : Bool) (e : Int), jp_l03_UnifySymmetric_0 Q (.l (encS o1)) (.b ok) (.i e) (.l (encS o2)) a.name a.var (Tm.encL a.args) →
      iff (e != e) (True ∧ Q (.v .bool (V.b false)) []) (iff (!(ok == ok)) (True ∧ Q (.v .bool (V.b false)) []) (jp_l03_UnifySymmetric_0 Q (.l (encS o1)) (.b ok) (.i e) (.l (encS o2)) a.name a.var (Tm.encL a.args))) := fun o1 o2 ok e h =>
    iff_bne (fun h => absurd rfl h) (fun _ => iff_not (iff_beq (fun _ => h) (fun h => absurd rfl h)))
  have jn : ∀ (o1 o2 : Su), jp_l03_UnifySymmetric_0 Q (.l (encS o1)) (.b false) (.i 0) (.l (encS o2)) a.name a.var (Tm.encL a.args) := fun o1 o2 => by
    rw [jp_l03_UnifySymmetric_0_s]
    unfold je_l03_UnifySymmetric_0
    exact iff_bne (fun h => absurd rfl h) (fun _ => iff_not (iff_intro (fun h => by cases h) (fun _ => al)))
  have jl : ∀ (o1 o2 : Su), jp_l03_UnifySymmetric_0 Q (.l (encS o1)) (.b false) (.i 3) (.l (encS o2)) a.name a.var (Tm.encL a.args) := fun o1 o2 => by
    rw [jp_l03_UnifySymmetric_0_s]
    unfold je_l03_UnifySymmetric_0
    exact iff_bne (fun _ => iff_beq (fun _ => al) (fun h => absurd rfl h)) (fun h => by cases h)
  cases r1 with
  | no s1 =>
    cases r2 with
    | no s2 => exact go [] [] false 0 (jn [] [])
    | large σ' θ' r' s2 t2 f2 => exact (no_unifier s1 (Uni2.eq (⟨s2, t2⟩ : Uni2 b a σ' θ' r')).symm).elim
    | yes σ' θ' r' o2 s2 t2 f2 u2 => exact (no_unifier s1 (Uni2.eq (⟨s2, t2⟩ : Uni2 b a σ' θ' r')).symm).elim
  | large σ θ r s1 t1 f1 =>
    have hU : Uni2 a b σ θ r := ⟨s1, t1⟩
    cases r2 with
    | no s2 => exact (no_unifier s2 hU.eq.symm).elim
    | large σ' θ' r' s2 t2 f2 => exact go [] [] false 3 (jl [] [])
    | yes σ' θ' r' o2 s2 t2 f2 u2 =>
      obtain ⟨x, hx, hnf⟩ := f1
      exact absurd (hU.fits (⟨s2, t2⟩ : Uni2 b a σ' θ' r') fa fb f2 x hx) hnf
  | yes σ θ r o1 s1 t1 f1 u1 =>
    have hU : Uni2 a b σ θ r := ⟨s1, t1⟩
    cases r2 with
    | no s2 => exact (no_unifier s2 hU.eq.symm).elim
    | large σ' θ' r' s2 t2 f2 =>
      obtain ⟨x, hx, hnf⟩ := f2
      exact absurd ((⟨s2, t2⟩ : Uni2 b a σ' θ' r').fits hU fb fa f1 x hx) hnf
    | yes σ' θ' r' o2 s2 t2 f2 u2 =>
      have hU' : Uni2 b a σ' θ' r' := ⟨s2, t2⟩
      refine go o1 o2 true 0 ?_
      have i1 := u1.image t1
      have i2 := u2.image t2
      have z1 := app_size (l := o1) (M := 4000) (by omega) (out_small f1 u1) a
      have z2 := app_size (l := o2) (M := 4000) (by omega) (out_small f2 u2) a
      rw [jp_l03_UnifySymmetric_0_s]
      unfold je_l03_UnifySymmetric_0
      refine iff_bne (fun h => absurd rfl h) (fun _ => iff_not (iff_intro (fun _ => ?_) (fun h => by cases h)))
      refine ⟨bD (Tm.fits o1 a), (r01_Fits_ok o1 a (by omega)).here rfl, iff_not (iff_intro (fun g1 => ?_) (fun _ => al))⟩
      refine ⟨bD (Tm.fits o2 a), (r01_Fits_ok o2 a (by omega)).here rfl, iff_not (iff_intro (fun g2 => ?_) (fun _ => al))⟩
      have y1 := (fits_iff.1 g1).1
      have y2 := (fits_iff.1 g2).1
      refine ⟨tD (app o1 a), (r01_Apply_ok o1 a (by omega)).here rfl, r01_Apply_ok o2 a (by omega) _ ⟨rfl, rfl, r03_Variant_ok _ _ (by omega) (by omega) _ ⟨rfl, rfl, ?_⟩⟩⟩
      have e1 : app o1 a = sub θ a := by rw [app_sub, i1]
      have e2 : app o2 a = sub θ' a := by rw [app_sub, i2]
      have p1 : sub θ' (sub θ a) = sub θ' a := hU.thr hU'.eq.symm a
      have p2 : sub θ (sub θ' a) = sub θ a := hU'.thr hU.eq.symm a
      have hfo : (sub θ a).formed = true := sub_formed a fa fun x hx => hU.formed fa fb x (formed_vs a fa x hx)
      have hcn : canon (sub θ' a) = canon (sub θ a) := canon_var (f := θ') (g := θ) p1 p2 hfo fun x hx => hU'.formed fb fa x (formed_vs _ hfo x hx)
      rw [e1, e2, hcn]
      exact iff_intro (fun _ => al) (fun h => by rw [show (bD (eqB (canon (sub θ a)) (canon (sub θ a)))).V.bool = eqB (canon (sub θ a)) (canon (sub θ a)) from rfl, eqB_self] at h; cases h)
end Go.Proofs.Ytgohjdaepcmonaa
