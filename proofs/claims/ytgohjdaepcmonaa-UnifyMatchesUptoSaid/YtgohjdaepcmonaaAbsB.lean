import Derived.Test.YtgohjdaepcmonaaAbsA
set_option linter.unusedVariables false
namespace Go.Abs
def shaped (ag : Bool) (v : Value) : Prop := match ag with | true => ∃ us, v = .agg us | false => v.oneCell' = true
def entCells (x : MapEntry) : List Value := x.key.cells.toList ++ x.val.cells.toList
structure MapOk (m : MT) (lf : TypeId → List K) (ents : Array MapEntry) (clock : Nat) (us : Nat → Nat → Value) : Prop where
  clk : clock = ents.size
  born : ∀ (i : Nat) (x : MapEntry), ents[i]? = some x → x.born = i
  key : ∀ (i : Nat) (x : MapEntry), ents[i]? = some x → x.key.cells.size = (lf m.k).length ∧ shaped m.ka x.key
  val : ∀ (i : Nat) (x : MapEntry), ents[i]? = some x → x.val.cells.size = (lf m.e).length ∧ shaped m.ea x.val
  cells : ∀ (i : Nat) (x : MapEntry), ents[i]? = some x → ∀ j, j < (lf m.k ++ lf m.e).length → (entCells x).getD j undef = us i j
inductive RepK (lf : TypeId → List K) (w : World) (F : Nat → Prop) : K → V → Value → Prop
  | int (k : IntKind) (x : V) : RepK lf w F (.int k) x (.int k x.int)
  | bool (x : V) : RepK lf w F .bool x (.bool x.bool)
  | str (x : V) : x.str.size ≤ big → RepK lf w F .str x (.string x.str)
  | sl0 (e : TypeId) (x : V) (A : Option Addr) (c : Nat) : x.list = [] → RepK lf w F (.sl e) x (.slice A 0 c)
  | sl (e : TypeId) (x : V) (b off c : Nat) (us : Nat → Nat → Value) : F b → (x.list.length ≤ c ∧ c ≤ big) → (∀ i, i < x.list.length → (x.list.getD i []).length = (lf e).length) →
      (∀ i j, i < x.list.length → j < (lf e).length → w.cell? ⟨b, off + i * (lf e).length + j, none⟩ = some (us i j)) →
      (∀ i j, i < x.list.length → j < (lf e).length → RepK lf w F ((lf e).getD j .oth) ((x.list.getD i []).getD j V.none) (us i j)) →
      RepK lf w F (.sl e) x (.slice (some ⟨b, off, none⟩) x.list.length c)
  | mp0 (m : MT) (x : V) : x.list = [] → RepK lf w F (.mp m) x (.map none)
  | mp (m : MT) (x : V) (b clock : Nat) (ents : Array MapEntry) (us : Nat → Nat → Value) : F b → w.heap[b]? = some (.map ents clock) → MapOk m lf ents clock us → ents.size = x.list.length →
      (∀ i, i < x.list.length → (x.list.getD i []).length = (lf m.k ++ lf m.e).length) →
      (∀ i j, i < x.list.length → j < (lf m.k ++ lf m.e).length → RepK lf w F ((lf m.k ++ lf m.e).getD j .oth) ((x.list.getD i []).getD j V.none) (us i j)) →
      RepK lf w F (.mp m) x (.map (some b))
theorem RepK.mono {lf : TypeId → List K} {w w' : World} {F F' : Nat → Prop} (hF : ∀ b, F b → F' b) (hw : ∀ b, F b → w'.heap[b]? = w.heap[b]?)
    {k : K} {x : V} {u : Value} (h : RepK lf w F k x u) : RepK lf w' F' k x u := by
  induction h with
  | int k x => exact .int k x
  | bool x => exact .bool x
  | str x h => exact .str x h
  | sl0 e x A c h => exact .sl0 e x A c h
  | sl e x b off c us hb hc hlen hcell _ ih =>
    exact .sl e x b off c us (hF b hb) hc hlen (fun i j hi hj => by rw [← hcell i j hi hj]; exact World.cell?_of_block (hw b hb)) ih
  | mp0 m x h => exact .mp0 m x h
  | mp m x b clock ents us hb hh hm hs hlen _ ih => exact .mp m x b clock ents us (hF b hb) ((hw b hb).trans hh) hm hs hlen ih
theorem RepK.one {lf : TypeId → List K} {w : World} {F : Nat → Prop} {k : K} {x : V} {u : Value} (h : RepK lf w F k x u) : u.oneCell' = true := by
  cases h <;> rfl
structure Sig where
  w : World
  F : Nat → Prop
  H : List Obj
  mu : List (Option (Nat × Nat))
  L : List Obj
  la : List (Option (Nat × Nat))
def Sig.blk (S : Sig) : Ref → Option (Nat × Nat)
  | .loc i => S.la.getD i none
  | .own i => S.mu.getD i none
def Sig.obj (S : Sig) : Ref → Obj
  | .loc i => S.L.getD i .dead
  | .own i => S.H.getD i .dead
def Sig.inb (S : Sig) : Ref → Prop
  | .loc _ => True
  | .own i => i < S.H.length
def rowVal (n : Nat) (bc : Option (Nat × Nat)) : Value :=
  match bc with
  | none => .slice none 0 0
  | some (b, c) => .slice (some ⟨b, 0, none⟩) n c
inductive RepD (lf : TypeId → List K) (S : Sig) : D → Value → Prop
  | v (k : K) (x : V) (u : Value) : RepK lf S.w S.F k x u → RepD lf S (.v k x) u
  | nil : RepD lf S .nil (.slice none 0 0)
  | agg (cs : List D) (us : List Value) : cs.length = us.length → (∀ j, RepD lf S (cs.getD j .undef) (us.getD j undef)) → RepD lf S (.agg cs) (.agg us.toArray)
  | tup (cs : List D) (us : List Value) : cs.length = us.length → (∀ j, RepD lf S (cs.getD j .undef) (us.getD j undef)) → RepD lf S (.tup cs) (.tuple us.toArray)
  | ptr (r : Ref) (off : Nat) (u : Value) : (S.inb r ∧ u.oneCell' = true) → (∀ bc, (S.obj r).isPt = true → S.blk r = some bc → u = .pointer (some ⟨bc.1, off, none⟩)) → RepD lf S (.ptr r off) u
  | elt (e : TypeId) (cs : List V) (off b o : Nat) (us : Nat → Value) : S.F b → (∀ j, j < (lf e).length → S.w.cell? ⟨b, o + j, none⟩ = some (us j)) →
      (∀ j, j < (lf e).length → RepK lf S.w S.F ((lf e).getD j .oth) (cs.getD j V.none) (us j)) → RepD lf S (.elt e cs off) (.pointer (some ⟨b, o + off, none⟩))
  | relt (r : Ref) (e : TypeId) (n i off : Nat) (u : Value) : (S.inb r ∧ u.oneCell' = true) → (∀ e' xs, S.obj r = .row e' xs → n ≤ xs.length ∧ (n = xs.length → ∀ bc, S.blk r = some bc → u = .pointer (some ⟨bc.1, i * (lf e).length + off, none⟩))) → RepD lf S (.relt r e n i off) u
  | osl (r : Ref) (n : Nat) (u : Value) : (S.inb r ∧ u.oneCell' = true) → (∀ e xs, S.obj r = .row e xs → n ≤ xs.length ∧ (n = xs.length → u = rowVal n (S.blk r))) → RepD lf S (.osl r n) u
  | mp (r : Ref) (u : Value) : (S.inb r ∧ u.oneCell' = true) → (∀ m xs, S.obj r = .map m xs → ∀ bc, S.blk r = some bc → u = .map (some bc.1)) → RepD lf S (.mp r) u
  | fn (f : FuncId) (caps : List D) (us : List Value) : caps.length = us.length → (∀ j, RepD lf S (caps.getD j .undef) (us.getD j undef)) → RepD lf S (.fn f caps) (.func (.func f) #[] us.toArray)
  | skip : RepD lf S .skip undef
  | undef (u : Value) : RepD lf S .undef u
structure Keep (S S' : Sig) (r : Ref) : Prop where
  cells : ∀ bc, (S'.obj r).isPt = true → S'.blk r = some bc → (S.obj r).isPt = true ∧ S.blk r = some bc
  row : ∀ e xs, S'.obj r = .row e xs → ∃ xs0, S.obj r = .row e xs0 ∧ xs0.length ≤ xs.length ∧ (xs0.length = xs.length → S'.blk r = S.blk r)
  map : ∀ m xs, S'.obj r = .map m xs → ∃ xs0, S.obj r = .map m xs0 ∧ S'.blk r = S.blk r
theorem Keep.refl {S S' : Sig} {r : Ref} (ho : S'.obj r = S.obj r) (hb : S'.blk r = S.blk r) : Keep S S' r :=
  ⟨fun bc h1 h2 => ⟨ho ▸ h1, hb ▸ h2⟩, fun e xs h => ⟨xs, ho ▸ h, Nat.le_refl _, fun _ => hb⟩, fun m xs h => ⟨xs, ho ▸ h, hb⟩⟩
theorem Keep.trans {S S' S'' : Sig} {r : Ref} (h : Keep S S' r) (k : Keep S' S'' r) : Keep S S'' r :=
  ⟨fun bc h1 h2 => by
    obtain ⟨a, b⟩ := k.cells bc h1 h2
    exact h.cells bc a b,
   fun e xs h1 => by
    obtain ⟨xs1, a, b, c⟩ := k.row e xs h1
    obtain ⟨xs0, a', b', c'⟩ := h.row e xs1 a
    exact ⟨xs0, a', by omega, fun he => (c (by omega)).trans (c' (by omega))⟩,
   fun m xs h1 => by
    obtain ⟨xs1, a, b⟩ := k.map m xs h1
    obtain ⟨xs0, a', b'⟩ := h.map m xs1 a
    exact ⟨xs0, a', b.trans b'⟩⟩
theorem anyL_getD {p : Ref → Bool} : ∀ {l : List D} (j : Nat), D.anyL p l = false → D.anyR p (l.getD j .undef) = false
  | [], j, _ => by simp [D.anyR]
  | d :: r, j, h => by
    simp only [D.anyL] at h
    cases hd : D.anyR p d with
    | true => rw [hd] at h; cases h
    | false =>
      rw [hd] at h
      cases j with
      | zero => exact hd
      | succ j => exact anyL_getD (l := r) j h
theorem Sig.inb_mono {S S' : Sig} (h : S.H.length ≤ S'.H.length) {r : Ref} (hr : S.inb r) : S'.inb r := by
  cases r with
  | loc i => trivial
  | own i => exact Nat.lt_of_lt_of_le hr h
theorem RepD.mono {lf : TypeId → List K} {S S' : Sig} (hlen : S.H.length ≤ S'.H.length) (hF : ∀ b, S.F b → S'.F b) (hw : ∀ b, S.F b → S'.w.heap[b]? = S.w.heap[b]?) {p : Ref → Bool}
    (hp : ∀ r, p r = false → S.inb r → Keep S S' r) {d : D} {u : Value} (hd : D.anyR p d = false) (h : RepD lf S d u) : RepD lf S' d u := by
  induction h with
  | v k x u h => exact .v k x u (h.mono hF hw)
  | nil => exact .nil
  | agg cs us hl _ ih => exact .agg cs us hl fun j => ih j (anyL_getD j (by simpa [D.anyR] using hd))
  | tup cs us hl _ ih => exact .tup cs us hl fun j => ih j (anyL_getD j (by simpa [D.anyR] using hd))
  | ptr r off u h1 h =>
    have k := hp r (by simpa [D.anyR] using hd) h1.1
    exact .ptr r off u ⟨Sig.inb_mono hlen h1.1, h1.2⟩ fun bc h1 h2 => by
      obtain ⟨a, b⟩ := k.cells bc h1 h2
      exact h bc a b
  | elt e cs off b o us hb hc hr =>
    exact .elt e cs off b o us (hF b hb) (fun j hj => by rw [← hc j hj]; exact World.cell?_of_block (hw b hb)) fun j hj => (hr j hj).mono hF hw
  | relt r e n i off u h1 h =>
    have k := hp r (by simpa [D.anyR] using hd) h1.1
    exact .relt r e n i off u ⟨Sig.inb_mono hlen h1.1, h1.2⟩ fun e' xs h1 => by
      obtain ⟨xs0, a, b, c⟩ := k.row e' xs h1
      obtain ⟨h2, h3⟩ := h e' xs0 a
      exact ⟨by omega, fun he bc hbc => h3 (by omega) bc (by rw [← c (by omega)]; exact hbc)⟩
  | osl r n u h1 h =>
    have k := hp r (by simpa [D.anyR] using hd) h1.1
    exact .osl r n u ⟨Sig.inb_mono hlen h1.1, h1.2⟩ fun e xs h1 => by
      obtain ⟨xs0, a, b, c⟩ := k.row e xs h1
      obtain ⟨h2, h3⟩ := h e xs0 a
      exact ⟨by omega, fun he => by rw [c (by omega)]; exact h3 (by omega)⟩
  | mp r u h1 h =>
    have k := hp r (by simpa [D.anyR] using hd) h1.1
    exact .mp r u ⟨Sig.inb_mono hlen h1.1, h1.2⟩ fun m xs h1 bc h2 => by
      obtain ⟨xs0, a, b⟩ := k.map m xs h1
      exact h m xs0 a bc (by rw [← b]; exact h2)
  | fn f caps us hl _ ih => exact .fn f caps us hl fun j => ih j (anyL_getD j (by simpa [D.anyR] using hd))
  | skip => exact .skip
  | undef u => exact .undef u
theorem RepD.one {lf : TypeId → List K} {S : Sig} {d : D} {u : Value} (hd : d.isCell = true) (h : RepD lf S d u) : u.oneCell' = true := by
  cases h with
  | v k x u h => exact h.one
  | nil => rfl
  | agg => cases hd
  | tup => cases hd
  | ptr _ _ _ h => exact h.2
  | elt => rfl
  | relt _ _ _ _ _ _ h => exact h.2
  | osl _ _ _ h => exact h.2
  | mp _ _ h => exact h.2
  | fn => rfl
  | skip => cases hd
  | undef => cases hd
theorem cells_of_one {u : Value} (h : u.oneCell' = true) : u.cells = #[u] := by
  cases u <;> first | rfl | cases h
theorem RepD.cells {lf : TypeId → List K} {S : Sig} {d : D} {u : Value} (hd : d.cells.all D.isCell = true) (h : RepD lf S d u) :
    u.cells.size = d.cells.length ∧ ∀ j, j < d.cells.length → RepD lf S (d.cells.getD j .undef) (u.cells.getD j Go.undef) ∧ (u.cells.getD j Go.undef).oneCell' = true := by
  by_cases hc : ∃ cs, d = .agg cs
  · obtain ⟨cs, rfl⟩ := hc
    cases h with
    | agg _ us hl hr =>
      refine ⟨by simp [Value.cells, D.cells, hl], fun j hj => ?_⟩
      have h1 := hr j
      have e : us.toArray.getD j Go.undef = us.getD j Go.undef := by
        rw [Array.getD_eq_getD_getElem?, List.getD_eq_getElem?_getD, List.getElem?_toArray]
      show RepD lf S (cs.getD j .undef) (us.toArray.getD j Go.undef) ∧ (us.toArray.getD j Go.undef).oneCell' = true
      rw [e]
      have hj' : j < cs.length := hj
      have h2 : (cs.getD j .undef).isCell = true := by
        rw [List.getD_eq_getElem?_getD, List.getElem?_eq_getElem hj']
        exact List.all_eq_true.1 hd _ (List.getElem_mem hj')
      exact ⟨h1, h1.one h2⟩
  · have hcs : d.cells = [d] := by
      cases d <;> first | rfl | exact absurd ⟨_, rfl⟩ hc
    rw [hcs] at hd ⊢
    have h1 : d.isCell = true := by simpa using hd
    rw [cells_of_one (h.one h1)]
    refine ⟨rfl, fun j hj => ?_⟩
    have hj' : j = 0 := by simp at hj; omega
    subst hj'
    exact ⟨h, h.one h1⟩
def ObjRep (lf : TypeId → List K) (S : Sig) (o : Obj) (bc : Option (Nat × Nat)) : Prop :=
  match o with
  | .cells cs => ∃ b c e arr, bc = some (b, c) ∧ S.w.heap[b]? = some (.cells arr e (0, 0)) ∧ arr.size = cs.length ∧
      ∀ j, j < cs.length → RepD lf S (cs.getD j .undef) (arr.getD j undef) ∧ (arr.getD j undef).oneCell' = true
  | .row e xs => (bc = none ∧ xs = []) ∨ ∃ b c arr, bc = some (b, c) ∧ S.w.heap[b]? = some (.cells arr e (0, 0)) ∧ arr.size = c * (lf e).length ∧ xs.length ≤ c ∧ c ≤ maxLen ∧ (∀ i, i < xs.length → (xs.getD i []).length = (lf e).length) ∧
      ∀ i j, i < xs.length → j < (lf e).length → RepK lf S.w S.F ((lf e).getD j .oth) ((xs.getD i []).getD j V.none) (arr.getD (i * (lf e).length + j) undef)
  | .map m xs => ∃ b c clock ents us, bc = some (b, c) ∧ S.w.heap[b]? = some (.map ents clock) ∧ MapOk m lf ents clock us ∧ ents.size = xs.length ∧ (∀ i, i < xs.length → (xs.getD i []).length = (lf m.k ++ lf m.e).length) ∧
      ∀ i j, i < xs.length → j < (lf m.k ++ lf m.e).length → RepK lf S.w S.F ((lf m.k ++ lf m.e).getD j .oth) ((xs.getD i []).getD j V.none) (us i j)
  | .iter m x n seen => ∃ b c mb, bc = some (b, c) ∧ S.w.heap[b]? = some (.mapIter mb n seen.reverse.toArray n) ∧ RepD lf S x (.map mb) ∧ seen.Nodup ∧ (∀ j ∈ seen, j < n)
  | .dead => bc = none
def Obj.free : Obj → Prop
  | .cells cs => D.localL cs = false
  | .iter _ _ _ _ => False
  | _ => True
structure Wf (lf : TypeId → List K) (S : Sig) : Prop where
  frozen : ∀ b, S.F b → b < S.w.heap.size ∧ ∀ r bc, S.blk r = some bc → bc.1 ≠ b
  inj : ∀ r r' bc bc', S.blk r = some bc → S.blk r' = some bc' → bc.1 = bc'.1 → r = r'
  lt : ∀ r bc, S.blk r = some bc → bc.1 < S.w.heap.size
  obj : ∀ r, ObjRep lf S (S.obj r) (S.blk r)
  own : ∀ i, (S.H.getD i .dead).free
  mulen : S.mu.length = S.H.length
  lalen : S.la.length = S.L.length
structure Ext (S S' : Sig) : Prop where
  size : S.w.heap.size ≤ S'.w.heap.size
  os : S'.w.os = S.w.os
  tape : S'.w.tape = S.w.tape
  output : S'.w.output = S.w.output
  block : ∀ b, b < S.w.heap.size → (∀ i bc, S.blk (.own i) = some bc → bc.1 ≠ b) → S'.w.heap[b]? = S.w.heap[b]? ∧ ∀ i bc, S'.blk (.own i) = some bc → bc.1 ≠ b
  F : ∀ b, S.F b → S'.F b
  Fnew : ∀ b, b < S.w.heap.size → S'.F b → S.F b ∨ ∃ i bc, S.blk (.own i) = some bc ∧ bc.1 = b
  len : S.H.length ≤ S'.H.length
  keep : ∀ i, i < S.H.length → Keep S S' (.own i)
  fresh : ∀ i bc', S'.blk (.own i) = some bc' → (∃ bc, S.blk (.own i) = some bc ∧ bc'.1 = bc.1) ∨ S.w.heap.size ≤ bc'.1
theorem Ext.refl (S : Sig) : Ext S S :=
  ⟨Nat.le_refl _, rfl, rfl, rfl, fun b _ h => ⟨rfl, h⟩, fun _ h => h, fun _ _ h => .inl h, Nat.le_refl _, fun _ _ => .refl rfl rfl, fun _ bc h => .inl ⟨bc, h, rfl⟩⟩
theorem Ext.trans {S S' S'' : Sig} (hm : S'.mu.length = S'.H.length) (h : Ext S S') (k : Ext S' S'') : Ext S S'' := by
  refine ⟨Nat.le_trans h.size k.size, k.os.trans h.os, k.tape.trans h.tape, k.output.trans h.output, fun b hb hn => ?_, fun b hb => k.F b (h.F b hb), fun b hb hF => ?_, Nat.le_trans h.len k.len, fun i hi => ?_, fun i bc'' h2 => ?_⟩
  · obtain ⟨h1, h2⟩ := h.block b hb hn
    obtain ⟨k1, k2⟩ := k.block b (Nat.lt_of_lt_of_le hb h.size) h2
    exact ⟨k1.trans h1, k2⟩
  · rcases k.Fnew b (Nat.lt_of_lt_of_le hb h.size) hF with hF' | ⟨i, bc, h1, h2⟩
    · exact h.Fnew b hb hF'
    · by_cases hx : ∃ i bc, S.blk (.own i) = some bc ∧ bc.1 = b
      · exact .inr hx
      · exact absurd h2 ((h.block b hb (fun i bc h3 h4 => hx ⟨i, bc, h3, h4⟩)).2 i bc h1)
  · exact (h.keep i hi).trans (k.keep i (Nat.lt_of_lt_of_le hi h.len))
  · rcases k.fresh i bc'' h2 with ⟨bc', h3, e1⟩ | h3
    · rcases h.fresh i bc' h3 with ⟨bc, h4, e2⟩ | h4
      · exact .inl ⟨bc, h4, e1.trans e2⟩
      · right; rw [e1]; exact h4
    · exact .inr (Nat.le_trans h.size h3)
structure Rel (lf : TypeId → List K) (st : St) (H : Heap) (a : Act) (S : Sig) : Prop where
  H : S.H = H
  L : S.L = st.loc
  size : a.tmps.size = st.tmps.length
  defers : a.defers = []
  rep : ∀ j, RepD lf S (st.tmps.getD j .undef) (a.tmps.getD j undef)
  wf : Wf lf S
structure Inv (S0 S : Sig) : Prop where
  ext : Ext S0 S
  loc : ∀ i bc, S.blk (.loc i) = some bc → S0.w.heap.size ≤ bc.1
def ACalls (P : Program) (lf : TypeId → List K) (f : FuncId) (args : List D) (H : Heap) (Q : D → Heap → Prop) : Prop :=
  ∀ (S : Sig) (vs : List Value), S.H = H → S.L = [] → S.la = [] → Wf lf S → args.length = vs.length → (∀ j, RepD lf S (args.getD j .undef) (vs.getD j undef)) → D.localL args = false →
    Calls P f vs.toArray S.w fun e w' => ∃ v r S', e = .returned v ∧ S'.w = w' ∧ S'.L = [] ∧ S'.la = [] ∧ Wf lf S' ∧ RepD lf S' r v ∧ D.local r = false ∧ Ext S S' ∧ Q r S'.H
theorem ACalls.mono {P : Program} {lf : TypeId → List K} {f : FuncId} {args : List D} {H : Heap} {Q Q' : D → Heap → Prop} (h : ACalls P lf f args H Q) (hq : ∀ r H', Q r H' → Q' r H') : ACalls P lf f args H Q' :=
  fun S vs h1 h2 h3 h4 h5 h6 h7 => (h S vs h1 h2 h3 h4 h5 h6 h7).mono fun _ _ ⟨v, r, S', a, b, c, d, e, f, g, i, j⟩ => ⟨v, r, S', a, b, c, d, e, f, g, i, hq _ _ j⟩
end Go.Abs
