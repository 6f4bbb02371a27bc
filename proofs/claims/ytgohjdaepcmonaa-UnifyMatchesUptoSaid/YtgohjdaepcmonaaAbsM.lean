import Derived.Test.YtgohjdaepcmonaaAbsE
set_option linter.unusedVariables false
set_option linter.unusedSimpArgs false
namespace Go.Abs
variable {P : Program} {T : Tab} {S0 : Sig} {o : Oper} {a : Act} {S : Sig} {st : St} {H : Heap}
theorem Ref.beq_iff {r r' : Ref} : Ref.beq r r' = true ↔ r = r' := by
  cases r <;> cases r' <;> simp [Ref.beq]
theorem memR_iff : ∀ {l : List Ref} {r : Ref}, memR r l = true ↔ r ∈ l
  | [], r => by simp [memR]
  | x :: l, r => by
    simp only [memR]
    cases h : Ref.beq r x with
    | true => simp [Ref.beq_iff.1 h]
    | false =>
      have hne : r ≠ x := fun he => by rw [he, Ref.beq_iff.2 rfl] at h; cases h
      simp [memR_iff (l := l), hne]
theorem memR_false {l : List Ref} {r : Ref} : memR r l = false ↔ r ∉ l := by
  rw [← memR_iff]; cases memR r l <;> simp
theorem idxR_spec : ∀ {l : List Ref} {r : Ref}, r ∈ l → idxR r l < l.length ∧ ∀ d, l.getD (idxR r l) d = r
  | [], r, h => by cases h
  | x :: l, r, h => by
    simp only [idxR]
    cases hb : Ref.beq r x with
    | true => exact ⟨by simp, fun d => by simp [Ref.beq_iff.1 hb]⟩
    | false =>
      have hne : r ≠ x := fun he => by rw [he, Ref.beq_iff.2 rfl] at hb; cases hb
      have h' : r ∈ l := by
        rcases List.mem_cons.1 h with h | h
        · exact absurd h hne
        · exact h
      obtain ⟨h1, h2⟩ := idxR_spec h'
      exact ⟨by simpa using h1, fun d => by simpa using h2 d⟩
theorem getD_mem : ∀ {l : List Ref} {i : Nat} (d : Ref), i < l.length → l.getD i d ∈ l := fun {l i} d h => by
  rw [List.getD_eq_getElem?_getD, List.getElem?_eq_getElem h]
  exact List.getElem_mem h
theorem idxR_getD : ∀ {l : List Ref} {i : Nat} (d : Ref), nodupR l = true → i < l.length → idxR (l.getD i d) l = i
  | [], i, d, _, h => by simp at h
  | x :: l, 0, d, _, _ => by simp [idxR, Ref.beq_iff.2]
  | x :: l, i + 1, d, hn, h => by
    obtain ⟨h1, h2⟩ : memR x l = false ∧ nodupR l = true := by simpa [nodupR] using hn
    have h' : i < l.length := by simpa using h
    have hm : l.getD i d ∈ l := getD_mem d h'
    have hne : Ref.beq (l.getD i d) x = false := by
      cases hb : Ref.beq (l.getD i d) x with
      | false => rfl
      | true => rw [Ref.beq_iff.1 hb] at hm; exact absurd hm (memR_false.1 h1)
    simp only [List.getD_cons_succ, idxR, hne]
    rw [idxR_getD d h2 h']
mutual
theorem anyR_refs {p : Ref → Bool} : ∀ (d : D), D.anyR p d = false ↔ ∀ r ∈ d.refs, p r = false
  | .v _ _ => by simp [D.anyR, D.refs]
  | .nil => by simp [D.anyR, D.refs]
  | .elt _ _ _ => by simp [D.anyR, D.refs]
  | .skip => by simp [D.anyR, D.refs]
  | .undef => by simp [D.anyR, D.refs]
  | .ptr _ _ => by simp [D.anyR, D.refs]
  | .relt _ _ _ _ _ => by simp [D.anyR, D.refs]
  | .osl _ _ => by simp [D.anyR, D.refs]
  | .mp _ => by simp [D.anyR, D.refs]
  | .agg cs => by simp only [D.anyR, D.refs]; exact anyL_refs cs
  | .tup cs => by simp only [D.anyR, D.refs]; exact anyL_refs cs
  | .fn _ cs => by simp only [D.anyR, D.refs]; exact anyL_refs cs
theorem anyL_refs {p : Ref → Bool} : ∀ (l : List D), D.anyL p l = false ↔ ∀ r ∈ D.refsL l, p r = false
  | [] => by simp [D.anyL, D.refsL]
  | d :: r => by
    simp only [D.anyL, D.refsL, List.mem_append]
    cases h : D.anyR p d with
    | true =>
      simp only [Bool.true_eq_false, false_iff]
      intro hf
      have := (anyR_refs d).2 fun r hr => hf r (.inl hr)
      rw [h] at this; cases this
    | false =>
      have h1 := (anyR_refs d).1 h
      refine Iff.trans (show _ ↔ D.anyL p r = false from Iff.rfl) ?_
      rw [anyL_refs r]
      exact ⟨fun h2 x hx => hx.elim (h1 x) (h2 x), fun h2 x hx => h2 x (.inr hx)⟩
end
mutual
theorem refs_mapR (f : Ref → Ref) : ∀ (d : D), (D.mapR f d).refs = d.refs.map f
  | .v _ _ => rfl | .nil => rfl | .elt _ _ _ => rfl | .skip => rfl | .undef => rfl
  | .ptr _ _ => rfl | .relt _ _ _ _ _ => rfl | .osl _ _ => rfl | .mp _ => rfl
  | .agg cs => refs_mapRL f cs
  | .tup cs => refs_mapRL f cs
  | .fn _ cs => refs_mapRL f cs
theorem refs_mapRL (f : Ref → Ref) : ∀ (l : List D), D.refsL (D.mapRL f l) = (D.refsL l).map f
  | [] => rfl
  | d :: r => by simp only [D.mapRL, D.refsL, List.map_append, refs_mapR f d, refs_mapRL f r]
end
mutual
theorem mapR_back (f g : Ref → Ref) : ∀ (d : D), (∀ r ∈ d.refs, g (f r) = r) → D.mapR g (D.mapR f d) = d
  | .v _ _, _ => rfl | .nil, _ => rfl | .elt _ _ _, _ => rfl | .skip, _ => rfl | .undef, _ => rfl
  | .ptr r _, h => by simp [D.mapR, h r (by simp [D.refs])]
  | .relt r _ _ _ _, h => by simp [D.mapR, h r (by simp [D.refs])]
  | .osl r _, h => by simp [D.mapR, h r (by simp [D.refs])]
  | .mp r, h => by simp [D.mapR, h r (by simp [D.refs])]
  | .agg cs, h => by simp only [D.mapR]; rw [mapRL_back f g cs h]
  | .tup cs, h => by simp only [D.mapR]; rw [mapRL_back f g cs h]
  | .fn _ cs, h => by simp only [D.mapR]; rw [mapRL_back f g cs h]
theorem mapRL_back (f g : Ref → Ref) : ∀ (l : List D), (∀ r ∈ D.refsL l, g (f r) = r) → D.mapRL g (D.mapRL f l) = l
  | [], _ => rfl
  | d :: r, h => by
    simp only [D.refsL, List.mem_append] at h
    simp only [D.mapRL]
    rw [mapR_back f g d fun x hx => h x (.inl hx), mapRL_back f g r fun x hx => h x (.inr hx)]
end
theorem mapRL_eq (f : Ref → Ref) : ∀ (l : List D), D.mapRL f l = l.map (D.mapR f)
  | [] => rfl
  | d :: r => by simp [D.mapRL, mapRL_eq f r]
theorem mapRL_length (f : Ref → Ref) (l : List D) : (D.mapRL f l).length = l.length := by simp [mapRL_eq]
theorem mapRL_getD (f : Ref → Ref) (l : List D) (j : Nat) : (D.mapRL f l).getD j .undef = D.mapR f (l.getD j .undef) := by
  rw [mapRL_eq]
  simp only [List.getD_eq_getElem?_getD, List.getElem?_map]
  cases l[j]? <;> rfl
theorem refs_getD : ∀ {l : List D} {j : Nat} {r : Ref}, r ∈ (l.getD j .undef).refs → r ∈ D.refsL l
  | [], j, r, h => by simp [D.refs] at h
  | d :: l, 0, r, h => by simp only [D.refsL, List.mem_append]; exact .inl h
  | d :: l, j + 1, r, h => by simp only [D.refsL, List.mem_append]; exact .inr (refs_getD (l := l) (j := j) h)
structure KeepR (S S' : Sig) (r r' : Ref) : Prop where
  inb : S'.inb r'
  cells : ∀ bc, (S'.obj r').isPt = true → S'.blk r' = some bc → (S.obj r).isPt = true ∧ S.blk r = some bc
  row : ∀ e xs, S'.obj r' = .row e xs → ∃ xs0, S.obj r = .row e xs0 ∧ xs0.length ≤ xs.length ∧ (xs0.length = xs.length → S'.blk r' = S.blk r)
  map : ∀ m xs, S'.obj r' = .map m xs → ∃ xs0, S.obj r = .map m xs0 ∧ S'.blk r' = S.blk r
theorem RepD.ren {lf : TypeId → List K} {S S' : Sig} (hF : ∀ b, S.F b → S'.F b) (hw : ∀ b, S.F b → S'.w.heap[b]? = S.w.heap[b]?) (f : Ref → Ref) {d : D} {u : Value} (h : RepD lf S d u)
    (hk : ∀ r ∈ d.refs, KeepR S S' r (f r)) : RepD lf S' (d.mapR f) u := by
  induction h with
  | v k x u h => exact .v k x u (h.mono hF hw)
  | nil => exact .nil
  | agg cs us hl _ ih => exact .agg _ us (by rw [mapRL_length]; exact hl) fun j => by rw [mapRL_getD]; exact ih j fun r hr => hk r (refs_getD hr)
  | tup cs us hl _ ih => exact .tup _ us (by rw [mapRL_length]; exact hl) fun j => by rw [mapRL_getD]; exact ih j fun r hr => hk r (refs_getD hr)
  | ptr r off u h1 h =>
    have k := hk r (by simp [D.refs])
    exact .ptr _ off u ⟨k.inb, h1.2⟩ fun bc h1 h2 => by
      obtain ⟨a, b⟩ := k.cells bc h1 h2
      exact h bc a b
  | elt e cs off b o us hb hc hr =>
    exact .elt e cs off b o us (hF b hb) (fun j hj => by rw [← hc j hj]; exact World.cell?_of_block (hw b hb)) fun j hj => (hr j hj).mono hF hw
  | relt r e n i off u h1 h =>
    have k := hk r (by simp [D.refs])
    exact .relt _ e n i off u ⟨k.inb, h1.2⟩ fun e' xs h1 => by
      obtain ⟨xs0, a, b, c⟩ := k.row e' xs h1
      obtain ⟨h2, h3⟩ := h e' xs0 a
      exact ⟨by omega, fun he bc hbc => h3 (by omega) bc (by rw [← c (by omega)]; exact hbc)⟩
  | osl r n u h1 h =>
    have k := hk r (by simp [D.refs])
    exact .osl _ n u ⟨k.inb, h1.2⟩ fun e xs h1 => by
      obtain ⟨xs0, a, b, c⟩ := k.row e xs h1
      obtain ⟨h2, h3⟩ := h e xs0 a
      exact ⟨by omega, fun he => by rw [c (by omega)]; exact h3 (by omega)⟩
  | mp r u h1 h =>
    have k := hk r (by simp [D.refs])
    exact .mp _ u ⟨k.inb, h1.2⟩ fun m xs h1 bc h2 => by
      obtain ⟨xs0, a, b⟩ := k.map m xs h1
      exact h m xs0 a bc (by rw [← b]; exact h2)
  | fn g caps us hl _ ih => exact .fn g _ us (by rw [mapRL_length]; exact hl) fun j => by rw [mapRL_getD]; exact ih j fun r hr => hk r (refs_getD hr)
  | skip => exact .skip
  | undef u => exact .undef u
def Sig.sub (S : Sig) (rs : List Ref) : Sig := { w := S.w, F := S.F, H := rs.map fun r => (S.obj r).mapR (renR rs), mu := rs.map S.blk, L := [], la := [] }
theorem sub_loc (S : Sig) (rs : List Ref) (i : Nat) : (S.sub rs).obj (.loc i) = .dead ∧ (S.sub rs).blk (.loc i) = none := by simp [Sig.obj, Sig.blk, Sig.sub]
theorem sub_own (S : Sig) (rs : List Ref) (i : Nat) (d : Ref) (h : i < rs.length) : (S.sub rs).obj (.own i) = (S.obj (rs.getD i d)).mapR (renR rs) ∧ (S.sub rs).blk (.own i) = S.blk (rs.getD i d) := by
  simp [Sig.obj, Sig.blk, Sig.sub, List.getD_eq_getElem?_getD, List.getElem?_map, List.getElem?_eq_getElem h]
theorem sub_out (S : Sig) (rs : List Ref) (i : Nat) (h : ¬ i < rs.length) : (S.sub rs).obj (.own i) = .dead ∧ (S.sub rs).blk (.own i) = none := by
  simp [Sig.obj, Sig.blk, Sig.sub, List.getD_eq_getElem?_getD, List.getElem?_map, List.getElem?_eq_none (by omega : rs.length ≤ i)]
theorem mapR_row {f : Ref → Ref} {o : Obj} {e : TypeId} {xs : List (List V)} (h : o.mapR f = .row e xs) : o = .row e xs := by
  cases o with
  | row _ _ => exact h
  | _ => cases h
theorem mapR_map {f : Ref → Ref} {o : Obj} {m : MT} {xs : List (List V)} (h : o.mapR f = .map m xs) : o = .map m xs := by
  cases o with
  | map _ _ => exact h
  | _ => cases h
theorem mapR_isPt (f : Ref → Ref) (o : Obj) : (o.mapR f).isPt = o.isPt := by cases o <;> rfl
theorem sub_keep (S : Sig) {rs : List Ref} {r : Ref} (h : r ∈ rs) : KeepR S (S.sub rs) r (renR rs r) := by
  obtain ⟨h1, h2⟩ := idxR_spec h
  obtain ⟨h3, h4⟩ := sub_own S rs (idxR r rs) (.own 0) h1
  rw [h2] at h3 h4
  refine ⟨?_, fun bc h5 h6 => ?_, fun e xs h5 => ?_, fun m xs h5 => ?_⟩
  · show idxR r rs < (S.sub rs).H.length
    simpa [Sig.sub] using h1
  · rw [show (S.sub rs).obj (renR rs r) = _ from h3, mapR_isPt] at h5
    exact ⟨h5, h4.symm.trans h6⟩
  · exact ⟨xs, mapR_row (h3.symm.trans h5), Nat.le_refl _, fun _ => h4⟩
  · exact ⟨xs, mapR_map (h3.symm.trans h5), h4⟩
theorem renL_noloc (rs : List Ref) (l : List D) : D.anyL Ref.isLoc (D.mapRL (renR rs) l) = false := by
  rw [anyL_refs, refs_mapRL]
  intro r hr
  obtain ⟨x, _, rfl⟩ := List.mem_map.1 hr
  rfl
theorem Wf.sub (hwf : Wf (lfs T) S) {rs : List Ref} (hnd : nodupR rs = true) (hlive : ∀ r ∈ rs, (S.obj r).isDead = false) (hcl : ∀ r ∈ rs, ∀ r' ∈ (S.obj r).refs, r' ∈ rs) : Wf (lfs T) (S.sub rs) := by
  have hblk : ∀ r x, (S.sub rs).blk r = some x → ∃ i, r = .own i ∧ i < rs.length ∧ S.blk (rs.getD i (.own 0)) = some x := fun r x hx => by
    cases r with
    | loc i => rw [(sub_loc S rs i).2] at hx; cases hx
    | own i =>
      by_cases hi : i < rs.length
      · exact ⟨i, rfl, hi, by rw [← (sub_own S rs i (.own 0) hi).2]; exact hx⟩
      · rw [(sub_out S rs i hi).2] at hx; cases hx
  refine ⟨fun b hb => ⟨(hwf.frozen b hb).1, fun r x hx => ?_⟩, fun r r' x x' hx hx' he => ?_, fun r x hx => ?_, fun r => ?_, fun i => ?_, by simp [Sig.sub], rfl⟩
  · obtain ⟨i, _, _, h⟩ := hblk r x hx
    exact (hwf.frozen b hb).2 _ x h
  · obtain ⟨i, rfl, hi, h⟩ := hblk r x hx
    obtain ⟨i', rfl, hi', h'⟩ := hblk r' x' hx'
    have := hwf.inj _ _ x x' h h' he
    have h1 := idxR_getD (.own 0) hnd hi
    rw [this, idxR_getD (.own 0) hnd hi'] at h1
    rw [h1]
  · obtain ⟨i, _, _, h⟩ := hblk r x hx
    exact hwf.lt _ x h
  · cases r with
    | loc i => rw [(sub_loc S rs i).1, (sub_loc S rs i).2]; rfl
    | own i =>
      by_cases hi : i < rs.length
      · obtain ⟨h1, h2⟩ := sub_own S rs i (.own 0) hi
        rw [h1, h2]
        have hm := getD_mem (.own 0) hi
        generalize rs.getD i (.own 0) = r at *
        have := hwf.obj r
        have hc := hcl r hm
        cases hr : S.obj r with
        | cells cs =>
          rw [hr] at this hc
          obtain ⟨b, c, e, arr, h3, h4, h5, h6⟩ := this
          refine ⟨b, c, e, arr, h3, h4, by rw [mapRL_length]; exact h5, fun j hj => ?_⟩
          rw [mapRL_length] at hj
          rw [mapRL_getD]
          exact ⟨RepD.ren (S := S) (S' := S.sub rs) (fun _ h => h) (fun _ _ => rfl) (renR rs) (h6 j hj).1 fun r' hr' => sub_keep S (hc r' (refs_getD hr')), (h6 j hj).2⟩
        | row e xs => rw [hr] at this; exact this
        | map m xs => rw [hr] at this; exact this
        | iter m x n s => have := hlive r hm; rw [hr] at this; cases this
        | dead => rw [hr] at this; exact this
      · rw [(sub_out S rs i hi).1, (sub_out S rs i hi).2]; rfl
  · show ((S.sub rs).H.getD i .dead).free
    by_cases hi : i < rs.length
    · have h1 := (sub_own S rs i (.own 0) hi).1
      rw [show (S.sub rs).H.getD i .dead = (S.sub rs).obj (.own i) from rfl, h1]
      have hl := hlive _ (getD_mem (.own 0) hi)
      cases hr : S.obj (rs.getD i (.own 0)) with
      | cells cs => exact renL_noloc rs cs
      | iter m x n s => rw [hr] at hl; cases hl
      | _ => trivial
    · rw [show (S.sub rs).H.getD i .dead = (S.sub rs).obj (.own i) from rfl, (sub_out S rs i hi).1]; trivial
theorem updI_length {α : Type} (f : Nat → α → α) : ∀ (l : List α) (i : Nat), (updI f i l).length = l.length
  | [], _ => rfl
  | x :: l, i => by simp [updI, updI_length f l]
theorem updI_getD {α : Type} (f : Nat → α → α) (d : α) : ∀ (l : List α) (i j : Nat), j < l.length → (updI f i l).getD j d = f (i + j) (l.getD j d)
  | [], i, j, h => by simp at h
  | x :: l, i, 0, _ => by simp [updI]
  | x :: l, i, j + 1, h => by
    simp only [updI, List.getD_cons_succ]
    rw [updI_getD f d l (i + 1) j (by simpa using h), show i + 1 + j = i + (j + 1) from by omega]
theorem updI_out {α : Type} (f : Nat → α → α) (d : α) (l : List α) (i j : Nat) (h : ¬ j < l.length) : (updI f i l).getD j d = d := by
  rw [List.getD_eq_getElem?_getD, List.getElem?_eq_none (by rw [updI_length]; omega)]; rfl
def newBlk (rs : List Ref) (mu : List (Option (Nat × Nat))) (r : Ref) (x : Option (Nat × Nat)) : Option (Nat × Nat) := match memR r rs with | true => mu.getD (idxR r rs) none | false => x
def Sig.join (S : Sig) (rs : List Ref) (S1 : Sig) : Sig :=
  { w := S1.w, F := S1.F, H := updI (fun i => newObj rs S1.H (.own i)) 0 S.H, mu := updI (fun i => newBlk rs S1.mu (.own i)) 0 S.mu,
    L := updI (fun i => newObj rs S1.H (.loc i)) 0 S.L, la := updI (fun i => newBlk rs S1.mu (.loc i)) 0 S.la }
theorem notDead {o : Obj} (h : o.isDead = false) : o ≠ .dead := fun he => by rw [he] at h; cases h
theorem join_in (hwf : Wf (lfs T) S) {rs : List Ref} {S1 : Sig} {r : Ref} (h : r ∈ rs) (hl : S.obj r ≠ .dead) :
    (S.join rs S1).obj r = (S1.obj (.own (idxR r rs))).mapR (unR rs) ∧ (S.join rs S1).blk r = S1.blk (.own (idxR r rs)) := by
  have hhas := Sig.has_of hl
  cases r with
  | loc i =>
    have hi : i < S.L.length := hhas
    constructor
    · show (updI _ 0 S.L).getD i .dead = _
      rw [updI_getD _ _ _ _ _ hi]; simp [newObj, memR_iff.2 h]; rfl
    · show (updI _ 0 S.la).getD i none = _
      rw [updI_getD _ _ _ _ _ (by rw [hwf.lalen]; exact hi)]; simp [newBlk, memR_iff.2 h]; rfl
  | own i =>
    have hi : i < S.H.length := hhas
    constructor
    · show (updI _ 0 S.H).getD i .dead = _
      rw [updI_getD _ _ _ _ _ hi]; simp [newObj, memR_iff.2 h]; rfl
    · show (updI _ 0 S.mu).getD i none = _
      rw [updI_getD _ _ _ _ _ (by rw [hwf.mulen]; exact hi)]; simp [newBlk, memR_iff.2 h]; rfl
theorem join_out {rs : List Ref} {S1 : Sig} {r : Ref} (h : r ∉ rs) : (S.join rs S1).obj r = S.obj r ∧ (S.join rs S1).blk r = S.blk r := by
  have hm := memR_false.2 h
  have go : ∀ {α : Type} (f : Nat → α → α) (d : α) (l : List α) (i : Nat), (∀ x, f i x = x) → (updI f 0 l).getD i d = l.getD i d := fun f d l i hf => by
    by_cases hi : i < l.length
    · rw [updI_getD _ _ _ _ _ hi, Nat.zero_add, hf]
    · rw [updI_out _ _ _ _ _ hi, List.getD_eq_getElem?_getD, List.getElem?_eq_none (by omega)]; rfl
  cases r with
  | loc i => exact ⟨go _ _ _ _ fun x => by simp [newObj, hm], go _ _ _ _ fun x => by simp [newBlk, hm]⟩
  | own i => exact ⟨go _ _ _ _ fun x => by simp [newObj, hm], go _ _ _ _ fun x => by simp [newBlk, hm]⟩
theorem Rel.join (hrel : Rel (lfs T) st H a S) (hinv : Inv S0 S) {rs : List Ref} (hnd : nodupR rs = true) (hlive : ∀ r ∈ rs, (S.obj r).isDead = false) (hcl : ∀ r ∈ rs, ∀ r' ∈ (S.obj r).refs, r' ∈ rs)
    {S1 : Sig} (hL : S1.L = []) (hla : S1.la = []) (hwf1 : Wf (lfs T) S1) (hext : Ext (S.sub rs) S1) (hlen : S1.H.length = rs.length)
    (hrefs : ∀ i, ∀ r' ∈ (S1.obj (.own i)).refs, r' ∈ ((S.sub rs).obj (.own i)).refs) :
    Rel (lfs T) (updLoc rs S1.H st) (updOwn rs S1.H H) a (S.join rs S1) ∧ Inv S0 (S.join rs S1) ∧
      ∀ {d : D} {u : Value}, D.anyR (Ref.beyond rs.length) d = false → RepD (lfs T) S1 d u → RepD (lfs T) (S.join rs S1) (d.mapR (unR rs)) u := by
  have hwf := hrel.wf
  have hsl : (S.sub rs).H.length = rs.length := by simp [Sig.sub]
  -- blocks of the objects that were not handed over
  have hout : ∀ r x, r ∉ rs → S.blk r = some x → x.1 < S.w.heap.size ∧ S1.w.heap[x.1]? = S.w.heap[x.1]? ∧ (∀ i y, S1.blk (.own i) = some y → y.1 ≠ x.1) ∧ ¬ S1.F x.1 := fun r x hr hx => by
    have hlt := hwf.lt r x hx
    have hno : ∀ i y, (S.sub rs).blk (.own i) = some y → y.1 ≠ x.1 := fun i y hy he => by
      by_cases hi : i < rs.length
      · rw [(sub_own S rs i (.own 0) hi).2] at hy
        have := hwf.inj _ r y x hy hx he
        exact hr (this ▸ getD_mem _ hi)
      · rw [(sub_out S rs i hi).2] at hy; cases hy
    obtain ⟨h1, h2⟩ := hext.block x.1 hlt hno
    refine ⟨hlt, h1, h2, fun hF => ?_⟩
    rcases hext.Fnew x.1 hlt hF with h3 | ⟨i, y, h3, h4⟩
    · exact (hwf.frozen x.1 h3).2 r x hx rfl
    · exact hno i y h3 h4
  have hFw : ∀ b, S.F b → S1.w.heap[b]? = S.w.heap[b]? := fun b hb => (hext.block b (hwf.frozen b hb).1 (fun i y hy he => by
    by_cases hi : i < rs.length
    · rw [(sub_own S rs i (.own 0) hi).2] at hy
      exact (hwf.frozen b hb).2 _ y hy he
    · rw [(sub_out S rs i hi).2] at hy; cases hy)).1
  have hin : ∀ {r}, r ∈ rs → (S.join rs S1).obj r = (S1.obj (.own (idxR r rs))).mapR (unR rs) ∧ (S.join rs S1).blk r = S1.blk (.own (idxR r rs)) := fun {r} h => join_in hwf h (notDead (hlive r h))
  have hsub : ∀ {r}, r ∈ rs → (S.sub rs).obj (.own (idxR r rs)) = (S.obj r).mapR (renR rs) ∧ (S.sub rs).blk (.own (idxR r rs)) = S.blk r ∧ idxR r rs < rs.length := fun {r} h => by
    obtain ⟨h1, h2⟩ := idxR_spec h
    obtain ⟨h3, h4⟩ := sub_own S rs (idxR r rs) (.own 0) h1
    rw [h2] at h3 h4
    exact ⟨h3, h4, h1⟩
  have hlH : (S.join rs S1).H.length = S.H.length := updI_length _ _ _
  have keep : ∀ r, S.inb r → Keep S (S.join rs S1) r := fun r _ => by
    by_cases h : r ∈ rs
    · obtain ⟨h1, h2⟩ := hin h
      obtain ⟨h3, h4, h5⟩ := hsub h
      have k := hext.keep (idxR r rs) (by rw [hsl]; exact h5)
      refine ⟨fun bc h6 h7 => ?_, fun e xs h6 => ?_, fun m xs h6 => ?_⟩
      · rw [h1, mapR_isPt] at h6
        obtain ⟨h9, h10⟩ := k.cells bc h6 (h2.symm.trans h7)
        rw [h3, mapR_isPt] at h9
        exact ⟨h9, h4.symm.trans h10⟩
      · obtain ⟨xs0, h9, h10, h11⟩ := k.row e xs (mapR_row (h1.symm.trans h6))
        exact ⟨xs0, mapR_row (h3.symm.trans h9), h10, fun he => h2.trans ((h11 he).trans h4)⟩
      · obtain ⟨xs0, h9, h10⟩ := k.map m xs (mapR_map (h1.symm.trans h6))
        exact ⟨xs0, mapR_map (h3.symm.trans h9), h2.trans (h10.trans h4)⟩
    · exact .refl (join_out h).1 (join_out h).2
  have mD : ∀ {d : D} {u : Value}, RepD (lfs T) S d u → RepD (lfs T) (S.join rs S1) d u := fun {d u} h =>
    RepD.mono (S := S) (S' := S.join rs S1) (Nat.le_of_eq hlH.symm) (fun b hb => hext.F b hb) hFw (p := fun _ => false) (fun r _ hi => keep r hi) (anyR_false d) h
  have mK : ∀ {k : K} {x : V} {u : Value}, RepK (lfs T) S.w S.F k x u → RepK (lfs T) S1.w S1.F k x u := fun h => RepK.mono (w := S.w) (w' := S1.w) (F := S.F) (F' := S1.F) (fun b hb => hext.F b hb) hFw h
  have keepU : ∀ r, Ref.beyond rs.length r = false → KeepR S1 (S.join rs S1) r (unR rs r) := fun r hr => by
    cases r with
    | loc i => cases hr
    | own i =>
      have hi : i < rs.length := Nat.lt_of_not_le fun h => by rw [show Ref.beyond rs.length (.own i) = true from Nat.ble_eq_true_of_le h] at hr; cases hr
      show KeepR S1 (S.join rs S1) (.own i) (rs.getD i (.own 0))
      have hm := getD_mem (.own 0) hi
      have hx := idxR_getD (.own 0) hnd hi
      generalize rs.getD i (.own 0) = r at *
      obtain ⟨h1, h2⟩ := hin hm
      rw [hx] at h1 h2
      refine ⟨?_, fun bc h6 h7 => ?_, fun e xs h6 => ?_, fun m xs h6 => ?_⟩
      · have := Sig.has_of (notDead (hlive r hm))
        cases r with
        | loc j => trivial
        | own j => show j < (S.join rs S1).H.length; rw [hlH]; exact this
      · rw [h1, mapR_isPt] at h6
        exact ⟨h6, h2.symm.trans h7⟩
      · exact ⟨xs, mapR_row (h1.symm.trans h6), Nat.le_refl _, fun _ => h2⟩
      · exact ⟨xs, mapR_map (h1.symm.trans h6), h2⟩
  have mU : ∀ {d : D} {u : Value}, D.anyR (Ref.beyond rs.length) d = false → RepD (lfs T) S1 d u → RepD (lfs T) (S.join rs S1) (d.mapR (unR rs)) u := fun {d u} hd h =>
    RepD.ren (S := S1) (S' := S.join rs S1) (fun _ h => h) (fun _ _ => rfl) (unR rs) h fun r hr => keepU r ((anyR_refs d).1 hd r hr)
  -- the references of an object behind the call
  have hob : ∀ r, r ∈ rs → ∀ cs, S1.obj (.own (idxR r rs)) = .cells cs → D.anyL (Ref.beyond rs.length) cs = false ∧ ∀ r' ∈ D.refsL (D.mapRL (unR rs) cs), r' ∈ (S.obj r).refs := fun r hr cs hcs => by
    obtain ⟨h3, h4, h5⟩ := hsub hr
    have h6 : ∀ r' ∈ D.refsL cs, ∃ x ∈ (S.obj r).refs, r' = renR rs x := fun r' hr' => by
      have := hrefs (idxR r rs) r' (by rw [hcs]; exact hr')
      rw [h3] at this
      cases ho : S.obj r with
      | cells cs0 =>
        rw [ho] at this
        have : r' ∈ D.refsL (D.mapRL (renR rs) cs0) := this
        rw [refs_mapRL] at this
        obtain ⟨x, hx, rfl⟩ := List.mem_map.1 this
        exact ⟨x, hx, rfl⟩
      | row e xs => rw [ho] at this; simp [Obj.mapR, Obj.refs] at this
      | map m xs => rw [ho] at this; simp [Obj.mapR, Obj.refs] at this
      | iter m x n s => have := hlive r hr; rw [ho] at this; cases this
      | dead => rw [ho] at this; simp [Obj.mapR, Obj.refs] at this
    refine ⟨?_, fun r' hr' => ?_⟩
    · rw [anyL_refs]
      intro r' hr'
      obtain ⟨x, hx, rfl⟩ := h6 r' hr'
      have := (idxR_spec (hcl r hr x hx)).1
      show Nat.ble rs.length (idxR x rs) = false
      cases hb : Nat.ble rs.length (idxR x rs) with
      | false => rfl
      | true => have := Nat.le_of_ble_eq_true hb; omega
    · rw [refs_mapRL] at hr'
      obtain ⟨y, hy, rfl⟩ := List.mem_map.1 hr'
      obtain ⟨x, hx, rfl⟩ := h6 y hy
      have := (idxR_spec (hcl r hr x hx)).2 (.own 0)
      rw [show unR rs (renR rs x) = rs.getD (idxR x rs) (.own 0) from rfl, this]
      exact hx
  have hblk : ∀ r x, (S.join rs S1).blk r = some x → (r ∈ rs ∧ S1.blk (.own (idxR r rs)) = some x) ∨ (r ∉ rs ∧ S.blk r = some x) := fun r x hx => by
    by_cases h : r ∈ rs
    · exact .inl ⟨h, (hin h).2 ▸ hx⟩
    · exact .inr ⟨h, (join_out h).2 ▸ hx⟩
  refine ⟨⟨?_, ?_, hrel.size, hrel.defers, fun j => mD (hrel.rep j), ?_⟩, ?_, mU⟩
  · show updI _ 0 S.H = updI _ 0 H; rw [hrel.H]
  · show updI _ 0 S.L = updI _ 0 st.loc; rw [hrel.L]
  · refine ⟨fun b hb => ⟨(hwf1.frozen b hb).1, fun r x hx => ?_⟩, fun r r' x x' hx hx' he => ?_, fun r x hx => ?_, fun r => ?_, fun i => ?_, by simp [Sig.join, updI_length, hwf.mulen], by simp [Sig.join, updI_length, hwf.lalen]⟩
    · rcases hblk r x hx with ⟨_, h⟩ | ⟨h0, h⟩
      · exact (hwf1.frozen b hb).2 _ x h
      · exact fun he => (hout r x h0 h).2.2.2 (he ▸ hb)
    · rcases hblk r x hx with ⟨h0, h⟩ | ⟨h0, h⟩ <;> rcases hblk r' x' hx' with ⟨h0', h'⟩ | ⟨h0', h'⟩
      · have := hwf1.inj _ _ x x' h h' he
        have e1 := (idxR_spec h0).2 (.own 0)
        have e2 := (idxR_spec h0').2 (.own 0)
        have h9 : idxR r rs = idxR r' rs := by injection this
        rw [← e1, ← e2, h9]
      · exact absurd he ((hout r' x' h0' h').2.2.1 _ x h)
      · exact absurd he.symm ((hout r x h0 h).2.2.1 _ x' h')
      · exact hwf.inj r r' x x' h h' he
    · rcases hblk r x hx with ⟨_, h⟩ | ⟨h0, h⟩
      · exact hwf1.lt _ x h
      · exact Nat.lt_of_lt_of_le (hout r x h0 h).1 hext.size
    · by_cases h : r ∈ rs
      · rw [(hin h).1, (hin h).2]
        have := hwf1.obj (.own (idxR r rs))
        have hob' := hob r h
        cases hr : S1.obj (.own (idxR r rs)) with
        | cells cs =>
          rw [hr] at this
          obtain ⟨b, c, e, arr, h3, h4, h5, h6⟩ := this
          refine ⟨b, c, e, arr, h3, h4, by rw [mapRL_length]; exact h5, fun j hj => ?_⟩
          rw [mapRL_length] at hj
          rw [mapRL_getD]
          exact ⟨mU (anyL_getD j (hob' cs hr).1) (h6 j hj).1, (h6 j hj).2⟩
        | row e xs => rw [hr] at this; exact this
        | map m xs => rw [hr] at this; exact this
        | iter m x n s =>
          have hf := hwf1.own (idxR r rs)
          rw [show S1.H.getD (idxR r rs) .dead = .iter m x n s from hr] at hf
          exact hf.elim
        | dead => rw [hr] at this; exact this
      · rw [(join_out h).1, (join_out h).2]
        have := hwf.obj r
        cases hr : S.obj r with
        | cells cs =>
          rw [hr] at this
          obtain ⟨b, c, e, arr, h3, h4, h5, h6⟩ := this
          exact ⟨b, c, e, arr, h3, by rw [← h4]; exact (hout r _ h h3).2.1, h5, fun j hj => ⟨mD (h6 j hj).1, (h6 j hj).2⟩⟩
        | row e xs =>
          rw [hr] at this
          rcases this with h3 | ⟨b, c, arr, h3, h4, h5, h6, h7, h9, h8⟩
          · exact .inl h3
          · exact .inr ⟨b, c, arr, h3, by rw [← h4]; exact (hout r _ h h3).2.1, h5, h6, h7, h9, fun x y hx hy => mK (h8 x y hx hy)⟩
        | map m xs =>
          rw [hr] at this
          obtain ⟨b, c, clock, ents, us, h3, h4, h5, h6, h7, h8⟩ := this
          exact ⟨b, c, clock, ents, us, h3, by rw [← h4]; exact (hout r _ h h3).2.1, h5, h6, h7, fun x y hx hy => mK (h8 x y hx hy)⟩
        | iter m x n s =>
          rw [hr] at this
          obtain ⟨b, c, mb, h3, h4, h5, h6⟩ := this
          exact ⟨b, c, mb, h3, by rw [← h4]; exact (hout r _ h h3).2.1, mD h5, h6⟩
        | dead => rw [hr] at this; exact this
    · show ((S.join rs S1).obj (.own i)).free
      have hfr := hwf.own i
      by_cases h : Ref.own i ∈ rs
      · rw [(hin h).1]
        have hob' := hob _ h
        cases hr : S1.obj (.own (idxR (.own i) rs)) with
        | cells cs =>
          show D.anyL Ref.isLoc (D.mapRL (unR rs) cs) = false
          rw [anyL_refs]
          intro r' hr'
          have := (hob' cs hr).2 r' hr'
          cases ho : S.obj (.own i) with
          | cells cs0 =>
            rw [ho] at this
            rw [show S.H.getD i .dead = .cells cs0 from ho] at hfr
            exact (anyL_refs cs0).1 hfr r' this
          | row e xs => rw [ho] at this; simp [Obj.refs] at this
          | map m xs => rw [ho] at this; simp [Obj.refs] at this
          | iter m x n s => rw [ho] at this; simp [Obj.refs] at this
          | dead => rw [ho] at this; simp [Obj.refs] at this
        | row e xs => trivial
        | map m xs => trivial
        | iter m x n s =>
          have hf := hwf1.own (idxR (.own i) rs)
          rw [show S1.H.getD (idxR (.own i) rs) .dead = .iter m x n s from hr] at hf
          exact hf.elim
        | dead => trivial
      · rw [(join_out h).1]; exact hfr
  · have he := hinv.ext
    have hs0 := he.size
    have hlocge : ∀ i x, S.blk (.loc i) = some x → S0.w.heap.size ≤ x.1 := fun i x hx => hinv.loc i x hx
    -- blocks of the callee's view, seen from the call's beginning
    have hold : ∀ i y, (S.sub rs).blk (.own i) = some y → (∃ k, S.blk (.own k) = some y) ∨ S0.w.heap.size ≤ y.1 := fun i y hy => by
      by_cases hi : i < rs.length
      · rw [(sub_own S rs i (.own 0) hi).2] at hy
        generalize rs.getD i (.own 0) = r at hy
        cases r with
        | loc j => exact .inr (hlocge j y hy)
        | own j => exact .inl ⟨j, hy⟩
      · rw [(sub_out S rs i hi).2] at hy; cases hy
    refine ⟨⟨Nat.le_trans hs0 hext.size, hext.os.trans he.os, hext.tape.trans he.tape, hext.output.trans he.output, fun b hb hn => ?_, fun b hb => hext.F b (he.F b hb), fun b hb hF => ?_, by rw [hlH]; exact he.len, fun k hk => (he.keep k hk).trans (keep _ (Nat.lt_of_lt_of_le hk he.len)), fun k x hx => ?_⟩, fun k x hx => ?_⟩
    · obtain ⟨h1, h2⟩ := he.block b hb hn
      have hno : ∀ i y, (S.sub rs).blk (.own i) = some y → y.1 ≠ b := fun i y hy hyb => by
        rcases hold i y hy with ⟨k, hk⟩ | h3
        · exact h2 k y hk hyb
        · omega
      obtain ⟨h3, h4⟩ := hext.block b (Nat.lt_of_lt_of_le hb hs0) hno
      refine ⟨h3.trans h1, fun i x hx => ?_⟩
      rcases hblk _ x hx with ⟨_, h⟩ | ⟨_, h⟩
      · exact h4 _ x h
      · exact h2 i x h
    · rcases hext.Fnew b (Nat.lt_of_lt_of_le hb hs0) hF with h3 | ⟨i, y, h3, h4⟩
      · exact he.Fnew b hb h3
      · rcases hold i y h3 with ⟨k, hk⟩ | h5
        · rcases he.fresh k y hk with ⟨z, h6, h7⟩ | h6
          · exact .inr ⟨k, z, h6, by omega⟩
          · omega
        · omega
    · rcases hblk _ x hx with ⟨h0, h⟩ | ⟨_, h⟩
      · obtain ⟨h3, h4, h5⟩ := hsub h0
        rcases hext.fresh _ x h with ⟨y, h6, h7⟩ | h6
        · rw [h4] at h6
          rcases he.fresh k y h6 with ⟨z, h8, h9⟩ | h8
          · exact .inl ⟨z, h8, h7.trans h9⟩
          · right; rw [h7]; exact h8
        · exact .inr (Nat.le_trans hs0 h6)
      · exact he.fresh k x h
    · rcases hblk _ x hx with ⟨h0, h⟩ | ⟨_, h⟩
      · obtain ⟨h3, h4, h5⟩ := hsub h0
        rcases hext.fresh _ x h with ⟨y, h6, h7⟩ | h6
        · rw [h4] at h6
          rw [h7]; exact hinv.loc k y h6
        · exact Nat.le_trans hs0 h6
      · exact hinv.loc k x h
mutual
theorem refs_reshapeD : ∀ (c d : D) (r : Ref), r ∈ (reshapeD c d).refs → r ∈ c.refs
  | .v k x, d, r, h => by simp [reshapeD, D.refs] at h
  | .osl x n, d, r, h => by simpa [reshapeD, D.refs] using h
  | .agg cs, d, r, h => by
    simp only [reshapeD, D.refs] at h ⊢
    exact refs_reshapeL cs d.cells r h
  | .nil, d, r, h => by simpa [reshapeD] using h
  | .tup _, d, r, h => by simpa [reshapeD] using h
  | .ptr _ _, d, r, h => by simpa [reshapeD] using h
  | .elt _ _ _, d, r, h => by simpa [reshapeD] using h
  | .relt _ _ _ _ _, d, r, h => by simpa [reshapeD] using h
  | .mp _, d, r, h => by simpa [reshapeD] using h
  | .fn _ _, d, r, h => by simpa [reshapeD] using h
  | .skip, d, r, h => by simpa [reshapeD] using h
  | .undef, d, r, h => by simpa [reshapeD] using h
theorem refs_reshapeL : ∀ (l ds : List D) (r : Ref), r ∈ D.refsL (reshapeL l ds) → r ∈ D.refsL l
  | [], ds, r, h => by simp [reshapeL, D.refsL] at h
  | c :: l, ds, r, h => by
    simp only [reshapeL, D.refsL, List.mem_append] at h ⊢
    exact h.imp (refs_reshapeD c _ r) (refs_reshapeL l _ r)
end
theorem reshapes_length : ∀ (l r : List Obj), (reshapes l r).length = l.length
  | [], _ => rfl
  | o :: l, r => by simp [reshapes, reshapes_length l]
theorem reshapes_refs : ∀ (l os : List Obj) (i : Nat) (r : Ref), r ∈ ((reshapes l os).getD i .dead).refs → r ∈ (l.getD i .dead).refs
  | [], os, i, r, h => by simp [reshapes, Obj.refs] at h
  | o :: l, os, 0, r, h => by
    simp only [reshapes, List.getD_cons_zero] at h ⊢
    cases o with
    | cells cs => exact refs_reshapeL cs _ r h
    | row e xs => simp [reshapeO, Obj.refs] at h
    | map m xs => simp [reshapeO, Obj.refs] at h
    | iter m x n s => simp [reshapeO, Obj.refs] at h
    | dead => simp [reshapeO, Obj.refs] at h
  | o :: l, os, i + 1, r, h => by
    simp only [reshapes, List.getD_cons_succ] at h ⊢
    exact reshapes_refs l _ i r h
theorem okRefs_spec {rs : List Ref} {args : List D} (hrel : Rel (lfs T) st H a S) (h : okRefs st H rs args = true) :
    nodupR rs = true ∧ (∀ r ∈ D.refsL args, r ∈ rs) ∧ (∀ r ∈ rs, (S.obj r).isDead = false) ∧ (∀ r ∈ rs, ∀ r' ∈ (S.obj r).refs, r' ∈ rs) ∧ objsOf st H rs = (S.sub rs).H := by
  unfold okRefs at h
  obtain ⟨⟨h1, h2⟩, h3⟩ : (nodupR rs = true ∧ allIn rs (D.refsL args) = true) ∧ (rs.all fun r => !((getO st H r).isDead) && allIn rs (getO st H r).refs) = true := by rw [Bool.and_eq_true, Bool.and_eq_true] at h; exact h
  have hall : ∀ l, allIn rs l = true → ∀ r ∈ l, r ∈ rs := fun l hl r hr => memR_iff.1 (List.all_eq_true.1 hl r hr)
  refine ⟨h1, hall _ h2, fun r hr => ?_, fun r hr => ?_, ?_⟩
  · have := List.all_eq_true.1 h3 r hr
    rw [← hrel.getO_obj, Bool.and_eq_true] at this
    simpa using this.1
  · have := List.all_eq_true.1 h3 r hr
    rw [Bool.and_eq_true] at this
    rw [hrel.getO_obj]
    exact hall _ this.2
  · simp only [objsOf, Sig.sub]
    exact List.map_congr_left fun r _ => by rw [hrel.getO_obj]
end Go.Abs
