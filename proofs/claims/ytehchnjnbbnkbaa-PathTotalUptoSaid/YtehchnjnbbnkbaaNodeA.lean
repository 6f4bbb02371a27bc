/-
  CONTRACTS of the program's nodes: the numbered subterms of a term.
-/
import Derived.Test.YtehchnjnbbnkbaaPathA
set_option linter.unusedVariables false
set_option linter.unusedSimpArgs false
namespace Go.Proofs.Ytehchnjnbbnkbaa
open Go.Abs

structure Nd where
  tm : Tm
  ix : List Int
def encNd (n : Nd) : List V := [.s n.tm.name, .b n.tm.var, .l (Tm.encL n.tm.args), .l (encP n.ix)]
def encN (A : List Nd) : List (List V) := A.map encNd
theorem encN_length (A : List Nd) : (encN A).length = A.length := by simp [encN]
theorem encN_getD (A : List Nd) (k : Nat) (x : Nd) (h : A[k]? = some x) : (encN A).getD k [] = [.s x.tm.name, .b x.tm.var, .l (Tm.encL x.tm.args), .l (encP x.ix)] := by
  rw [encN, List.getD_eq_getElem?_getD, List.getElem?_map, h]; rfl
/-- The arguments of a node stand before it. -/
def Fine (A : List Nd) (i : Nat) (n : Nd) : Prop := n.ix.length = n.tm.args.length ∧ ∀ (j : Nat) (a : Tm), n.tm.args[j]? = some a → ∃ m : Nat, n.ix[j]? = some (m : Int) ∧ m < i ∧ ∃ x, A[m]? = some x ∧ x.tm = a
def Good (A : List Nd) : Prop := ∀ (i : Nat) (n : Nd), A[i]? = some n → Fine A i n
theorem get_prefix {α : Type} {A B : List α} (h : A <+: B) {i : Nat} {x : α} (hx : A[i]? = some x) : B[i]? = some x := by
  obtain ⟨C, rfl⟩ := h
  rw [List.getElem?_append_left (List.getElem?_eq_some_iff.1 hx).1]
  exact hx
theorem Fine.mono {A B : List Nd} (h : A <+: B) {i : Nat} {n : Nd} (hf : Fine A i n) : Fine B i n :=
  ⟨hf.1, fun j a ha => by obtain ⟨m, h1, h2, x, h3, h4⟩ := hf.2 j a ha; exact ⟨m, h1, h2, x, get_prefix h h3, h4⟩⟩
theorem Good.push {A : List Nd} (h : Good A) {n : Nd} (hn : Fine A A.length n) : Good (A ++ [n]) := fun i x hx => by
  rcases Nat.lt_trichotomy i A.length with hi | rfl | hi
  · rw [List.getElem?_append_left hi] at hx
    exact (h i x hx).mono (List.prefix_append _ _)
  · rw [List.getElem?_append_right (Nat.le_refl _), Nat.sub_self] at hx
    obtain rfl := Option.some.inj hx
    exact hn.mono (List.prefix_append _ _)
  · rw [List.getElem?_eq_none (by simp; omega)] at hx; cases hx
mutual
/-- The nodes of a term behind b other ones. -/
def nds (b : Nat) : Tm → List Nd | .mk n v xs => (ndsL b xs).1 ++ [⟨.mk n v xs, (ndsL b xs).2⟩]
def ndsL (b : Nat) : List Tm → List Nd × List Int
  | [] => ([], [])
  | t :: r => (nds b t ++ (ndsL (b + (nds b t).length) r).1, ((b + (nds b t).length - 1 : Nat) : Int) :: (ndsL (b + (nds b t).length) r).2)
end
theorem nds_eq (b : Nat) : ∀ t : Tm, nds b t = (ndsL b t.args).1 ++ [⟨t, (ndsL b t.args).2⟩] | .mk _ _ _ => by simp only [nds]; rfl
theorem ndsL_snoc : ∀ (l : List Tm) (b : Nat) (t : Tm), ndsL b (l ++ [t]) = ((ndsL b l).1 ++ nds (b + (ndsL b l).1.length) t, (ndsL b l).2 ++ [((b + (ndsL b l).1.length + (nds (b + (ndsL b l).1.length) t).length - 1 : Nat) : Int)])
  | [], b, t => by simp [ndsL]
  | a :: l, b, t => by
    have ih := ndsL_snoc l (b + (nds b a).length) t
    simp only [List.cons_append, ndsL, ih, List.length_append, List.append_assoc, Nat.add_assoc]
/-- Some arguments have been numbered. -/
structure Part (A : List Nd) (t : Tm) (k : Nat) (B : List Nd) (ix : List Int) : Prop where
  eqB : B = A ++ (ndsL A.length (t.args.take k)).1
  eqI : ix = (ndsL A.length (t.args.take k)).2
  pre : A <+: B
  good : Good B
  len : B.length = A.length + Tm.sizeL (t.args.take k)
  ixlen : ix.length = k
  fm : (∀ a ∈ t.args.take k, a.formed = true) → ∀ x ∈ B, x ∈ A ∨ x.tm.formed = true
  fine : ∀ (j : Nat) (a : Tm), j < k → t.args[j]? = some a → ∃ m : Nat, ix[j]? = some (m : Int) ∧ m < B.length ∧ ∃ x, B[m]? = some x ∧ x.tm = a
theorem Part.start {A : List Nd} (h : Good A) (t : Tm) : Part A t 0 A [] :=
  ⟨by simp [ndsL], by simp [ndsL], List.prefix_refl _, h, rfl, rfl, fun _ x hx => .inl hx, fun j a hj => by omega⟩
theorem Part.next {A : List Nd} {t : Tm} {k : Nat} {B : List Nd} {ix : List Int} (h : Part A t k B ix) (hk : k < t.args.length) {C : List Nd} (hC : Good C) (hBC : B <+: C) (hlen : C.length = B.length + (t.args[k]).size) {x : Nd} (hx : C[C.length - 1]? = some x) (hxt : x.tm = t.args[k])
    (hfm : (t.args[k]).formed = true → ∀ x ∈ C, x ∈ B ∨ x.tm.formed = true) (hCe : C = B ++ nds B.length t.args[k]) : Part A t (k + 1) C (ix ++ [((C.length - 1 : Nat) : Int)]) := by
  have eB : B.length = A.length + (ndsL A.length (t.args.take k)).1.length := by
    have := congrArg List.length h.eqB
    rwa [List.length_append] at this
  have hC' : C.length = B.length + (nds B.length t.args[k]).length := by rw [hCe, List.length_append]
  refine ⟨?_, ?_, h.pre.trans hBC, hC, ?_, by simp [h.ixlen], fun hf y hy => ?_, fun j a hj ha => ?_⟩
  · rw [List.take_succ_eq_append_getElem hk, ndsL_snoc, ← eB, ← List.append_assoc, ← h.eqB, ← hCe]
  · rw [List.take_succ_eq_append_getElem hk, ndsL_snoc, ← eB, ← h.eqI, ← hC']
  · rw [hlen, h.len, Tm.sizeL_take _ _ hk]; omega
  · rw [List.take_succ_eq_append_getElem hk] at hf
    rcases hfm (hf _ (List.mem_append_right _ (List.mem_singleton.2 rfl))) y hy with h1 | h1
    · exact h.fm (fun a ha => hf a (List.mem_append_left _ ha)) y h1
    · exact .inr h1
  · have hp := Tm.size_pos (t.args[k])
    rcases Nat.lt_succ_iff_lt_or_eq.1 hj with h8 | rfl
    · obtain ⟨m, h1, h2, y, h3, h4⟩ := h.fine j a h8 ha
      exact ⟨m, by rw [List.getElem?_append_left (by have := h.ixlen; omega)]; exact h1, by omega, y, get_prefix hBC h3, h4⟩
    · rw [List.getElem?_eq_getElem hk] at ha
      refine ⟨C.length - 1, ?_, by omega, x, hx, hxt.trans (Option.some.inj ha)⟩
      rw [List.getElem?_append_right (by have := h.ixlen; omega), h.ixlen, Nat.sub_self]; rfl
theorem Part.done {A : List Nd} {t : Tm} {B : List Nd} {ix : List Int} (h : Part A t t.args.length B ix) : Good (B ++ [⟨t, ix⟩]) :=
  h.good.push ⟨h.ixlen, fun j a ha => h.fine j a (List.getElem?_eq_some_iff.1 ha).1 ha⟩

/-- A list of nodes that ends with those of a term. -/
structure Ends (A : List Nd) (t : Tm) (C : List Nd) : Prop where
  eq : C = A ++ nds A.length t
  good : Good C
  pre : A <+: C
  len : C.length = A.length + t.size
  last : ∃ x, C[C.length - 1]? = some x ∧ x.tm = t
  fm : t.formed = true → ∀ x ∈ C, x ∈ A ∨ x.tm.formed = true
theorem Part.ends {A : List Nd} {t : Tm} {B : List Nd} {ix : List Int} (h : Part A t t.args.length B ix) : Ends A t (B ++ [⟨t, ix⟩]) := by
  refine ⟨?_, h.done, h.pre.trans (List.prefix_append _ _), ?_, ⟨⟨t, ix⟩, ?_, rfl⟩, fun hf x hx => ?_⟩
  · have h1 := h.eqB
    have h2 := h.eqI
    rw [List.take_length] at h1 h2
    rw [nds_eq, ← List.append_assoc, ← h1, ← h2]
  · have := h.len
    rw [List.take_length] at this
    rw [List.length_append, this, Tm.size_eq]; simp; omega
  · simp
  · rcases List.mem_append.1 hx with hx | hx
    · refine h.fm (fun a ha => ?_) x hx
      rw [List.take_length] at ha
      rw [Tm.formed_eq] at hf
      split at hf
      · simp only [Bool.and_eq_true, List.isEmpty_iff] at hf
        rw [hf.2] at ha; cases ha
      · simp only [Bool.and_eq_true] at hf
        exact List.all_eq_true.1 hf.2 a ha
    · rw [List.mem_singleton.1 hx]; exact .inr hf

theorem ends_nds : ∀ (t : Tm) (A : List Nd), Good A → Ends A t (A ++ nds A.length t) := Tm.ind fun t ih A hA => by
  have key : ∀ k, k ≤ t.args.length → ∃ B ix, Part A t k B ix := by
    intro k
    induction k with
    | zero => exact fun _ => ⟨A, [], .start hA t⟩
    | succ k ihk =>
      intro hk
      obtain ⟨B, ix, hp⟩ := ihk (by omega)
      have he := ih _ (List.getElem_mem (show k < t.args.length by omega)) B hp.good
      obtain ⟨x, h1, h2⟩ := he.last
      exact ⟨_, _, hp.next (by omega) he.good he.pre he.len h1 h2 he.fm rfl⟩
  obtain ⟨B, ix, hp⟩ := key _ (Nat.le_refl _)
  have he := hp.ends
  rw [he.eq] at he
  exact he
theorem encP_append (p q : List Int) : encP (p ++ q) = encP p ++ encP q := by simp [encP]
theorem encN_append (p q : List Nd) : encN (p ++ q) = encN p ++ encN q := by simp [encN]

theorem path_nodes_ok : ∀ (t : Tm) (A : List Nd), Good A → A.length + t.size ≤ lim → ∀ Q : D → Heap → Prop, (∀ C, Ends A t C → Q (.osl (.own 0) C.length) [.row t_path_node (encN C)]) →
    cl f_path_nodes [tD t, .osl (.own 0) A.length] [.row t_path_node (encN A)] Q := Tm.ind fun t ih A hA hB Q hQ => by
  refine C_path_nodes _ _ _ _ _ _ ?_
  unfold vc_path_nodes
  intro hb
  have hl := Tm.encL_length t.args
  have hsz := Tm.size_eq t
  have hls := Tm.length_sizeL t.args
  have hlim := lim_eq
  rw [hl] at hb ⊢
  refine range_path_nodes_0 Q _ _ _ _ _ hb (fun k n m y h => ∃ B ix, Part A t k B ix ∧ n = B.length ∧ m = ix.length ∧ y = encP ix ∧ h = encN B) (fun k n m y h hk hJ K hK => ?_) (fun n m y h hJ => ?_) 0 _ _ _ _ (Nat.zero_le _) ⟨A, [], .start hA t, rfl, rfl, rfl, rfl⟩
  · obtain ⟨B, ix, hp, rfl, rfl, rfl, rfl⟩ := hJ
    simp only [Tm.encL_getD _ k hk, Tm.enc_eq, List.drop_zero, List.headD_cons, List.tail_cons]
    have hm := Tm.sizeL_take_le t.args (k + 1)
    rw [Tm.sizeL_take _ _ hk] at hm
    have hlen := hp.len
    refine ⟨by omega, by omega, ih _ (List.getElem_mem hk) B hp.good (by omega) _ fun C hC => ⟨rfl, rfl, ?_⟩⟩
    obtain ⟨x, hx, hxt⟩ := hC.last
    have hpos := Tm.size_pos (t.args[k])
    have hcl := hC.len
    show (encN C).length = C.length ∧ (C.length ≤ big → _)
    refine ⟨encN_length C, fun hb2 => ?_⟩
    rw [big_eq] at hb2
    have e : IntKind.i64.wrap (((C.length : Nat) : Int) - 1) = ((C.length - 1 : Nat) : Int) := by rw [wrap_in _ (by omega) (by omega)]; omega
    show (encP ix).length = ix.length ∧ ix.length + 1 ≤ lim ∧ K C.length (ix.length + 1) (encP ix ++ [[V.i (IntKind.i64.wrap (((C.length : Nat) : Int) - 1))]]) (encN C)
    rw [e]
    have hixl := hp.ixlen
    refine ⟨encP_length ix, by omega, hK _ _ _ _ ⟨C, ix ++ [((C.length - 1 : Nat) : Int)], hp.next hk hC.good hC.pre hC.len hx hxt hC.fm hC.eq, rfl, by simp, ?_, rfl⟩⟩
    rw [encP_append]; rfl
  · obtain ⟨B, ix, hp, rfl, rfl, rfl, rfl⟩ := hJ
    have hend := hp.ends
    have hcl := hend.len
    have hq := hQ _ hend
    rw [List.length_append] at hq hcl
    refine ⟨(encP_length ix).symm, encN_length B, ?_, trivial, ?_⟩
    · show B.length + 1 ≤ lim
      have : B.length + 1 = A.length + t.size := hcl
      omega
    · rw [encN_append] at hq
      exact hq

theorem path_nodes_nil_ok (t : Tm) (hB : t.size ≤ lim) : ∀ Q : D → Heap → Prop, (∀ C, Ends [] t C → Q (.v (.sl t_path_node) (.l (encN C))) []) →
    cl f_path_nodes [tD t, .nil] [] Q := fun Q hQ => by
  refine C_path_nodes_nil _ _ _ _ ?_
  unfold vc_path_nodes_nil
  intro hb
  have hl := Tm.encL_length t.args
  have hsz := Tm.size_eq t
  have hls := Tm.length_sizeL t.args
  have hlim := lim_eq
  rw [hl] at hb ⊢
  have hA : Good [] := fun i n h => by simp at h
  refine range_path_nodes_nil_0 Q _ _ _ _ _ hb (fun k n m h y => ∃ B ix, Part [] t k B ix ∧ n = B.length ∧ m = ix.length ∧ y = encP ix ∧ h = encN B) (fun k n m h y hk hJ K hK => ?_) (fun n m h y hJ => ?_) 0 _ _ _ _ (Nat.zero_le _) ⟨[], [], .start hA t, rfl, rfl, rfl, rfl⟩
  · obtain ⟨B, ix, hp, rfl, rfl, rfl, rfl⟩ := hJ
    simp only [Tm.encL_getD _ k hk, Tm.enc_eq, List.drop_zero, List.headD_cons, List.tail_cons]
    have hm := Tm.sizeL_take_le t.args (k + 1)
    rw [Tm.sizeL_take _ _ hk] at hm
    have hlen : B.length = 0 + _ := hp.len
    refine ⟨by omega, by omega, path_nodes_ok _ B hp.good (by omega) _ fun C hC => ⟨rfl, rfl, ?_⟩⟩
    obtain ⟨x, hx, hxt⟩ := hC.last
    have hpos := Tm.size_pos (t.args[k])
    have hcl := hC.len
    show (encN C).length = C.length ∧ (C.length ≤ big → _)
    refine ⟨encN_length C, fun hb2 => ?_⟩
    rw [big_eq] at hb2
    have e : IntKind.i64.wrap (((C.length : Nat) : Int) - 1) = ((C.length - 1 : Nat) : Int) := by rw [wrap_in _ (by omega) (by omega)]; omega
    show (encP ix).length = ix.length ∧ ix.length + 1 ≤ lim ∧ K C.length (ix.length + 1) (encN C) (encP ix ++ [[V.i (IntKind.i64.wrap (((C.length : Nat) : Int) - 1))]])
    rw [e]
    have hixl := hp.ixlen
    refine ⟨encP_length ix, by omega, hK _ _ _ _ ⟨C, ix ++ [((C.length - 1 : Nat) : Int)], hp.next hk hC.good hC.pre hC.len hx hxt hC.fm hC.eq, rfl, by simp, ?_, rfl⟩⟩
    rw [encP_append]; rfl
  · obtain ⟨B, ix, hp, rfl, rfl, rfl, rfl⟩ := hJ
    have hend := hp.ends
    have hcl := hend.len
    have hq := hQ _ hend
    rw [List.length_append] at hcl
    rw [encN_append] at hq
    have : B.length + 1 = 0 + t.size := hcl
    refine ⟨(encP_length ix).symm, encN_length B, ?_, ?_, hq⟩
    · show B.length + 1 ≤ lim
      omega
    · show B.length + 1 = (encN B ++ [_]).length
      rw [List.length_append, encN_length]; rfl
end Go.Proofs.Ytehchnjnbbnkbaa
