/-
  CONTRACTS of the program's comparer: greater, with a memo.
-/
import Derived.Test.YtehchnjnbbnkbaaNodeB
set_option linter.unusedVariables false
set_option linter.unusedSimpArgs false
namespace Go.Proofs.Ytehchnjnbbnkbaa
open Go.Abs

/-- The memory of a comparer, as closures see it. -/
abbrev hq (l : Rks) (A B : List Nd) (kn sm : List Int) (k : Int) : Heap :=
  [.cells [.ptr (.own 1) 0], .cells [.v (.sl t_Rank) (.l (encRks l)), .v (.sl t_path_node) (.l (encN A)), .osl (.own 2) B.length, .osl (.own 3) kn.length, .osl (.own 4) sm.length], .row t_path_node (encN B), .row t_uint8 (encP kn), .row t_uint8 (encP sm), .cells [.v (.int .i64) (.i k)]]

noncomputable abbrev gtR (l : Rks) : Tm → Tm → Bool := gtB (rankOf l)
/-- What a call of greater comes to. -/
def GrtC (l : Rks) (A B : List Nd) (i k : Nat) : Prop := ∀ (x y : Nd) (kn sm : List Int), A[i]? = some x → B[k]? = some y → Memo (gtR l) A B kn → Memo Tm.eqB A B sm →
  ∀ Q : D → Heap → Prop, (∀ kn' sm', Memo (gtR l) A B kn' → Memo Tm.eqB A B sm' → Q (bD (gtR l x.tm y.tm)) (hp l A B kn' sm')) →
  cl f_path_comparer_greater [.ptr (.own 0) 0, iD i, iD k] (hp l A B kn sm) Q
/-- A closure that answers v at a. -/
def Clo (l : Rks) (A B : List Nd) (f : FuncId) (k a : Int) (v : Bool) : Prop := ∀ (kn sm : List Int), Memo (gtR l) A B kn → Memo Tm.eqB A B sm →
  ∀ Q : D → Heap → Prop, (∀ kn' sm', Memo (gtR l) A B kn' → Memo Tm.eqB A B sm' → Q (bD v) (hq l A B kn' sm' k)) →
  cl f [iD a, .ptr (.own 0) 0, .ptr (.own 5) 0] (hq l A B kn sm k) Q

section
variable {l : Rks} {A B : List Nd} (hA : Good A) (hB : Good B) (hAB : A.length * B.length ≤ 1000000000)
include hA hB hAB

theorem compare_1_ok {i k : Nat} {x y : Nd} (hx : A[i]? = some x) (hy : B[k]? = some y) (hg : GrtC l A B i k) : Clo l A B f_path_comparer_compare_1 k i (Tm.eqB x.tm y.tm || gtR l x.tm y.tm) := fun kn sm hkn hsm Q hQ => by
  refine C_path_comparer_compare_1 _ _ _ _ _ _ _ _ _ _ _ ?_
  unfold vc_path_comparer_compare_1
  refine equal_ok l A B kn hA hB hAB (i + 1) i k x y sm (by omega) hx hy hsm _ fun sm' hsm' => ⟨rfl, rfl, ?_⟩
  refine iff_intro (fun h => ⟨trivial, ?_⟩) (fun h => ?_)
  · have h : Tm.eqB x.tm y.tm = true := h
    have := hQ kn sm' hkn hsm'
    rw [h, Bool.true_or] at this
    exact this
  · have h : Tm.eqB x.tm y.tm = false := h
    rw [h] at hQ
    exact hg x y kn sm' hx hy hkn hsm' _ fun kn2 sm2 h1 h2 => ⟨rfl, rfl, trivial, hQ kn2 sm2 h1 h2⟩

omit hA hB hAB in
theorem compare_2_ok {i k : Nat} {x y : Nd} (hx : A[i]? = some x) (hy : B[k]? = some y) (hg : GrtC l A B i k) : Clo l A B f_path_comparer_compare_2 i k (!gtR l x.tm y.tm) := fun kn sm hkn hsm Q hQ => by
  refine C_path_comparer_compare_2 _ _ _ _ _ _ _ _ _ _ _ ?_
  unfold vc_path_comparer_compare_2
  exact hg x y kn sm hx hy hkn hsm _ fun kn2 sm2 h1 h2 => ⟨rfl, rfl, trivial, hQ kn2 sm2 h1 h2⟩
end

section
variable {l : Rks} {A B : List Nd} {ix : List Int} {vs : List Bool} {k : Int}

theorem index_1_ok (hl : ix.length = vs.length) (hv : ∀ (j : Nat) (h : j < ix.length) (h' : j < vs.length), Clo l A B f_path_comparer_compare_1 k ix[j] vs[j]) (kn sm : List Int) (hkn : Memo (gtR l) A B kn) (hsm : Memo Tm.eqB A B sm)
    (Q : D → Heap → Prop) (hQ : ∀ kn' sm', Memo (gtR l) A B kn' → Memo Tm.eqB A B sm' → Q (iD (idx id vs)) (hq l A B kn' sm' k)) :
    cl f_slices_IndexFunc_int [psD ix, .fn f_path_comparer_compare_1 [.ptr (.own 0) 0, .ptr (.own 5) 0]] (hq l A B kn sm k) Q := by
  refine C_slices_IndexFunc_int_pathcomparercompare1 _ _ _ _ _ _ _ _ _ _ _ ?_
  unfold vc_slices_IndexFunc_int_pathcomparercompare1
  intro hb
  have he := encP_length ix
  rw [he] at hb ⊢
  refine range_slices_IndexFunc_int_pathcomparercompare1_0 Q _ _ hb (fun j h1_0 h1_1 h1_2n h1_3n h1_4n h2 h3 h4 h5_0 => ∃ kn sm, h1_0 = .l (encRks l) ∧ h1_1 = .l (encN A) ∧ h1_2n = B.length ∧ h1_3n = kn.length ∧ h1_4n = sm.length ∧ h2 = encN B ∧ h3 = encP kn ∧ h4 = encP sm ∧ h5_0 = .i k ∧ Memo (gtR l) A B kn ∧ Memo Tm.eqB A B sm ∧ (vs.take j).any id = false)
    (fun j h1_0 h1_1 h1_2n h1_3n h1_4n h2 h3 h4 h5_0 hj hJ K hK => ?_) (fun h1_0 h1_1 h1_2n h1_3n h1_4n h2 h3 h4 h5_0 hJ => ?_) 0 _ _ _ _ _ _ _ _ _ (Nat.zero_le _) ⟨kn, sm, rfl, rfl, rfl, rfl, rfl, rfl, rfl, rfl, rfl, hkn, hsm, rfl⟩
  · obtain ⟨kn1, sm1, rfl, rfl, rfl, rfl, rfl, rfl, rfl, rfl, rfl, h1, h2, h3⟩ := hJ
    have hj2 : j < vs.length := by omega
    rw [encP_getD _ _ hj]
    simp only [List.drop_zero, List.headD_cons]
    refine ⟨by omega, by omega, hv j hj hj2 kn1 sm1 h1 h2 _ fun kn2 sm2 g1 g2 => ⟨rfl, rfl, iff_intro (fun h => ⟨trivial, ?_⟩) (fun h => hK _ _ _ _ _ _ _ _ _ ⟨kn2, sm2, rfl, rfl, rfl, rfl, rfl, rfl, rfl, rfl, rfl, g1, g2, any_take hj2 h3 h⟩)⟩⟩
    have := hQ kn2 sm2 g1 g2
    rw [idx_at hj2 h3 h] at this
    exact this
  · obtain ⟨kn1, sm1, rfl, rfl, rfl, rfl, rfl, rfl, rfl, rfl, rfl, h1, h2, h3⟩ := hJ
    rw [hl, List.take_length] at h3
    have := hQ kn1 sm1 h1 h2
    rw [idx_none h3] at this
    exact ⟨trivial, this⟩
theorem contains_1_ok (hl : ix.length = vs.length) (hv : ∀ (j : Nat) (h : j < ix.length) (h' : j < vs.length), Clo l A B f_path_comparer_compare_1 k ix[j] vs[j]) (kn sm : List Int) (hkn : Memo (gtR l) A B kn) (hsm : Memo Tm.eqB A B sm)
    (Q : D → Heap → Prop) (hQ : ∀ kn' sm', Memo (gtR l) A B kn' → Memo Tm.eqB A B sm' → Q (bD (vs.any id)) (hq l A B kn' sm' k)) :
    cl f_slices_ContainsFunc_int [psD ix, .fn f_path_comparer_compare_1 [.ptr (.own 0) 0, .ptr (.own 5) 0]] (hq l A B kn sm k) Q := by
  refine C_slices_ContainsFunc_int_pathcomparercompare1 _ _ _ _ _ _ _ _ _ _ _ ?_
  unfold vc_slices_ContainsFunc_int_pathcomparercompare1
  refine index_1_ok hl hv kn sm hkn hsm _ fun kn2 sm2 g1 g2 => ⟨rfl, rfl, trivial, ?_⟩
  have := hQ kn2 sm2 g1 g2
  rw [← idx_any] at this
  exact this

theorem index_2_ok (hl : ix.length = vs.length) (hv : ∀ (j : Nat) (h : j < ix.length) (h' : j < vs.length), Clo l A B f_path_comparer_compare_2 k ix[j] vs[j]) (kn sm : List Int) (hkn : Memo (gtR l) A B kn) (hsm : Memo Tm.eqB A B sm)
    (Q : D → Heap → Prop) (hQ : ∀ kn' sm', Memo (gtR l) A B kn' → Memo Tm.eqB A B sm' → Q (iD (idx id vs)) (hq l A B kn' sm' k)) :
    cl f_slices_IndexFunc_int [psD ix, .fn f_path_comparer_compare_2 [.ptr (.own 0) 0, .ptr (.own 5) 0]] (hq l A B kn sm k) Q := by
  refine C_slices_IndexFunc_int_pathcomparercompare2 _ _ _ _ _ _ _ _ _ _ _ ?_
  unfold vc_slices_IndexFunc_int_pathcomparercompare2
  intro hb
  have he := encP_length ix
  rw [he] at hb ⊢
  refine range_slices_IndexFunc_int_pathcomparercompare2_0 Q _ _ hb (fun j h1_0 h1_1 h1_2n h1_3n h1_4n h2 h3 h4 h5_0 => ∃ kn sm, h1_0 = .l (encRks l) ∧ h1_1 = .l (encN A) ∧ h1_2n = B.length ∧ h1_3n = kn.length ∧ h1_4n = sm.length ∧ h2 = encN B ∧ h3 = encP kn ∧ h4 = encP sm ∧ h5_0 = .i k ∧ Memo (gtR l) A B kn ∧ Memo Tm.eqB A B sm ∧ (vs.take j).any id = false)
    (fun j h1_0 h1_1 h1_2n h1_3n h1_4n h2 h3 h4 h5_0 hj hJ K hK => ?_) (fun h1_0 h1_1 h1_2n h1_3n h1_4n h2 h3 h4 h5_0 hJ => ?_) 0 _ _ _ _ _ _ _ _ _ (Nat.zero_le _) ⟨kn, sm, rfl, rfl, rfl, rfl, rfl, rfl, rfl, rfl, rfl, hkn, hsm, rfl⟩
  · obtain ⟨kn1, sm1, rfl, rfl, rfl, rfl, rfl, rfl, rfl, rfl, rfl, h1, h2, h3⟩ := hJ
    have hj2 : j < vs.length := by omega
    rw [encP_getD _ _ hj]
    simp only [List.drop_zero, List.headD_cons]
    refine ⟨by omega, by omega, hv j hj hj2 kn1 sm1 h1 h2 _ fun kn2 sm2 g1 g2 => ⟨rfl, rfl, iff_intro (fun h => ⟨trivial, ?_⟩) (fun h => hK _ _ _ _ _ _ _ _ _ ⟨kn2, sm2, rfl, rfl, rfl, rfl, rfl, rfl, rfl, rfl, rfl, g1, g2, any_take hj2 h3 h⟩)⟩⟩
    have := hQ kn2 sm2 g1 g2
    rw [idx_at hj2 h3 h] at this
    exact this
  · obtain ⟨kn1, sm1, rfl, rfl, rfl, rfl, rfl, rfl, rfl, rfl, rfl, h1, h2, h3⟩ := hJ
    rw [hl, List.take_length] at h3
    have := hQ kn1 sm1 h1 h2
    rw [idx_none h3] at this
    exact ⟨trivial, this⟩
theorem contains_2_ok (hl : ix.length = vs.length) (hv : ∀ (j : Nat) (h : j < ix.length) (h' : j < vs.length), Clo l A B f_path_comparer_compare_2 k ix[j] vs[j]) (kn sm : List Int) (hkn : Memo (gtR l) A B kn) (hsm : Memo Tm.eqB A B sm)
    (Q : D → Heap → Prop) (hQ : ∀ kn' sm', Memo (gtR l) A B kn' → Memo Tm.eqB A B sm' → Q (bD (vs.any id)) (hq l A B kn' sm' k)) :
    cl f_slices_ContainsFunc_int [psD ix, .fn f_path_comparer_compare_2 [.ptr (.own 0) 0, .ptr (.own 5) 0]] (hq l A B kn sm k) Q := by
  refine C_slices_ContainsFunc_int_pathcomparercompare2 _ _ _ _ _ _ _ _ _ _ _ ?_
  unfold vc_slices_ContainsFunc_int_pathcomparercompare2
  refine index_2_ok hl hv kn sm hkn hsm _ fun kn2 sm2 g1 g2 => ⟨rfl, rfl, trivial, ?_⟩
  have := hQ kn2 sm2 g1 g2
  rw [← idx_any] at this
  exact this
end
end Go.Proofs.Ytehchnjnbbnkbaa
