/-
  CONTRACTS: the path order of two terms; the law's helpers.
-/
import Derived.Test.YtehchnjnbbnkbaaNodeD
set_option linter.unusedVariables false
set_option linter.unusedSimpArgs false
namespace Go.Proofs.Ytehchnjnbbnkbaa
open Go.Abs

theorem zeroRow_eq (n : Nat) : zeroRow [.int .u8] n = encP (List.replicate n 0) := by
  unfold zeroRow encP
  rw [List.map_replicate]
  rfl
theorem memo_start (p : Tm → Tm → Bool) (A B : List Nd) : Memo p A B (List.replicate (A.length * B.length) 0) := by
  refine ⟨List.length_replicate .., fun i k x y hx hy => ⟨0, ?_, .inl rfl⟩⟩
  have hi := (List.getElem?_eq_some_iff.1 hx).1
  have hk := (List.getElem?_eq_some_iff.1 hy).1
  rw [List.getElem?_replicate, if_pos (cell_lt hi hk)]
theorem formed_var {t : Tm} (h : t.formed = true) (hv : t.var = true) : t.args = [] := by
  rw [Tm.formed_eq, hv, if_pos rfl] at h
  simp only [Bool.and_eq_true, List.isEmpty_iff] at h
  exact h.2

theorem path_Above_ok (l : Rks) (s t : Tm) (hs : Sorted l) (hn : l.length ≤ 256) (hsf : s.formed = true) (hss : s.size ≤ 4000) (hts : t.size ≤ 4000) : Fn f_path_Above [rksD l, tD s, tD t] (bD (gtR l s t)) := fun Q hQ => by
  refine C_path_Above _ _ _ _ _ _ _ _ ?_
  unfold vc_path_Above
  have hlim := lim_eq
  have hG : Good [] := fun i n h => by simp at h
  have hA := ends_nds s [] hG
  simp only [List.nil_append, List.length_nil] at hA
  generalize hAe : nds 0 s = A at hA
  have hAl : A.length = 0 + s.size := hA.len
  refine ⟨.v (.sl t_path_node) (.l (encN A)), path_nodes_nil_ok s (by omega) _ fun C hC => ⟨?_, rfl⟩, ?_⟩
  · have := hC.eq
    rw [List.nil_append] at this
    rw [this, List.length_nil, hAe]; rfl
  refine path_nodes_ok t [] hG (by show 0 + _ ≤ _; omega) _ fun B hBe => ⟨rfl, rfl, ?_⟩
  have hBl : B.length = 0 + t.size := hBe.len
  have hprod : A.length * B.length ≤ 4000 * 4000 := Nat.mul_le_mul (by omega) (by omega)
  have hAe2 := encN_length A
  have hBe2 := encN_length B
  have hpa := Tm.size_pos s
  have hpb := Tm.size_pos t
  show (encN B).length = B.length ∧ 0 ≤ IntKind.i64.wrap (((encN A).length : Int) * (((B.length : Nat)) : Int)) ∧ _ ∧ IntKind.i64.wrap (((encN A).length : Int) * (((B.length : Nat)) : Int)) ≤ lim ∧ (encN B).length = B.length ∧ 0 ≤ IntKind.i64.wrap (((encN A).length : Int) * (((B.length : Nat)) : Int)) ∧ _ ∧ IntKind.i64.wrap (((encN A).length : Int) * (((B.length : Nat)) : Int)) ≤ lim ∧ ((encN A).length ≤ big → (encN B).length = B.length ∧ (B.length ≤ big →
    cl f_path_comparer_greater [.ptr (.own 0) 0, .v (.int .i64) (V.i (IntKind.i64.wrap (((encN A).length : Int) - (1 : Int)))), .v (.int .i64) (V.i (IntKind.i64.wrap ((((B.length : Nat) : Int)) - (1 : Int))))] [.cells [.v (.sl t_Rank) (V.l (encRks l)), .v (.sl t_path_node) (.l (encN A)), .osl (.own 1) B.length, .osl (.own 2) (IntKind.i64.wrap (((encN A).length : Int) * (((B.length : Nat)) : Int))).toNat, .osl (.own 3) (IntKind.i64.wrap (((encN A).length : Int) * (((B.length : Nat)) : Int))).toNat], .row t_path_node (encN B), .row t_uint8 (zeroRow [.int .u8] (IntKind.i64.wrap (((encN A).length : Int) * (((B.length : Nat)) : Int))).toNat), .row t_uint8 (zeroRow [.int .u8] (IntKind.i64.wrap (((encN A).length : Int) * (((B.length : Nat)) : Int))).toNat)] _))
  have ep : IntKind.i64.wrap (((encN A).length : Int) * (((B.length : Nat)) : Int)) = ((A.length * B.length : Nat) : Int) := by
    rw [hAe2, ← Int.natCast_mul, wrap_in _ (by omega) (by omega)]
  rw [ep]
  refine ⟨hBe2, by omega, rfl, by omega, hBe2, by omega, rfl, by omega, fun _ => ⟨hBe2, fun _ => ?_⟩⟩
  rw [wrap_in _ (by omega) (by omega), wrap_in _ (by omega) (by omega), Int.toNat_natCast, zeroRow_eq]
  obtain ⟨x, hx, hxt⟩ := hA.last
  obtain ⟨y, hy, hyt⟩ := hBe.last
  have e1 : ((encN A).length : Int) - 1 = ((A.length - 1 : Nat) : Int) := by omega
  have e2 : ((B.length : Nat) : Int) - 1 = ((B.length - 1 : Nat) : Int) := by omega
  rw [e1, e2]
  have hvA : ∀ x ∈ A, x.tm.var = true → x.tm.args = [] := fun z hz hv => by
    rcases hA.fm hsf z hz with h | h
    · cases h
    · exact formed_var h hv
  have g := greater_ok hs hn hA.good hBe.good (by omega) hvA _ _ _ (Nat.lt_succ_self _) x y _ _ hx hy (memo_start _ A B) (memo_start _ A B)
  have el : (List.replicate (A.length * B.length) (0 : Int)).length = A.length * B.length := List.length_replicate ..
  unfold hp at g
  rw [el] at g
  refine g _ fun kn sm h1 h2 => ⟨rfl, rfl, trivial, ?_⟩
  rw [hxt, hyt]
  exact hQ

/-- The error, and the answer of the order. -/
def grErr (l : Rks) (s t : Tm) : Int := if rkErr l ≠ 0 then rkErr l else Tm.checkAll [s, t]
noncomputable def gr (l : Rks) (s t : Tm) : Bool := decide (grErr l s t = 0) && gtR l s t
theorem check_two {s t : Tm} (h : Tm.checkAll [s, t] = 0) : s.check = 0 ∧ t.check = 0 := by
  rw [Tm.checkAll_zero] at h
  exact ⟨h s (by simp), h t (by simp)⟩
theorem enc_two (s t : Tm) : [[V.s s.name, V.b s.var, V.l (Tm.encL s.args)], [V.s t.name, V.b t.var, V.l (Tm.encL t.args)]] = Tm.encL [s, t] := by
  rw [← Tm.enc_eq s, ← Tm.enc_eq t]; rfl
theorem path_Greater_ok (l : Rks) (s t : Tm) (hs : s.size ≤ small) (ht : t.size ≤ small) : Fn f_path_Greater [rksD l, tD s, tD t] (.tup [bD (gr l s t), iD (grErr l s t)]) := fun Q hQ => by
  refine C_path_Greater _ _ _ _ _ _ _ _ ?_
  unfold vc_path_Greater
  unfold gr grErr at hQ
  refine path_Check_ok l _ ⟨rfl, rfl, iff_bne (fun h => ⟨⟨trivial, trivial, trivial⟩, ?_⟩) (fun h => ?_)⟩
  · have h : rkErr l ≠ 0 := h
    rw [if_pos h, decide_eq_false h] at hQ
    exact hQ
  have h : rkErr l = 0 := h
  rw [if_neg (by simp [h])] at hQ
  rw [enc_two]
  refine term_All_ok [s, t] (fun x hx => ?_) _ ⟨rfl, rfl, iff_bne (fun h2 => ⟨⟨trivial, trivial, trivial⟩, ?_⟩) (fun h2 => ?_)⟩
  · rcases List.mem_cons.1 hx with rfl | hx
    · exact hs
    · rw [List.mem_singleton.1 hx]; exact ht
  · have h2 : Tm.checkAll [s, t] ≠ 0 := h2
    rw [decide_eq_false h2] at hQ
    exact hQ
  have h2 : Tm.checkAll [s, t] = 0 := h2
  obtain ⟨h3, h4⟩ := check_two h2
  rw [Tm.check_zero] at h3 h4
  obtain ⟨g1, g2⟩ := listed_zero (rkErr_zero h).1
  rw [h2, decide_eq_true rfl, Bool.true_and] at hQ
  exact path_Above_ok l s t (sorted_of g2) g1 h3.1 h3.2.1 h4.2.1 _ ⟨rfl, rfl, ⟨trivial, trivial, trivial⟩, hQ⟩

theorem l06_greater_ok (l : Rks) (s t : Tm) (hs : s.size ≤ small) (ht : t.size ≤ small) : Fn f_l06_greater [rksD l, tD s, tD t] (bD (gr l s t)) := fun Q hQ => by
  refine C_l06_greater _ _ _ _ _ _ _ _ ?_
  unfold vc_l06_greater
  refine path_Greater_ok l s t hs ht _ ⟨rfl, rfl, iff_beq (fun h => ⟨trivial, hQ⟩) (fun h => ⟨trivial, ?_⟩)⟩
  have h : grErr l s t ≠ 0 := h
  unfold gr at hQ
  rw [decide_eq_false h] at hQ
  exact hQ
theorem l06_variable_ok (x : ByteArray) : Fn f_l06_variable [sD x] (tD (.mk x true [])) := Fn.as fun Q hQ => by
  refine C_l06_variable _ _ ?_
  unfold vc_l06_variable
  exact ⟨⟨trivial, trivial, trivial, trivial⟩, hQ _ (.last3 _ _ _)⟩
theorem l06_symbol_ok (x : ByteArray) (l : List Tm) : Fn f_l06_symbol [sD x, tsD l] (tD (.mk x false l)) := fun Q hQ => by
  refine C_l06_symbol _ _ _ ?_
  unfold vc_l06_symbol
  exact ⟨⟨trivial, trivial, trivial, trivial⟩, hQ⟩

/-! The chapter's example -/
def bAdd : ByteArray := ByteArray.mk #[97, 100, 100]
def bS : ByteArray := ByteArray.mk #[115]
def exL : Rks := [⟨bAdd, 2, 0⟩, ⟨bS, 1, 0⟩]
def exX : Tm := .mk (ByteArray.mk #[120]) true []
def exY : Tm := .mk (ByteArray.mk #[121]) true []
def exS : Tm := .mk bAdd false [.mk bS false [exX], exY]
def exT : Tm := .mk bS false [.mk bAdd false [exX, exY]]
theorem ex_err1 : grErr exL exS exT = 0 := by decide
theorem ex_err2 : grErr exL exT exS = 0 := by decide
theorem ex_gt : Gt (rankOf exL) exS exT := by
  have hx : Gt (rankOf exL) exS exX := .sub _ _ (.mk bS false [exX]) rfl (by simp [exS, Tm.args]) (.arg _ _ rfl (by simp [Tm.args]))
  have hy : Gt (rankOf exL) exS exY := .arg _ _ rfl (by simp [exS, Tm.args])
  refine .prec _ _ rfl rfl (by decide) fun b hb => ?_
  have hb : b ∈ [Tm.mk bAdd false [exX, exY]] := hb
  rw [List.mem_singleton.1 hb]
  refine .lex _ _ (.mk bS false [exX]) exX 0 rfl rfl rfl rfl (fun c hc => ?_) rfl rfl rfl (.arg _ _ rfl (by simp [Tm.args]))
  have hc : c ∈ [exX, exY] := hc
  rcases List.mem_cons.1 hc with rfl | hc
  · exact hx
  · rw [List.mem_singleton.1 hc]; exact hy
theorem ex_gr1 : gr exL exS exT = true := by unfold gr; rw [decide_eq_true ex_err1, Bool.true_and]; exact gtB_true.2 ex_gt
theorem ex_gr2 : gr exL exT exS = false := by unfold gr; rw [decide_eq_true ex_err2, Bool.true_and]; exact gtB_false.2 ex_gt.asymm
end Go.Proofs.Ytehchnjnbbnkbaa
