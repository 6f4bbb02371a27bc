import Derived.Test.YtgohjdaepcmonaaT
set_option linter.unusedVariables false
set_option maxRecDepth 100000
namespace Go.Proofs.Ytgohjdaepcmonaa
open Go.Abs
def adj_r01_Equal : List (Nat × List Adj) := []
def cut_r01_Equal : CutT := []
def lit_r01_Equal : List Nat := []
def frz_r01_Equal : List (Nat × List Frz) := []
def jns_r01_Equal : List Nat := []
def vc_r01_Equal (a0_0 : ByteArray) (a0_1 : Bool) (a0_2 : List (List V)) (a1_0 : ByteArray) (a1_1 : Bool) (a1_2 : List (List V)) (Q : D → Heap → Prop) : Prop :=
  cl f_r01_Compare [.agg [.v .str (V.s a0_0), .v .bool (V.b a0_1), .v (.sl t_Term) (V.l a0_2)], .agg [.v .str (V.s a1_0), .v .bool (V.b a1_1), .v (.sl t_Term) (V.l a1_2)]] [] fun r1 H2 => r1 = (.v (.int .i64) (r1.V)) ∧ H2 = [] ∧ True ∧ Q (.v .bool (V.b (r1.V.int == (0 : Int)))) []
theorem C_r01_Equal (a0_0 : ByteArray) (a0_1 : Bool) (a0_2 : List (List V)) (a1_0 : ByteArray) (a1_1 : Bool) (a1_2 : List (List V)) (Q : D → Heap → Prop) (h : vc_r01_Equal a0_0 a0_1 a0_2 a1_0 a1_1 a1_2 Q) : cl f_r01_Equal [.agg [.v .str (V.s a0_0), .v .bool (V.b a0_1), .v (.sl t_Term) (V.l a0_2)], .agg [.v .str (V.s a1_0), .v .bool (V.b a1_1), .v (.sl t_Term) (V.l a1_2)]] [] Q :=
  acalls_of_fn (envOk adj_r01_Equal cut_r01_Equal lit_r01_Equal frz_r01_Equal jns_r01_Equal) 0 Try.func17 (by rw [show evFn (envA adj_r01_Equal cut_r01_Equal lit_r01_Equal frz_r01_Equal jns_r01_Equal) Try.f17 0 [.agg [.v .str (V.s a0_0), .v .bool (V.b a0_1), .v (.sl t_Term) (V.l a0_2)], .agg [.v .str (V.s a1_0), .v .bool (V.b a1_1), .v (.sl t_Term) (V.l a1_2)]] [] Q = vc_r01_Equal a0_0 a0_1 a0_2 a1_0 a1_1 a1_2 Q from by kernel_rfl]; exact h)
def adj_r01_Check : List (Nat × List Adj) := []
def cut_r01_Check : CutT := []
def lit_r01_Check : List Nat := []
def frz_r01_Check : List (Nat × List Frz) := []
def jns_r01_Check : List Nat := []
def vc_r01_Check (a0_0 : ByteArray) (a0_1 : Bool) (a0_2 : List (List V)) (Q : D → Heap → Prop) : Prop :=
  cl f_r01_Formed [.agg [.v .str (V.s a0_0), .v .bool (V.b a0_1), .v (.sl t_Term) (V.l a0_2)]] [] fun r1 H2 => r1 = (.v .bool (r1.V)) ∧ H2 = [] ∧ iff (!r1.V.bool) (True ∧ Q (.v (.int .i64) (V.i 4)) []) (cl f_r01_Size [.agg [.v .str (V.s a0_0), .v .bool (V.b a0_1), .v (.sl t_Term) (V.l a0_2)]] [] fun r3 H4 => r3 = (.v (.int .i64) (r3.V)) ∧ H4 = [] ∧ iff (decide (r3.V.int > (4000 : Int))) (True ∧ Q (.v (.int .i64) (V.i 3)) []) (cl f_r01_Depth [.agg [.v .str (V.s a0_0), .v .bool (V.b a0_1), .v (.sl t_Term) (V.l a0_2)]] [] fun r5 H6 => r5 = (.v (.int .i64) (r5.V)) ∧ H6 = [] ∧ iff (decide (r5.V.int > (200 : Int))) (True ∧ Q (.v (.int .i64) (V.i 3)) []) (True ∧ Q (.v (.int .i64) (V.i 0)) [])))
theorem C_r01_Check (a0_0 : ByteArray) (a0_1 : Bool) (a0_2 : List (List V)) (Q : D → Heap → Prop) (h : vc_r01_Check a0_0 a0_1 a0_2 Q) : cl f_r01_Check [.agg [.v .str (V.s a0_0), .v .bool (V.b a0_1), .v (.sl t_Term) (V.l a0_2)]] [] Q :=
  acalls_of_fn (envOk adj_r01_Check cut_r01_Check lit_r01_Check frz_r01_Check jns_r01_Check) 0 Try.func19 (by rw [show evFn (envA adj_r01_Check cut_r01_Check lit_r01_Check frz_r01_Check jns_r01_Check) Try.f19 0 [.agg [.v .str (V.s a0_0), .v .bool (V.b a0_1), .v (.sl t_Term) (V.l a0_2)]] [] Q = vc_r01_Check a0_0 a0_1 a0_2 Q from by kernel_rfl]; exact h)
def adj_r01_Image : List (Nat × List Adj) := [(2, [.undef 0, .undef 6, .undef 10, .undef 11, .undef 12, .undef 13, .undef 14, .undef 15, .undef 16, .undef 17, .undef 18, .undef 19, .dead 6])]
def cut_r01_Image : CutT := []
def lit_r01_Image : List Nat := []
def frz_r01_Image : List (Nat × List Frz) := []
def jns_r01_Image : List Nat := []
def env_r01_Image : Env := envA adj_r01_Image cut_r01_Image lit_r01_Image frz_r01_Image jns_r01_Image
@[irreducible] def lp_r01_Image_0 (Q : D → Heap → Prop) (m0 : Nat) (x1 : ByteArray) (x7 : List (List V)) (x8 : Int) (x9 : Int) (y4_0 : ByteArray) (y4_1 : Bool) : Prop :=
  iter (adj (adjLook adj_r01_Image 2)) (evCode env_r01_Image (fnAt [1, 0, 1, 0, 0] Try.f23)) (blockK 0 (seqK (adj (adjLook adj_r01_Image (3000000 + key (fnAt [1, 1] Try.f23)))) (joinIf (env_r01_Image.join (key (fnAt [1, 1] Try.f23))) (evCode env_r01_Image (fnAt [1, 1] Try.f23))) (endK env_r01_Image Try.f23 Q))) m0 ⟨[.undef, .v .str (V.s x1), .skip, .skip, .ptr (.loc 4) 0, .skip, .undef, .v (.sl t_Bind) (V.l x7), .v (.int .i64) (V.i x8), .v (.int .i64) (V.i x9), .undef, .undef, .undef, .undef, .undef, .undef, .undef, .undef, .undef, .undef, .skip, .skip], [.dead, .dead, .dead, .dead, .cells [.v .str (V.s y4_0), .v .bool (V.b y4_1), .nil], .dead, .dead, .dead, .dead, .dead, .dead, .dead, .dead, .dead, .dead, .dead, .dead, .dead, .dead, .dead, .dead, .dead]⟩ []
def st_r01_Image_0 (Q : D → Heap → Prop) (m0 : Nat) (x1 : ByteArray) (x7 : List (List V)) (x8 : Int) (x9 : Int) (y4_0 : ByteArray) (y4_1 : Bool) : Prop :=
  iff (decide (x9 < x8)) (0 ≤ x9 ∧ x9 < x7.length ∧ iff (((((x7.getD x9.toNat []).drop 0).headD V.none).str).toList == x1.toList) ((True ∧ True ∧ True ∧ True) ∧ Q (.agg [.v .str ((((x7.getD x9.toNat []).drop 0).tail).headD V.none), .v .bool (((((x7.getD x9.toNat []).drop 0).tail).tail).headD V.none), .v (.sl t_Term) ((((((x7.getD x9.toNat []).drop 0).tail).tail).tail).headD V.none)]) []) (lp_r01_Image_0 Q m0 x1 x7 x8 (IntKind.i64.wrap (x9 + (1 : Int))) y4_0 y4_1)) ((True ∧ True ∧ True ∧ True) ∧ Q (.agg [.v .str (V.s x1), .v .bool (V.b true), .nil]) [])
theorem lp_r01_Image_0_s (Q : D → Heap → Prop) (m0 : Nat) (x1 : ByteArray) (x7 : List (List V)) (x8 : Int) (x9 : Int) (y4_0 : ByteArray) (y4_1 : Bool) : lp_r01_Image_0 Q (m0 + 1) x1 x7 x8 x9 y4_0 y4_1 = st_r01_Image_0 Q m0 x1 x7 x8 x9 y4_0 y4_1 := by kernel_rfl
theorem rule_r01_Image_0 (Q : D → Heap → Prop) (I : ByteArray → List (List V) → Int → Int → ByteArray → Bool → Prop) (μ : ByteArray → List (List V) → Int → Int → ByteArray → Bool → Nat)
    (hs : ∀ (x1 : ByteArray) (x7 : List (List V)) (x8 : Int) (x9 : Int) (y4_0 : ByteArray) (y4_1 : Bool), I x1 x7 x8 x9 y4_0 y4_1 → ∀ m0 : Nat, (∀ (x1' : ByteArray) (x7' : List (List V)) (x8' : Int) (x9' : Int) (y4_0' : ByteArray) (y4_1' : Bool), I x1' x7' x8' x9' y4_0' y4_1' → μ x1' x7' x8' x9' y4_0' y4_1' < μ x1 x7 x8 x9 y4_0 y4_1 → lp_r01_Image_0 Q m0 x1' x7' x8' x9' y4_0' y4_1') → st_r01_Image_0 Q m0 x1 x7 x8 x9 y4_0 y4_1) :
    ∀ (x1 : ByteArray) (x7 : List (List V)) (x8 : Int) (x9 : Int) (y4_0 : ByteArray) (y4_1 : Bool), I x1 x7 x8 x9 y4_0 y4_1 → ∃ m0, lp_r01_Image_0 Q m0 x1 x7 x8 x9 y4_0 y4_1 := by
  have key : ∀ (n : Nat) (x1 : ByteArray) (x7 : List (List V)) (x8 : Int) (x9 : Int) (y4_0 : ByteArray) (y4_1 : Bool), μ x1 x7 x8 x9 y4_0 y4_1 < n → I x1 x7 x8 x9 y4_0 y4_1 → lp_r01_Image_0 Q n x1 x7 x8 x9 y4_0 y4_1 := by
    intro n
    induction n with
    | zero => intro x1 x7 x8 x9 y4_0 y4_1 hm; exact absurd hm (Nat.not_lt_zero _)
    | succ n ih =>
      intro x1 x7 x8 x9 y4_0 y4_1 hm hi
      rw [lp_r01_Image_0_s]
      exact hs x1 x7 x8 x9 y4_0 y4_1 hi n fun x1' x7' x8' x9' y4_0' y4_1' hq hlt => ih x1' x7' x8' x9' y4_0' y4_1' (Nat.lt_of_lt_of_le hlt (Nat.le_of_lt_succ hm)) hq
  intro x1 x7 x8 x9 y4_0 y4_1 hi
  exact ⟨μ x1 x7 x8 x9 y4_0 y4_1 + 1, key _ x1 x7 x8 x9 y4_0 y4_1 (Nat.lt_succ_self _) hi⟩
theorem range_r01_Image_0 (Q : D → Heap → Prop) (x1 : ByteArray) (x7 : List (List V)) (y4_0 : ByteArray) (y4_1 : Bool) (n : Nat) (hb : n ≤ big) (J : Nat → Prop)
    (step : ∀ (k : Nat), k < n → J k → ∀ K : Prop, (J (k + 1) → K) → (0 ≤ (k : Int) ∧ (k : Int) < x7.length ∧ iff (((((x7.getD k []).drop 0).headD V.none).str).toList == x1.toList) ((True ∧ True ∧ True ∧ True) ∧ Q (.agg [.v .str ((((x7.getD k []).drop 0).tail).headD V.none), .v .bool (((((x7.getD k []).drop 0).tail).tail).headD V.none), .v (.sl t_Term) ((((((x7.getD k []).drop 0).tail).tail).tail).headD V.none)]) []) (K)))
    (last : J n → ((True ∧ True ∧ True ∧ True) ∧ Q (.agg [.v .str (V.s x1), .v .bool (V.b true), .nil]) []))
    (k : Nat) (le0 : k ≤ n) (hj : J k) : ∃ m0, lp_r01_Image_0 Q m0 x1 x7 (n : Int) ((k : Int)) y4_0 y4_1 := by
  refine rule_r01_Image_0 Q (fun x1' x7' x8' x9' y4_0' y4_1' => x1 = x1' ∧ x7 = x7' ∧ (n : Int) = x8' ∧ y4_0 = y4_0' ∧ y4_1 = y4_1' ∧ ∃ k : Nat, (k : Int) = x9' ∧ k ≤ n ∧ J k) (fun x1' x7' x8' x9' y4_0' y4_1' => (n : Int).toNat - x9'.toNat) ?_ x1 x7 ((n : Int)) ((k : Int)) y4_0 y4_1 ⟨rfl, rfl, rfl, rfl, rfl, k, rfl, le0, hj⟩
  rintro x1' x7' x8' x9' y4_0' y4_1' ⟨rfl, rfl, rfl, rfl, rfl, k', rfl, hk, hj⟩ m hi
  have key : ∀ (b : Bool), b = decide ((k' : Int) < (n : Int)) → b = decide (k' < n) := fun b h => by rw [h]; simp
  by_cases hlt : k' < n
  · have hlt2 : (k' : Int) < (n : Int) := by omega
    have hw : IntKind.i64.wrap ((k' : Int) + (1 : Int)) = ((k' + 1 : Nat) : Int) := wrap_next k' (Nat.lt_of_lt_of_le hlt hb)
    refine iff_yes (decide_eq_true hlt2) ?_
    refine step k' hlt hj (lp_r01_Image_0 Q m x1 x7 (n : Int) (IntKind.i64.wrap ((k' : Int) + (1 : Int))) y4_0 y4_1) (fun h => ?_)
    show lp_r01_Image_0 Q m x1 x7 (n : Int) (IntKind.i64.wrap ((k' : Int) + (1 : Int))) y4_0 y4_1
    rw [hw]
    exact hi x1 x7 ((n : Int)) (((k' + 1 : Nat) : Int)) y4_0 y4_1 ⟨rfl, rfl, rfl, rfl, rfl, k' + 1, rfl, hlt, h⟩ (by simp only [Int.toNat_natCast]; omega)
  · have he : k' = n := Nat.le_antisymm hk (Nat.le_of_not_lt hlt)
    subst he
    exact iff_no (decide_eq_false (by omega)) (last hj)
def vc_r01_Image (a0 : List (List V)) (a1 : ByteArray) (Q : D → Heap → Prop) : Prop :=
  (a0.length ≤ big → ∃ m0, lp_r01_Image_0 Q m0 a1 a0 ((a0.length : Int)) 0 (ByteArray.mk #[]) false)
theorem C_r01_Image (a0 : List (List V)) (a1 : ByteArray) (Q : D → Heap → Prop) (h : vc_r01_Image a0 a1 Q) : cl f_r01_Image [.v (.sl t_Bind) (V.l a0), .v .str (V.s a1)] [] Q :=
  acalls_of_fn (envOk adj_r01_Image cut_r01_Image lit_r01_Image frz_r01_Image jns_r01_Image) 0 Try.func23 (by rw [show evFn (envA adj_r01_Image cut_r01_Image lit_r01_Image frz_r01_Image jns_r01_Image) Try.f23 0 [.v (.sl t_Bind) (V.l a0), .v .str (V.s a1)] [] Q = vc_r01_Image a0 a1 Q from by kernel_rfl]; exact h)
def adj_term_All : List (Nat × List Adj) := [(2, [.undef 0, .undef 2, .undef 4, .undef 5, .undef 9, .undef 10, .undef 11, .undef 12, .undef 13, .undef 14, .undef 15, .undef 16, .undef 17, .dead 4, .dead 13])]
def cut_term_All : CutT := []
def lit_term_All : List Nat := []
def frz_term_All : List (Nat × List Frz) := []
def jns_term_All : List Nat := []
def env_term_All : Env := envA adj_term_All cut_term_All lit_term_All frz_term_All jns_term_All
@[irreducible] def lp_term_All_0 (Q : D → Heap → Prop) (m0 : Nat) (x6 : List (List V)) (x7 : Int) (x8 : Int) : Prop :=
  iter (adj (adjLook adj_term_All 2)) (evCode env_term_All (fnAt [1, 0, 1, 0, 0] Try.f25)) (blockK 0 (seqK (adj (adjLook adj_term_All (3000000 + key (fnAt [1, 1] Try.f25)))) (joinIf (env_term_All.join (key (fnAt [1, 1] Try.f25))) (evCode env_term_All (fnAt [1, 1] Try.f25))) (endK env_term_All Try.f25 Q))) m0 ⟨[.undef, .skip, .undef, .skip, .undef, .undef, .v (.sl t_Term) (V.l x6), .v (.int .i64) (V.i x7), .v (.int .i64) (V.i x8), .undef, .undef, .undef, .undef, .undef, .undef, .undef, .undef, .undef], [.dead, .dead, .dead, .dead, .dead, .dead, .dead, .dead, .dead, .dead, .dead, .dead, .dead, .dead, .dead, .dead, .dead, .dead]⟩ []
def st_term_All_0 (Q : D → Heap → Prop) (m0 : Nat) (x6 : List (List V)) (x7 : Int) (x8 : Int) : Prop :=
  iff (decide (x8 < x7)) (0 ≤ x8 ∧ x8 < x6.length ∧ cl f_term_Check [.agg [.v .str (((x6.getD x8.toNat []).drop 0).headD V.none), .v .bool ((((x6.getD x8.toNat []).drop 0).tail).headD V.none), .v (.sl t_Term) (((((x6.getD x8.toNat []).drop 0).tail).tail).headD V.none)]] [] fun r1 H2 => r1 = (.v (.int .i64) (r1.V)) ∧ H2 = [] ∧ iff (r1.V.int != (0 : Int)) (True ∧ Q (.v (.int .i64) (r1.V)) []) (lp_term_All_0 Q m0 x6 x7 (IntKind.i64.wrap (x8 + (1 : Int))))) (True ∧ Q (.v (.int .i64) (V.i 0)) [])
theorem lp_term_All_0_s (Q : D → Heap → Prop) (m0 : Nat) (x6 : List (List V)) (x7 : Int) (x8 : Int) : lp_term_All_0 Q (m0 + 1) x6 x7 x8 = st_term_All_0 Q m0 x6 x7 x8 := by kernel_rfl
theorem rule_term_All_0 (Q : D → Heap → Prop) (I : List (List V) → Int → Int → Prop) (μ : List (List V) → Int → Int → Nat)
    (hs : ∀ (x6 : List (List V)) (x7 : Int) (x8 : Int), I x6 x7 x8 → ∀ m0 : Nat, (∀ (x6' : List (List V)) (x7' : Int) (x8' : Int), I x6' x7' x8' → μ x6' x7' x8' < μ x6 x7 x8 → lp_term_All_0 Q m0 x6' x7' x8') → st_term_All_0 Q m0 x6 x7 x8) :
    ∀ (x6 : List (List V)) (x7 : Int) (x8 : Int), I x6 x7 x8 → ∃ m0, lp_term_All_0 Q m0 x6 x7 x8 := by
  have key : ∀ (n : Nat) (x6 : List (List V)) (x7 : Int) (x8 : Int), μ x6 x7 x8 < n → I x6 x7 x8 → lp_term_All_0 Q n x6 x7 x8 := by
    intro n
    induction n with
    | zero => intro x6 x7 x8 hm; exact absurd hm (Nat.not_lt_zero _)
    | succ n ih =>
      intro x6 x7 x8 hm hi
      rw [lp_term_All_0_s]
      exact hs x6 x7 x8 hi n fun x6' x7' x8' hq hlt => ih x6' x7' x8' (Nat.lt_of_lt_of_le hlt (Nat.le_of_lt_succ hm)) hq
  intro x6 x7 x8 hi
  exact ⟨μ x6 x7 x8 + 1, key _ x6 x7 x8 (Nat.lt_succ_self _) hi⟩
theorem range_term_All_0 (Q : D → Heap → Prop) (x6 : List (List V)) (n : Nat) (hb : n ≤ big) (J : Nat → Prop)
    (step : ∀ (k : Nat), k < n → J k → ∀ K : Prop, (J (k + 1) → K) → (0 ≤ (k : Int) ∧ (k : Int) < x6.length ∧ cl f_term_Check [.agg [.v .str (((x6.getD k []).drop 0).headD V.none), .v .bool ((((x6.getD k []).drop 0).tail).headD V.none), .v (.sl t_Term) (((((x6.getD k []).drop 0).tail).tail).headD V.none)]] [] fun r1 H2 => r1 = (.v (.int .i64) (r1.V)) ∧ H2 = [] ∧ iff (r1.V.int != (0 : Int)) (True ∧ Q (.v (.int .i64) (r1.V)) []) (K)))
    (last : J n → (True ∧ Q (.v (.int .i64) (V.i 0)) []))
    (k : Nat) (le0 : k ≤ n) (hj : J k) : ∃ m0, lp_term_All_0 Q m0 x6 (n : Int) ((k : Int)) := by
  refine rule_term_All_0 Q (fun x6' x7' x8' => x6 = x6' ∧ (n : Int) = x7' ∧ ∃ k : Nat, (k : Int) = x8' ∧ k ≤ n ∧ J k) (fun x6' x7' x8' => (n : Int).toNat - x8'.toNat) ?_ x6 ((n : Int)) ((k : Int)) ⟨rfl, rfl, k, rfl, le0, hj⟩
  rintro x6' x7' x8' ⟨rfl, rfl, k', rfl, hk, hj⟩ m hi
  have key : ∀ (b : Bool), b = decide ((k' : Int) < (n : Int)) → b = decide (k' < n) := fun b h => by rw [h]; simp
  by_cases hlt : k' < n
  · have hlt2 : (k' : Int) < (n : Int) := by omega
    have hw : IntKind.i64.wrap ((k' : Int) + (1 : Int)) = ((k' + 1 : Nat) : Int) := wrap_next k' (Nat.lt_of_lt_of_le hlt hb)
    refine iff_yes (decide_eq_true hlt2) ?_
    refine step k' hlt hj (lp_term_All_0 Q m x6 (n : Int) (IntKind.i64.wrap ((k' : Int) + (1 : Int)))) (fun h => ?_)
    show lp_term_All_0 Q m x6 (n : Int) (IntKind.i64.wrap ((k' : Int) + (1 : Int)))
    rw [hw]
    exact hi x6 ((n : Int)) (((k' + 1 : Nat) : Int)) ⟨rfl, rfl, k' + 1, rfl, hlt, h⟩ (by simp only [Int.toNat_natCast]; omega)
  · have he : k' = n := Nat.le_antisymm hk (Nat.le_of_not_lt hlt)
    subst he
    exact iff_no (decide_eq_false (by omega)) (last hj)
def vc_term_All (a0 : List (List V)) (Q : D → Heap → Prop) : Prop :=
  (a0.length ≤ big → ∃ m0, lp_term_All_0 Q m0 a0 ((a0.length : Int)) 0)
theorem C_term_All (a0 : List (List V)) (Q : D → Heap → Prop) (h : vc_term_All a0 Q) : cl f_term_All [.v (.sl t_Term) (V.l a0)] [] Q :=
  acalls_of_fn (envOk adj_term_All cut_term_All lit_term_All frz_term_All jns_term_All) 0 Try.func25 (by rw [show evFn (envA adj_term_All cut_term_All lit_term_All frz_term_All jns_term_All) Try.f25 0 [.v (.sl t_Term) (V.l a0)] [] Q = vc_term_All a0 Q from by kernel_rfl]; exact h)
def adj_unify_Find : List (Nat × List Adj) := [(4000006, [.ownC 6 0 14 t_Bind])]
def cut_unify_Find : CutT := []
def lit_unify_Find : List Nat := []
def frz_unify_Find : List (Nat × List Frz) := []
def jns_unify_Find : List Nat := []
def vc_unify_Find (a0_0 : ByteArray) (a0_1 : Bool) (a0_2 : List (List V)) (a1_0 : ByteArray) (a1_1 : Bool) (a1_2 : List (List V)) (Q : D → Heap → Prop) : Prop :=
  cl f_unify_matcher_match [.ptr (.own 0) 0, .agg [.v .str (V.s a0_0), .v .bool (V.b a0_1), .v (.sl t_Term) (V.l a0_2)], .agg [.v .str (V.s a1_0), .v .bool (V.b a1_1), .v (.sl t_Term) (V.l a1_2)]] [.cells [.osl (.own 1) 0], .row t_Bind (([] : List (List V)))] fun r1 H2 => r1 = (.v .bool (r1.V)) ∧ H2 = [.cells [.osl (.own 1) ((((H2.headD .dead).cs).headD .undef).len)], .row t_Bind ((H2.tail.headD .dead).xs)] ∧ (((((H2.headD .dead).cs).headD .undef).len = ((H2.tail.headD .dead).xs).length) ∧ True ∧ True) ∧ Q (.tup [.v (.sl t_Bind) (V.l ((H2.tail.headD .dead).xs)), .v .bool (r1.V)]) []
theorem C_unify_Find (a0_0 : ByteArray) (a0_1 : Bool) (a0_2 : List (List V)) (a1_0 : ByteArray) (a1_1 : Bool) (a1_2 : List (List V)) (Q : D → Heap → Prop) (h : vc_unify_Find a0_0 a0_1 a0_2 a1_0 a1_1 a1_2 Q) : cl f_unify_Find [.agg [.v .str (V.s a0_0), .v .bool (V.b a0_1), .v (.sl t_Term) (V.l a0_2)], .agg [.v .str (V.s a1_0), .v .bool (V.b a1_1), .v (.sl t_Term) (V.l a1_2)]] [] Q :=
  acalls_of_fn (envOk adj_unify_Find cut_unify_Find lit_unify_Find frz_unify_Find jns_unify_Find) 1 Try.func26 (by rw [show evFn (envA adj_unify_Find cut_unify_Find lit_unify_Find frz_unify_Find jns_unify_Find) Try.f26 1 [.agg [.v .str (V.s a0_0), .v .bool (V.b a0_1), .v (.sl t_Term) (V.l a0_2)], .agg [.v .str (V.s a1_0), .v .bool (V.b a1_1), .v (.sl t_Term) (V.l a1_2)]] [] Q = vc_unify_Find a0_0 a0_1 a0_2 a1_0 a1_1 a1_2 Q from by kernel_rfl]; exact h)
def adj_term_Own : List (Nat × List Adj) := [(3, [.undef 0, .undef 1, .undef 5, .undef 6, .undef 7, .undef 8, .undef 9, .undef 10, .undef 11, .undef 15, .undef 16, .undef 17, .undef 18, .undef 19, .undef 20, .undef 21, .undef 22, .undef 23, .undef 24, .undef 25, .dead 1, .dead 5, .dead 21, .dead 22, .dead 23, .ownC 3 2 27 t_Term])]
def cut_term_Own : CutT := [(5, 5, [], [])]
def lit_term_Own : List Nat := []
def frz_term_Own : List (Nat × List Frz) := []
def jns_term_Own : List Nat := []
def env_term_Own : Env := envA adj_term_Own cut_term_Own lit_term_Own frz_term_Own jns_term_Own
@[irreducible] def lp_term_Own_0 (Q : D → Heap → Prop) (m0 : Nat) (x12 : List (List V)) (x13 : Int) (x14 : Int) (y2_0 : ByteArray) (y2_1 : Bool) (y3_0 : ByteArray) (y3_1 : Bool) (y3_2n : Nat) (y27 : List (List V)) : Prop :=
  iter (adj (adjLook adj_term_Own 3)) (evCode env_term_Own (fnAt [1, 1, 0, 1, 0, 0] Try.f27)) (blockK 0 (seqK (adj (adjLook adj_term_Own (3000000 + key (fnAt [1, 1, 1] Try.f27)))) (joinIf (env_term_Own.join (key (fnAt [1, 1, 1] Try.f27))) (evCode env_term_Own (fnAt [1, 1, 1] Try.f27))) (endK env_term_Own Try.f27 Q))) m0 ⟨[.undef, .undef, .ptr (.loc 2) 0, .ptr (.loc 3) 0, .skip, .undef, .undef, .undef, .undef, .undef, .undef, .undef, .v (.sl t_Term) (V.l x12), .v (.int .i64) (V.i x13), .v (.int .i64) (V.i x14), .undef, .undef, .undef, .undef, .undef, .undef, .undef, .undef, .undef, .undef, .undef, .skip], [.dead, .dead, .cells [.v .str (V.s y2_0), .v .bool (V.b y2_1), .nil], .cells [.v .str (V.s y3_0), .v .bool (V.b y3_1), .osl (.loc 27) y3_2n], .dead, .dead, .dead, .dead, .dead, .dead, .dead, .dead, .dead, .dead, .dead, .dead, .dead, .dead, .dead, .dead, .dead, .dead, .dead, .dead, .dead, .dead, .dead, .row t_Term y27]⟩ []
def st_term_Own_0 (Q : D → Heap → Prop) (m0 : Nat) (x12 : List (List V)) (x13 : Int) (x14 : Int) (y2_0 : ByteArray) (y2_1 : Bool) (y3_0 : ByteArray) (y3_1 : Bool) (y3_2n : Nat) (y27 : List (List V)) : Prop :=
  iff (decide (x14 < x13)) (0 ≤ x14 ∧ x14 < x12.length ∧ (∃ r1 : D, cl f_term_Own [.agg [.v .str (((x12.getD x14.toNat []).drop 0).headD V.none), .v .bool ((((x12.getD x14.toNat []).drop 0).tail).headD V.none), .v (.sl t_Term) (((((x12.getD x14.toNat []).drop 0).tail).tail).headD V.none)]] [] (fun r H' => r = (.agg [.v .str ((r1.cells.headD .undef).V), .v .bool ((r1.cells.tail.headD .undef).V), .v (.sl t_Term) ((r1.cells.tail.tail.headD .undef).V)]) ∧ H' = []) ∧ y27.length = y3_2n ∧ y3_2n + ([[(r1.cells.headD .undef).V, (r1.cells.tail.headD .undef).V, (r1.cells.tail.tail.headD .undef).V]]).length ≤ lim ∧ lp_term_Own_0 Q m0 x12 x13 (IntKind.i64.wrap (x14 + (1 : Int))) y2_0 y2_1 y3_0 y3_1 (y3_2n + ([[(r1.cells.headD .undef).V, (r1.cells.tail.headD .undef).V, (r1.cells.tail.tail.headD .undef).V]]).length) (y27 ++ ([[(r1.cells.headD .undef).V, (r1.cells.tail.headD .undef).V, (r1.cells.tail.tail.headD .undef).V]])))) ((True ∧ True ∧ (y3_2n = y27.length) ∧ True) ∧ Q (.agg [.v .str (V.s y3_0), .v .bool (V.b y3_1), .v (.sl t_Term) (V.l y27)]) [])
theorem lp_term_Own_0_s (Q : D → Heap → Prop) (m0 : Nat) (x12 : List (List V)) (x13 : Int) (x14 : Int) (y2_0 : ByteArray) (y2_1 : Bool) (y3_0 : ByteArray) (y3_1 : Bool) (y3_2n : Nat) (y27 : List (List V)) : lp_term_Own_0 Q (m0 + 1) x12 x13 x14 y2_0 y2_1 y3_0 y3_1 y3_2n y27 = st_term_Own_0 Q m0 x12 x13 x14 y2_0 y2_1 y3_0 y3_1 y3_2n y27 := by kernel_rfl
theorem rule_term_Own_0 (Q : D → Heap → Prop) (I : List (List V) → Int → Int → ByteArray → Bool → ByteArray → Bool → Nat → List (List V) → Prop) (μ : List (List V) → Int → Int → ByteArray → Bool → ByteArray → Bool → Nat → List (List V) → Nat)
    (hs : ∀ (x12 : List (List V)) (x13 : Int) (x14 : Int) (y2_0 : ByteArray) (y2_1 : Bool) (y3_0 : ByteArray) (y3_1 : Bool) (y3_2n : Nat) (y27 : List (List V)), I x12 x13 x14 y2_0 y2_1 y3_0 y3_1 y3_2n y27 → ∀ m0 : Nat, (∀ (x12' : List (List V)) (x13' : Int) (x14' : Int) (y2_0' : ByteArray) (y2_1' : Bool) (y3_0' : ByteArray) (y3_1' : Bool) (y3_2n' : Nat) (y27' : List (List V)), I x12' x13' x14' y2_0' y2_1' y3_0' y3_1' y3_2n' y27' → μ x12' x13' x14' y2_0' y2_1' y3_0' y3_1' y3_2n' y27' < μ x12 x13 x14 y2_0 y2_1 y3_0 y3_1 y3_2n y27 → lp_term_Own_0 Q m0 x12' x13' x14' y2_0' y2_1' y3_0' y3_1' y3_2n' y27') → st_term_Own_0 Q m0 x12 x13 x14 y2_0 y2_1 y3_0 y3_1 y3_2n y27) :
    ∀ (x12 : List (List V)) (x13 : Int) (x14 : Int) (y2_0 : ByteArray) (y2_1 : Bool) (y3_0 : ByteArray) (y3_1 : Bool) (y3_2n : Nat) (y27 : List (List V)), I x12 x13 x14 y2_0 y2_1 y3_0 y3_1 y3_2n y27 → ∃ m0, lp_term_Own_0 Q m0 x12 x13 x14 y2_0 y2_1 y3_0 y3_1 y3_2n y27 := by
  have key : ∀ (n : Nat) (x12 : List (List V)) (x13 : Int) (x14 : Int) (y2_0 : ByteArray) (y2_1 : Bool) (y3_0 : ByteArray) (y3_1 : Bool) (y3_2n : Nat) (y27 : List (List V)), μ x12 x13 x14 y2_0 y2_1 y3_0 y3_1 y3_2n y27 < n → I x12 x13 x14 y2_0 y2_1 y3_0 y3_1 y3_2n y27 → lp_term_Own_0 Q n x12 x13 x14 y2_0 y2_1 y3_0 y3_1 y3_2n y27 := by
    intro n
    induction n with
    | zero => intro x12 x13 x14 y2_0 y2_1 y3_0 y3_1 y3_2n y27 hm; exact absurd hm (Nat.not_lt_zero _)
    | succ n ih =>
      intro x12 x13 x14 y2_0 y2_1 y3_0 y3_1 y3_2n y27 hm hi
      rw [lp_term_Own_0_s]
      exact hs x12 x13 x14 y2_0 y2_1 y3_0 y3_1 y3_2n y27 hi n fun x12' x13' x14' y2_0' y2_1' y3_0' y3_1' y3_2n' y27' hq hlt => ih x12' x13' x14' y2_0' y2_1' y3_0' y3_1' y3_2n' y27' (Nat.lt_of_lt_of_le hlt (Nat.le_of_lt_succ hm)) hq
  intro x12 x13 x14 y2_0 y2_1 y3_0 y3_1 y3_2n y27 hi
  exact ⟨μ x12 x13 x14 y2_0 y2_1 y3_0 y3_1 y3_2n y27 + 1, key _ x12 x13 x14 y2_0 y2_1 y3_0 y3_1 y3_2n y27 (Nat.lt_succ_self _) hi⟩
theorem range_term_Own_0 (Q : D → Heap → Prop) (x12 : List (List V)) (y2_0 : ByteArray) (y2_1 : Bool) (y3_0 : ByteArray) (y3_1 : Bool) (n : Nat) (hb : n ≤ big) (J : Nat → Nat → List (List V) → Prop)
    (step : ∀ (k : Nat) (y3_2n : Nat) (y27 : List (List V)), k < n → J k y3_2n y27 → ∀ K : Nat → List (List V) → Prop, (∀ (y3_2n' : Nat) (y27' : List (List V)), J (k + 1) y3_2n' y27' → K y3_2n' y27') → (0 ≤ (k : Int) ∧ (k : Int) < x12.length ∧ (∃ r1 : D, cl f_term_Own [.agg [.v .str (((x12.getD k []).drop 0).headD V.none), .v .bool ((((x12.getD k []).drop 0).tail).headD V.none), .v (.sl t_Term) (((((x12.getD k []).drop 0).tail).tail).headD V.none)]] [] (fun r H' => r = (.agg [.v .str ((r1.cells.headD .undef).V), .v .bool ((r1.cells.tail.headD .undef).V), .v (.sl t_Term) ((r1.cells.tail.tail.headD .undef).V)]) ∧ H' = []) ∧ y27.length = y3_2n ∧ y3_2n + ([[(r1.cells.headD .undef).V, (r1.cells.tail.headD .undef).V, (r1.cells.tail.tail.headD .undef).V]]).length ≤ lim ∧ K (y3_2n + ([[(r1.cells.headD .undef).V, (r1.cells.tail.headD .undef).V, (r1.cells.tail.tail.headD .undef).V]]).length) (y27 ++ ([[(r1.cells.headD .undef).V, (r1.cells.tail.headD .undef).V, (r1.cells.tail.tail.headD .undef).V]])))))
    (last : ∀ (y3_2n : Nat) (y27 : List (List V)), J n y3_2n y27 → ((True ∧ True ∧ (y3_2n = y27.length) ∧ True) ∧ Q (.agg [.v .str (V.s y3_0), .v .bool (V.b y3_1), .v (.sl t_Term) (V.l y27)]) []))
    (k : Nat) (y3_2n : Nat) (y27 : List (List V)) (le0 : k ≤ n) (hj : J k y3_2n y27) : ∃ m0, lp_term_Own_0 Q m0 x12 (n : Int) ((k : Int)) y2_0 y2_1 y3_0 y3_1 y3_2n y27 := by
  refine rule_term_Own_0 Q (fun x12' x13' x14' y2_0' y2_1' y3_0' y3_1' y3_2n' y27' => x12 = x12' ∧ (n : Int) = x13' ∧ y2_0 = y2_0' ∧ y2_1 = y2_1' ∧ y3_0 = y3_0' ∧ y3_1 = y3_1' ∧ ∃ k : Nat, (k : Int) = x14' ∧ k ≤ n ∧ J k y3_2n' y27') (fun x12' x13' x14' y2_0' y2_1' y3_0' y3_1' y3_2n' y27' => (n : Int).toNat - x14'.toNat) ?_ x12 ((n : Int)) ((k : Int)) y2_0 y2_1 y3_0 y3_1 y3_2n y27 ⟨rfl, rfl, rfl, rfl, rfl, rfl, k, rfl, le0, hj⟩
  rintro x12' x13' x14' y2_0' y2_1' y3_0' y3_1' y3_2n' y27' ⟨rfl, rfl, rfl, rfl, rfl, rfl, k', rfl, hk, hj⟩ m hi
  have key : ∀ (b : Bool), b = decide ((k' : Int) < (n : Int)) → b = decide (k' < n) := fun b h => by rw [h]; simp
  by_cases hlt : k' < n
  · have hlt2 : (k' : Int) < (n : Int) := by omega
    have hw : IntKind.i64.wrap ((k' : Int) + (1 : Int)) = ((k' + 1 : Nat) : Int) := wrap_next k' (Nat.lt_of_lt_of_le hlt hb)
    refine iff_yes (decide_eq_true hlt2) ?_
    refine step k' y3_2n' y27' hlt hj (fun y3_2n'' y27'' => lp_term_Own_0 Q m x12 (n : Int) (IntKind.i64.wrap ((k' : Int) + (1 : Int))) y2_0 y2_1 y3_0 y3_1 y3_2n'' y27'') (fun y3_2n'' y27'' h => ?_)
    show lp_term_Own_0 Q m x12 (n : Int) (IntKind.i64.wrap ((k' : Int) + (1 : Int))) y2_0 y2_1 y3_0 y3_1 y3_2n'' y27''
    rw [hw]
    exact hi x12 ((n : Int)) (((k' + 1 : Nat) : Int)) y2_0 y2_1 y3_0 y3_1 y3_2n'' y27'' ⟨rfl, rfl, rfl, rfl, rfl, rfl, k' + 1, rfl, hlt, h⟩ (by simp only [Int.toNat_natCast]; omega)
  · have he : k' = n := Nat.le_antisymm hk (Nat.le_of_not_lt hlt)
    subst he
    exact iff_no (decide_eq_false (by omega)) (last y3_2n' y27' hj)
def vc_term_Own (a0_0 : ByteArray) (a0_1 : Bool) (a0_2 : List (List V)) (Q : D → Heap → Prop) : Prop :=
  (a0_2.length ≤ big → ∃ m0, lp_term_Own_0 Q m0 a0_2 ((a0_2.length : Int)) 0 (ByteArray.mk #[]) false a0_0 a0_1 0 (([] : List (List V))))
theorem C_term_Own (a0_0 : ByteArray) (a0_1 : Bool) (a0_2 : List (List V)) (Q : D → Heap → Prop) (h : vc_term_Own a0_0 a0_1 a0_2 Q) : cl f_term_Own [.agg [.v .str (V.s a0_0), .v .bool (V.b a0_1), .v (.sl t_Term) (V.l a0_2)]] [] Q :=
  acalls_of_fn (envOk adj_term_Own cut_term_Own lit_term_Own frz_term_Own jns_term_Own) 1 Try.func27 (by rw [show evFn (envA adj_term_Own cut_term_Own lit_term_Own frz_term_Own jns_term_Own) Try.f27 1 [.agg [.v .str (V.s a0_0), .v .bool (V.b a0_1), .v (.sl t_Term) (V.l a0_2)]] [] Q = vc_term_Own a0_0 a0_1 a0_2 Q from by kernel_rfl]; exact h)
def adj_r01_SameSubst : List (Nat × List Adj) := [(4, [.undef 4, .undef 5, .undef 6, .undef 7, .undef 8, .undef 9, .undef 10, .undef 11, .undef 14, .undef 15, .undef 16, .undef 17, .undef 18, .undef 19, .undef 20, .undef 21, .undef 22, .undef 23, .undef 24, .undef 25, .undef 26, .undef 27, .undef 28, .undef 29, .undef 30, .undef 31, .undef 32, .undef 33, .undef 34, .undef 35, .undef 36, .undef 37, .undef 38, .undef 39, .undef 40, .undef 41, .dead 38])]
def cut_r01_SameSubst : CutT := [(6, 22, [], [])]
def lit_r01_SameSubst : List Nat := []
def frz_r01_SameSubst : List (Nat × List Frz) := []
def jns_r01_SameSubst : List Nat := []
def env_r01_SameSubst : Env := envA adj_r01_SameSubst cut_r01_SameSubst lit_r01_SameSubst frz_r01_SameSubst jns_r01_SameSubst
@[irreducible] def lp_r01_SameSubst_0 (Q : D → Heap → Prop) (m0 : Nat) (x0 : List (List V)) (x1 : List (List V)) (x12 : Int) (x13 : Int) : Prop :=
  iter (adj (adjLook adj_r01_SameSubst 4)) (evCode env_r01_SameSubst (fnAt [1, 1, 0, 1, 0, 0] Try.f28)) (blockK 0 (seqK (adj (adjLook adj_r01_SameSubst (3000000 + key (fnAt [1, 1, 1] Try.f28)))) (joinIf (env_r01_SameSubst.join (key (fnAt [1, 1, 1] Try.f28))) (evCode env_r01_SameSubst (fnAt [1, 1, 1] Try.f28))) (endK env_r01_SameSubst Try.f28 Q))) m0 ⟨[.v (.sl t_Bind) (V.l x0), .v (.sl t_Bind) (V.l x1), .skip, .skip, .undef, .undef, .undef, .undef, .undef, .undef, .undef, .undef, .v (.int .i64) (V.i x12), .v (.int .i64) (V.i x13), .undef, .undef, .undef, .undef, .undef, .undef, .undef, .undef, .undef, .undef, .undef, .undef, .undef, .undef, .undef, .undef, .undef, .undef, .undef, .undef, .undef, .undef, .undef, .undef, .undef, .undef, .undef, .undef], [.dead, .dead, .dead, .dead, .dead, .dead, .dead, .dead, .dead, .dead, .dead, .dead, .dead, .dead, .dead, .dead, .dead, .dead, .dead, .dead, .dead, .dead, .dead, .dead, .dead, .dead, .dead, .dead, .dead, .dead, .dead, .dead, .dead, .dead, .dead, .dead, .dead, .dead, .dead, .dead, .dead, .dead]⟩ []
def st_r01_SameSubst_0 (Q : D → Heap → Prop) (m0 : Nat) (x0 : List (List V)) (x1 : List (List V)) (x12 : Int) (x13 : Int) : Prop :=
  iff (decide (x13 < x12)) (0 ≤ x13 ∧ x13 < x0.length ∧ 0 ≤ x13 ∧ x13 < x1.length ∧ iff (!(((((x0.getD x13.toNat []).drop 0).headD V.none).str).toList == ((((x1.getD x13.toNat []).drop 0).headD V.none).str).toList)) (True ∧ Q (.v .bool (V.b false)) []) (0 ≤ x13 ∧ x13 < x0.length ∧ 0 ≤ x13 ∧ x13 < x1.length ∧ cl f_r01_Equal [.agg [.v .str (((x0.getD x13.toNat []).drop 1).headD V.none), .v .bool ((((x0.getD x13.toNat []).drop 1).tail).headD V.none), .v (.sl t_Term) (((((x0.getD x13.toNat []).drop 1).tail).tail).headD V.none)], .agg [.v .str (((x1.getD x13.toNat []).drop 1).headD V.none), .v .bool ((((x1.getD x13.toNat []).drop 1).tail).headD V.none), .v (.sl t_Term) (((((x1.getD x13.toNat []).drop 1).tail).tail).headD V.none)]] [] fun r1 H2 => r1 = (.v .bool (r1.V)) ∧ H2 = [] ∧ iff (!r1.V.bool) (True ∧ Q (.v .bool (V.b false)) []) (lp_r01_SameSubst_0 Q m0 x0 x1 x12 (IntKind.i64.wrap (x13 + (1 : Int)))))) (True ∧ Q (.v .bool (V.b true)) [])
theorem lp_r01_SameSubst_0_s (Q : D → Heap → Prop) (m0 : Nat) (x0 : List (List V)) (x1 : List (List V)) (x12 : Int) (x13 : Int) : lp_r01_SameSubst_0 Q (m0 + 1) x0 x1 x12 x13 = st_r01_SameSubst_0 Q m0 x0 x1 x12 x13 := by kernel_rfl
theorem rule_r01_SameSubst_0 (Q : D → Heap → Prop) (I : List (List V) → List (List V) → Int → Int → Prop) (μ : List (List V) → List (List V) → Int → Int → Nat)
    (hs : ∀ (x0 : List (List V)) (x1 : List (List V)) (x12 : Int) (x13 : Int), I x0 x1 x12 x13 → ∀ m0 : Nat, (∀ (x0' : List (List V)) (x1' : List (List V)) (x12' : Int) (x13' : Int), I x0' x1' x12' x13' → μ x0' x1' x12' x13' < μ x0 x1 x12 x13 → lp_r01_SameSubst_0 Q m0 x0' x1' x12' x13') → st_r01_SameSubst_0 Q m0 x0 x1 x12 x13) :
    ∀ (x0 : List (List V)) (x1 : List (List V)) (x12 : Int) (x13 : Int), I x0 x1 x12 x13 → ∃ m0, lp_r01_SameSubst_0 Q m0 x0 x1 x12 x13 := by
  have key : ∀ (n : Nat) (x0 : List (List V)) (x1 : List (List V)) (x12 : Int) (x13 : Int), μ x0 x1 x12 x13 < n → I x0 x1 x12 x13 → lp_r01_SameSubst_0 Q n x0 x1 x12 x13 := by
    intro n
    induction n with
    | zero => intro x0 x1 x12 x13 hm; exact absurd hm (Nat.not_lt_zero _)
    | succ n ih =>
      intro x0 x1 x12 x13 hm hi
      rw [lp_r01_SameSubst_0_s]
      exact hs x0 x1 x12 x13 hi n fun x0' x1' x12' x13' hq hlt => ih x0' x1' x12' x13' (Nat.lt_of_lt_of_le hlt (Nat.le_of_lt_succ hm)) hq
  intro x0 x1 x12 x13 hi
  exact ⟨μ x0 x1 x12 x13 + 1, key _ x0 x1 x12 x13 (Nat.lt_succ_self _) hi⟩
theorem range_r01_SameSubst_0 (Q : D → Heap → Prop) (x0 : List (List V)) (x1 : List (List V)) (n : Nat) (hb : n ≤ big) (J : Nat → Prop)
    (step : ∀ (k : Nat), k < n → J k → ∀ K : Prop, (J (k + 1) → K) → (0 ≤ (k : Int) ∧ (k : Int) < x0.length ∧ 0 ≤ (k : Int) ∧ (k : Int) < x1.length ∧ iff (!(((((x0.getD k []).drop 0).headD V.none).str).toList == ((((x1.getD k []).drop 0).headD V.none).str).toList)) (True ∧ Q (.v .bool (V.b false)) []) (0 ≤ (k : Int) ∧ (k : Int) < x0.length ∧ 0 ≤ (k : Int) ∧ (k : Int) < x1.length ∧ cl f_r01_Equal [.agg [.v .str (((x0.getD k []).drop 1).headD V.none), .v .bool ((((x0.getD k []).drop 1).tail).headD V.none), .v (.sl t_Term) (((((x0.getD k []).drop 1).tail).tail).headD V.none)], .agg [.v .str (((x1.getD k []).drop 1).headD V.none), .v .bool ((((x1.getD k []).drop 1).tail).headD V.none), .v (.sl t_Term) (((((x1.getD k []).drop 1).tail).tail).headD V.none)]] [] fun r1 H2 => r1 = (.v .bool (r1.V)) ∧ H2 = [] ∧ iff (!r1.V.bool) (True ∧ Q (.v .bool (V.b false)) []) (K))))
    (last : J n → (True ∧ Q (.v .bool (V.b true)) []))
    (k : Nat) (le0 : k ≤ n) (hj : J k) : ∃ m0, lp_r01_SameSubst_0 Q m0 x0 x1 (n : Int) ((k : Int)) := by
  refine rule_r01_SameSubst_0 Q (fun x0' x1' x12' x13' => x0 = x0' ∧ x1 = x1' ∧ (n : Int) = x12' ∧ ∃ k : Nat, (k : Int) = x13' ∧ k ≤ n ∧ J k) (fun x0' x1' x12' x13' => (n : Int).toNat - x13'.toNat) ?_ x0 x1 ((n : Int)) ((k : Int)) ⟨rfl, rfl, rfl, k, rfl, le0, hj⟩
  rintro x0' x1' x12' x13' ⟨rfl, rfl, rfl, k', rfl, hk, hj⟩ m hi
  have key : ∀ (b : Bool), b = decide ((k' : Int) < (n : Int)) → b = decide (k' < n) := fun b h => by rw [h]; simp
  by_cases hlt : k' < n
  · have hlt2 : (k' : Int) < (n : Int) := by omega
    have hw : IntKind.i64.wrap ((k' : Int) + (1 : Int)) = ((k' + 1 : Nat) : Int) := wrap_next k' (Nat.lt_of_lt_of_le hlt hb)
    refine iff_yes (decide_eq_true hlt2) ?_
    refine step k' hlt hj (lp_r01_SameSubst_0 Q m x0 x1 (n : Int) (IntKind.i64.wrap ((k' : Int) + (1 : Int)))) (fun h => ?_)
    show lp_r01_SameSubst_0 Q m x0 x1 (n : Int) (IntKind.i64.wrap ((k' : Int) + (1 : Int)))
    rw [hw]
    exact hi x0 x1 ((n : Int)) (((k' + 1 : Nat) : Int)) ⟨rfl, rfl, rfl, k' + 1, rfl, hlt, h⟩ (by simp only [Int.toNat_natCast]; omega)
  · have he : k' = n := Nat.le_antisymm hk (Nat.le_of_not_lt hlt)
    subst he
    exact iff_no (decide_eq_false (by omega)) (last hj)
def vc_r01_SameSubst (a0 : List (List V)) (a1 : List (List V)) (Q : D → Heap → Prop) : Prop :=
  (a0.length ≤ big → (a1.length ≤ big → iff (((a0.length : Int)) != ((a1.length : Int))) (True ∧ Q (.v .bool (V.b false)) []) ((a0.length ≤ big → ∃ m0, lp_r01_SameSubst_0 Q m0 a0 a1 ((a0.length : Int)) 0))))
theorem C_r01_SameSubst (a0 : List (List V)) (a1 : List (List V)) (Q : D → Heap → Prop) (h : vc_r01_SameSubst a0 a1 Q) : cl f_r01_SameSubst [.v (.sl t_Bind) (V.l a0), .v (.sl t_Bind) (V.l a1)] [] Q :=
  acalls_of_fn (envOk adj_r01_SameSubst cut_r01_SameSubst lit_r01_SameSubst frz_r01_SameSubst jns_r01_SameSubst) 0 Try.func28 (by rw [show evFn (envA adj_r01_SameSubst cut_r01_SameSubst lit_r01_SameSubst frz_r01_SameSubst jns_r01_SameSubst) Try.f28 0 [.v (.sl t_Bind) (V.l a0), .v (.sl t_Bind) (V.l a1)] [] Q = vc_r01_SameSubst a0 a1 Q from by kernel_rfl]; exact h)
def adj_l03_variable : List (Nat × List Adj) := []
def cut_l03_variable : CutT := []
def lit_l03_variable : List Nat := []
def frz_l03_variable : List (Nat × List Frz) := []
def jns_l03_variable : List Nat := []
def vc_l03_variable (a0 : ByteArray) (Q : D → Heap → Prop) : Prop :=
  (True ∧ True ∧ True ∧ True) ∧ Q (.agg [.v .str (V.s a0), .v .bool (V.b true), .nil]) []
theorem C_l03_variable (a0 : ByteArray) (Q : D → Heap → Prop) (h : vc_l03_variable a0 Q) : cl f_l03_variable [.v .str (V.s a0)] [] Q :=
  acalls_of_fn (envOk adj_l03_variable cut_l03_variable lit_l03_variable frz_l03_variable jns_l03_variable) 0 Try.func30 (by rw [show evFn (envA adj_l03_variable cut_l03_variable lit_l03_variable frz_l03_variable jns_l03_variable) Try.f30 0 [.v .str (V.s a0)] [] Q = vc_l03_variable a0 Q from by kernel_rfl]; exact h)
def adj_l03_symbol : List (Nat × List Adj) := []
def cut_l03_symbol : CutT := []
def lit_l03_symbol : List Nat := []
def frz_l03_symbol : List (Nat × List Frz) := []
def jns_l03_symbol : List Nat := []
def vc_l03_symbol (a0 : ByteArray) (a1 : List (List V)) (Q : D → Heap → Prop) : Prop :=
  (True ∧ True ∧ True ∧ True) ∧ Q (.agg [.v .str (V.s a0), .v .bool (V.b false), .v (.sl t_Term) (V.l a1)]) []
theorem C_l03_symbol (a0 : ByteArray) (a1 : List (List V)) (Q : D → Heap → Prop) (h : vc_l03_symbol a0 a1 Q) : cl f_l03_symbol [.v .str (V.s a0), .v (.sl t_Term) (V.l a1)] [] Q :=
  acalls_of_fn (envOk adj_l03_symbol cut_l03_symbol lit_l03_symbol frz_l03_symbol jns_l03_symbol) 0 Try.func29 (by rw [show evFn (envA adj_l03_symbol cut_l03_symbol lit_l03_symbol frz_l03_symbol jns_l03_symbol) Try.f29 0 [.v .str (V.s a0), .v (.sl t_Term) (V.l a1)] [] Q = vc_l03_symbol a0 a1 Q from by kernel_rfl]; exact h)
def adj_r03_match : List (Nat × List Adj) := [(8, [.undef 1, .undef 2, .undef 6, .undef 7, .undef 8, .undef 9, .undef 10, .undef 11, .undef 12, .undef 29, .undef 30, .undef 31, .undef 32, .undef 33, .undef 34, .undef 35, .undef 36, .undef 37, .undef 38, .undef 39, .undef 40, .undef 41, .undef 42, .undef 43, .undef 44, .undef 45, .undef 46, .undef 47, .undef 48, .undef 51, .undef 52, .undef 53, .undef 54, .undef 55, .undef 56, .undef 57, .undef 58, .undef 59, .undef 60, .undef 61, .undef 62, .undef 63, .undef 64, .undef 65, .undef 66, .undef 67, .undef 68, .undef 69, .undef 70, .undef 71, .dead 65]), (3000007, [.undef 1, .undef 2, .undef 6, .undef 7, .undef 11, .undef 12, .undef 29, .undef 30, .undef 31, .undef 32, .undef 33, .undef 34, .undef 35, .undef 36, .undef 37, .undef 38, .undef 39, .undef 40, .undef 41, .undef 42, .undef 43, .undef 44, .undef 45, .undef 46, .dead 41, .dead 44])]
def cut_r03_match : CutT := [(3, 6, [0], []), (10, 16, [], [])]
def lit_r03_match : List Nat := []
def frz_r03_match : List (Nat × List Frz) := []
def jns_r03_match : List Nat := [7]
def env_r03_match : Env := envA adj_r03_match cut_r03_match lit_r03_match frz_r03_match jns_r03_match
@[irreducible] def lp_r03_match_0 (Q : D → Heap → Prop) (m0 : Nat) (x0 : V) (x49 : Int) (x50 : Int) (y4_0 : ByteArray) (y4_1 : Bool) (y4_2 : List (List V)) (y5_0 : ByteArray) (y5_1 : Bool) (y5_2 : List (List V)) : Prop :=
  iter (adj (adjLook adj_r03_match 8)) (evCode env_r03_match (fnAt [1, 1, 1, 0, 1, 0, 0] Try.f31)) (blockK 0 (seqK (adj (adjLook adj_r03_match (3000000 + key (fnAt [1, 1, 1, 1] Try.f31)))) (joinIf (env_r03_match.join (key (fnAt [1, 1, 1, 1] Try.f31))) (evCode env_r03_match (fnAt [1, 1, 1, 1] Try.f31))) (endK env_r03_match Try.f31 Q))) m0 ⟨[.v (.sl t_Bind) (x0), .undef, .undef, .skip, .ptr (.loc 4) 0, .ptr (.loc 5) 0, .undef, .undef, .undef, .undef, .undef, .undef, .undef, .skip, .skip, .skip, .skip, .skip, .skip, .skip, .skip, .skip, .skip, .skip, .skip, .skip, .skip, .skip, .skip, .undef, .undef, .undef, .undef, .undef, .undef, .undef, .undef, .undef, .undef, .undef, .undef, .undef, .undef, .undef, .undef, .undef, .undef, .undef, .undef, .v (.int .i64) (V.i x49), .v (.int .i64) (V.i x50), .undef, .undef, .undef, .undef, .undef, .undef, .undef, .undef, .undef, .undef, .undef, .undef, .undef, .undef, .undef, .undef, .undef, .undef, .undef, .undef, .undef, .skip], [.dead, .dead, .dead, .dead, .cells [.v .str (V.s y4_0), .v .bool (V.b y4_1), .v (.sl t_Term) (V.l y4_2)], .cells [.v .str (V.s y5_0), .v .bool (V.b y5_1), .v (.sl t_Term) (V.l y5_2)], .dead, .dead, .dead, .dead, .dead, .dead, .dead, .dead, .dead, .dead, .dead, .dead, .dead, .dead, .dead, .dead, .dead, .dead, .dead, .dead, .dead, .dead, .dead, .dead, .dead, .dead, .dead, .dead, .dead, .dead, .dead, .dead, .dead, .dead, .dead, .dead, .dead, .dead, .dead, .dead, .dead, .dead, .dead, .dead, .dead, .dead, .dead, .dead, .dead, .dead, .dead, .dead, .dead, .dead, .dead, .dead, .dead, .dead, .dead, .dead, .dead, .dead, .dead, .dead, .dead, .dead, .dead]⟩ []
@[irreducible] def jp_r03_match_0 (Q : D → Heap → Prop) (x0 : List (List V)) (y4_0 : ByteArray) (y4_1 : Bool) (y4_2 : List (List V)) (y5_0 : ByteArray) (y5_1 : Bool) (y5_2 : List (List V)) : Prop :=
  joinM (evCode env_r03_match (fnAt [1, 1, 1] Try.f31)) ⟨[.v (.sl t_Bind) (V.l x0), .undef, .undef, .skip, .ptr (.loc 4) 0, .ptr (.loc 5) 0, .undef, .undef, .skip, .skip, .skip, .undef, .undef, .skip, .skip, .skip, .skip, .skip, .skip, .skip, .skip, .skip, .skip, .skip, .skip, .skip, .skip, .skip, .skip, .undef, .undef, .undef, .undef, .undef, .undef, .undef, .undef, .undef, .undef, .undef, .undef, .undef, .undef, .undef, .undef, .undef, .undef, .skip, .skip, .skip, .skip, .skip, .skip, .skip, .skip, .skip, .skip, .skip, .skip, .skip, .skip, .skip, .skip, .skip, .skip, .skip, .skip, .skip, .skip, .skip, .skip, .skip, .skip], [.dead, .dead, .dead, .dead, .cells [.v .str (V.s y4_0), .v .bool (V.b y4_1), .v (.sl t_Term) (V.l y4_2)], .cells [.v .str (V.s y5_0), .v .bool (V.b y5_1), .v (.sl t_Term) (V.l y5_2)], .dead, .dead, .dead, .dead, .dead, .dead, .dead, .dead, .dead, .dead, .dead, .dead, .dead, .dead, .dead, .dead, .dead, .dead, .dead, .dead, .dead, .dead, .dead, .dead, .dead, .dead, .dead, .dead, .dead, .dead, .dead, .dead, .dead, .dead, .dead, .dead, .dead, .dead, .dead, .dead, .dead, .dead, .dead, .dead, .dead, .dead, .dead, .dead, .dead, .dead, .dead, .dead, .dead, .dead, .dead, .dead, .dead, .dead, .dead, .dead, .dead, .dead, .dead, .dead, .dead, .dead, .dead]⟩ [] (endK env_r03_match Try.f31 Q)
def st_r03_match_0 (Q : D → Heap → Prop) (m0 : Nat) (x0 : V) (x49 : Int) (x50 : Int) (y4_0 : ByteArray) (y4_1 : Bool) (y4_2 : List (List V)) (y5_0 : ByteArray) (y5_1 : Bool) (y5_2 : List (List V)) : Prop :=
  iff (decide (x50 < x49)) (0 ≤ x50 ∧ x50 < y4_2.length ∧ 0 ≤ x50 ∧ x50 < y5_2.length ∧ (∃ r1 : D, cl f_r03_match [.v (.sl t_Bind) (x0), .agg [.v .str (((y4_2.getD x50.toNat []).drop 0).headD V.none), .v .bool ((((y4_2.getD x50.toNat []).drop 0).tail).headD V.none), .v (.sl t_Term) (((((y4_2.getD x50.toNat []).drop 0).tail).tail).headD V.none)], .agg [.v .str (((y5_2.getD x50.toNat []).drop 0).headD V.none), .v .bool ((((y5_2.getD x50.toNat []).drop 0).tail).headD V.none), .v (.sl t_Term) (((((y5_2.getD x50.toNat []).drop 0).tail).tail).headD V.none)]] [] (fun r H' => r = (.tup [.v (.sl t_Bind) ((r1.parts.headD .undef).V), .v .bool ((r1.parts.tail.headD .undef).V)]) ∧ H' = []) ∧ iff (!(((r1.parts.tail.headD .undef).V).bool)) ((True ∧ True ∧ True) ∧ Q (.tup [.nil, .v .bool (V.b false)]) []) (lp_r03_match_0 Q m0 ((r1.parts.headD .undef).V) x49 (IntKind.i64.wrap (x50 + (1 : Int))) y4_0 y4_1 y4_2 y5_0 y5_1 y5_2))) ((True ∧ True ∧ True) ∧ Q (.tup [.v (.sl t_Bind) (x0), .v .bool (V.b true)]) [])
theorem lp_r03_match_0_s (Q : D → Heap → Prop) (m0 : Nat) (x0 : V) (x49 : Int) (x50 : Int) (y4_0 : ByteArray) (y4_1 : Bool) (y4_2 : List (List V)) (y5_0 : ByteArray) (y5_1 : Bool) (y5_2 : List (List V)) : lp_r03_match_0 Q (m0 + 1) x0 x49 x50 y4_0 y4_1 y4_2 y5_0 y5_1 y5_2 = st_r03_match_0 Q m0 x0 x49 x50 y4_0 y4_1 y4_2 y5_0 y5_1 y5_2 := by kernel_rfl
theorem rule_r03_match_0 (Q : D → Heap → Prop) (I : V → Int → Int → ByteArray → Bool → List (List V) → ByteArray → Bool → List (List V) → Prop) (μ : V → Int → Int → ByteArray → Bool → List (List V) → ByteArray → Bool → List (List V) → Nat)
    (hs : ∀ (x0 : V) (x49 : Int) (x50 : Int) (y4_0 : ByteArray) (y4_1 : Bool) (y4_2 : List (List V)) (y5_0 : ByteArray) (y5_1 : Bool) (y5_2 : List (List V)), I x0 x49 x50 y4_0 y4_1 y4_2 y5_0 y5_1 y5_2 → ∀ m0 : Nat, (∀ (x0' : V) (x49' : Int) (x50' : Int) (y4_0' : ByteArray) (y4_1' : Bool) (y4_2' : List (List V)) (y5_0' : ByteArray) (y5_1' : Bool) (y5_2' : List (List V)), I x0' x49' x50' y4_0' y4_1' y4_2' y5_0' y5_1' y5_2' → μ x0' x49' x50' y4_0' y4_1' y4_2' y5_0' y5_1' y5_2' < μ x0 x49 x50 y4_0 y4_1 y4_2 y5_0 y5_1 y5_2 → lp_r03_match_0 Q m0 x0' x49' x50' y4_0' y4_1' y4_2' y5_0' y5_1' y5_2') → st_r03_match_0 Q m0 x0 x49 x50 y4_0 y4_1 y4_2 y5_0 y5_1 y5_2) :
    ∀ (x0 : V) (x49 : Int) (x50 : Int) (y4_0 : ByteArray) (y4_1 : Bool) (y4_2 : List (List V)) (y5_0 : ByteArray) (y5_1 : Bool) (y5_2 : List (List V)), I x0 x49 x50 y4_0 y4_1 y4_2 y5_0 y5_1 y5_2 → ∃ m0, lp_r03_match_0 Q m0 x0 x49 x50 y4_0 y4_1 y4_2 y5_0 y5_1 y5_2 := by
  have key : ∀ (n : Nat) (x0 : V) (x49 : Int) (x50 : Int) (y4_0 : ByteArray) (y4_1 : Bool) (y4_2 : List (List V)) (y5_0 : ByteArray) (y5_1 : Bool) (y5_2 : List (List V)), μ x0 x49 x50 y4_0 y4_1 y4_2 y5_0 y5_1 y5_2 < n → I x0 x49 x50 y4_0 y4_1 y4_2 y5_0 y5_1 y5_2 → lp_r03_match_0 Q n x0 x49 x50 y4_0 y4_1 y4_2 y5_0 y5_1 y5_2 := by
    intro n
    induction n with
    | zero => intro x0 x49 x50 y4_0 y4_1 y4_2 y5_0 y5_1 y5_2 hm; exact absurd hm (Nat.not_lt_zero _)
    | succ n ih =>
      intro x0 x49 x50 y4_0 y4_1 y4_2 y5_0 y5_1 y5_2 hm hi
      rw [lp_r03_match_0_s]
      exact hs x0 x49 x50 y4_0 y4_1 y4_2 y5_0 y5_1 y5_2 hi n fun x0' x49' x50' y4_0' y4_1' y4_2' y5_0' y5_1' y5_2' hq hlt => ih x0' x49' x50' y4_0' y4_1' y4_2' y5_0' y5_1' y5_2' (Nat.lt_of_lt_of_le hlt (Nat.le_of_lt_succ hm)) hq
  intro x0 x49 x50 y4_0 y4_1 y4_2 y5_0 y5_1 y5_2 hi
  exact ⟨μ x0 x49 x50 y4_0 y4_1 y4_2 y5_0 y5_1 y5_2 + 1, key _ x0 x49 x50 y4_0 y4_1 y4_2 y5_0 y5_1 y5_2 (Nat.lt_succ_self _) hi⟩
theorem range_r03_match_0 (Q : D → Heap → Prop) (y4_0 : ByteArray) (y4_1 : Bool) (y4_2 : List (List V)) (y5_0 : ByteArray) (y5_1 : Bool) (y5_2 : List (List V)) (n : Nat) (hb : n ≤ big) (J : Nat → V → Prop)
    (step : ∀ (k : Nat) (x0 : V), k < n → J k x0 → ∀ K : V → Prop, (∀ (x0' : V), J (k + 1) x0' → K x0') → (0 ≤ (k : Int) ∧ (k : Int) < y4_2.length ∧ 0 ≤ (k : Int) ∧ (k : Int) < y5_2.length ∧ (∃ r1 : D, cl f_r03_match [.v (.sl t_Bind) (x0), .agg [.v .str (((y4_2.getD k []).drop 0).headD V.none), .v .bool ((((y4_2.getD k []).drop 0).tail).headD V.none), .v (.sl t_Term) (((((y4_2.getD k []).drop 0).tail).tail).headD V.none)], .agg [.v .str (((y5_2.getD k []).drop 0).headD V.none), .v .bool ((((y5_2.getD k []).drop 0).tail).headD V.none), .v (.sl t_Term) (((((y5_2.getD k []).drop 0).tail).tail).headD V.none)]] [] (fun r H' => r = (.tup [.v (.sl t_Bind) ((r1.parts.headD .undef).V), .v .bool ((r1.parts.tail.headD .undef).V)]) ∧ H' = []) ∧ iff (!(((r1.parts.tail.headD .undef).V).bool)) ((True ∧ True ∧ True) ∧ Q (.tup [.nil, .v .bool (V.b false)]) []) (K ((r1.parts.headD .undef).V)))))
    (last : ∀ (x0 : V), J n x0 → ((True ∧ True ∧ True) ∧ Q (.tup [.v (.sl t_Bind) (x0), .v .bool (V.b true)]) []))
    (k : Nat) (x0 : V) (le0 : k ≤ n) (hj : J k x0) : ∃ m0, lp_r03_match_0 Q m0 x0 (n : Int) ((k : Int)) y4_0 y4_1 y4_2 y5_0 y5_1 y5_2 := by
  refine rule_r03_match_0 Q (fun x0' x49' x50' y4_0' y4_1' y4_2' y5_0' y5_1' y5_2' => (n : Int) = x49' ∧ y4_0 = y4_0' ∧ y4_1 = y4_1' ∧ y4_2 = y4_2' ∧ y5_0 = y5_0' ∧ y5_1 = y5_1' ∧ y5_2 = y5_2' ∧ ∃ k : Nat, (k : Int) = x50' ∧ k ≤ n ∧ J k x0') (fun x0' x49' x50' y4_0' y4_1' y4_2' y5_0' y5_1' y5_2' => (n : Int).toNat - x50'.toNat) ?_ x0 ((n : Int)) ((k : Int)) y4_0 y4_1 y4_2 y5_0 y5_1 y5_2 ⟨rfl, rfl, rfl, rfl, rfl, rfl, rfl, k, rfl, le0, hj⟩
  rintro x0' x49' x50' y4_0' y4_1' y4_2' y5_0' y5_1' y5_2' ⟨rfl, rfl, rfl, rfl, rfl, rfl, rfl, k', rfl, hk, hj⟩ m hi
  have key : ∀ (b : Bool), b = decide ((k' : Int) < (n : Int)) → b = decide (k' < n) := fun b h => by rw [h]; simp
  by_cases hlt : k' < n
  · have hlt2 : (k' : Int) < (n : Int) := by omega
    have hw : IntKind.i64.wrap ((k' : Int) + (1 : Int)) = ((k' + 1 : Nat) : Int) := wrap_next k' (Nat.lt_of_lt_of_le hlt hb)
    refine iff_yes (decide_eq_true hlt2) ?_
    refine step k' x0' hlt hj (fun x0'' => lp_r03_match_0 Q m x0'' (n : Int) (IntKind.i64.wrap ((k' : Int) + (1 : Int))) y4_0 y4_1 y4_2 y5_0 y5_1 y5_2) (fun x0'' h => ?_)
    show lp_r03_match_0 Q m x0'' (n : Int) (IntKind.i64.wrap ((k' : Int) + (1 : Int))) y4_0 y4_1 y4_2 y5_0 y5_1 y5_2
    rw [hw]
    exact hi x0'' ((n : Int)) (((k' + 1 : Nat) : Int)) y4_0 y4_1 y4_2 y5_0 y5_1 y5_2 ⟨rfl, rfl, rfl, rfl, rfl, rfl, rfl, k' + 1, rfl, hlt, h⟩ (by simp only [Int.toNat_natCast]; omega)
  · have he : k' = n := Nat.le_antisymm hk (Nat.le_of_not_lt hlt)
    subst he
    exact iff_no (decide_eq_false (by omega)) (last x0' hj)
def je_r03_match_0 (Q : D → Heap → Prop) (x0 : List (List V)) (y4_0 : ByteArray) (y4_1 : Bool) (y4_2 : List (List V)) (y5_0 : ByteArray) (y5_1 : Bool) (y5_2 : List (List V)) : Prop :=
  (y5_2.length ≤ big → ∃ m0, lp_r03_match_0 Q m0 (V.l x0) ((y5_2.length : Int)) 0 y4_0 y4_1 y4_2 y5_0 y5_1 y5_2)
theorem jp_r03_match_0_s (Q : D → Heap → Prop) (x0 : List (List V)) (y4_0 : ByteArray) (y4_1 : Bool) (y4_2 : List (List V)) (y5_0 : ByteArray) (y5_1 : Bool) (y5_2 : List (List V)) : jp_r03_match_0 Q x0 y4_0 y4_1 y4_2 y5_0 y5_1 y5_2 = je_r03_match_0 Q x0 y4_0 y4_1 y4_2 y5_0 y5_1 y5_2 := by kernel_rfl
def vc_r03_match (a0 : List (List V)) (a1_0 : ByteArray) (a1_1 : Bool) (a1_2 : List (List V)) (a2_0 : ByteArray) (a2_1 : Bool) (a2_2 : List (List V)) (Q : D → Heap → Prop) : Prop :=
  iff a1_1 (cl f_r03_Bound [.v (.sl t_Bind) (V.l a0), .v .str (V.s a1_0)] [] fun r1 H2 => r1 = (.v .bool (r1.V)) ∧ H2 = [] ∧ iff r1.V.bool ((∃ r3 : D, cl f_r01_Image [.v (.sl t_Bind) (V.l a0), .v .str (V.s a1_0)] [] (fun r H' => r = (.agg [.v .str ((r3.cells.headD .undef).V), .v .bool ((r3.cells.tail.headD .undef).V), .v (.sl t_Term) ((r3.cells.tail.tail.headD .undef).V)]) ∧ H' = []) ∧ cl f_r01_Equal [.agg [.v .str ((r3.cells.headD .undef).V), .v .bool ((r3.cells.tail.headD .undef).V), .v (.sl t_Term) ((r3.cells.tail.tail.headD .undef).V)], .agg [.v .str (V.s a2_0), .v .bool (V.b a2_1), .v (.sl t_Term) (V.l a2_2)]] [] fun r4 H5 => r4 = (.v .bool (r4.V)) ∧ H5 = [] ∧ (True ∧ True ∧ True) ∧ Q (.tup [.v (.sl t_Bind) (V.l a0), .v .bool (r4.V)]) [])) (cl f_r03_with [.v (.sl t_Bind) (V.l a0), .v .str (V.s a1_0), .agg [.v .str (V.s a2_0), .v .bool (V.b a2_1), .v (.sl t_Term) (V.l a2_2)]] [] fun r6 H7 => r6 = (.v (.sl t_Bind) (r6.V)) ∧ H7 = [] ∧ (True ∧ True ∧ True) ∧ Q (.tup [.v (.sl t_Bind) (r6.V), .v .bool (V.b true)]) [])) (iff a2_1 ((True ∧ True ∧ True) ∧ Q (.tup [.nil, .v .bool (V.b false)]) []) (iff (!(a2_0.toList == a1_0.toList)) ((True ∧ True ∧ True) ∧ Q (.tup [.nil, .v .bool (V.b false)]) []) ((a2_2.length ≤ big → (a1_2.length ≤ big → iff (((a2_2.length : Int)) != ((a1_2.length : Int))) ((True ∧ True ∧ True) ∧ Q (.tup [.nil, .v .bool (V.b false)]) []) (jp_r03_match_0 Q a0 a1_0 a1_1 a1_2 a2_0 a2_1 a2_2))))))
theorem C_r03_match (a0 : List (List V)) (a1_0 : ByteArray) (a1_1 : Bool) (a1_2 : List (List V)) (a2_0 : ByteArray) (a2_1 : Bool) (a2_2 : List (List V)) (Q : D → Heap → Prop) (h : vc_r03_match a0 a1_0 a1_1 a1_2 a2_0 a2_1 a2_2 Q) : cl f_r03_match [.v (.sl t_Bind) (V.l a0), .agg [.v .str (V.s a1_0), .v .bool (V.b a1_1), .v (.sl t_Term) (V.l a1_2)], .agg [.v .str (V.s a2_0), .v .bool (V.b a2_1), .v (.sl t_Term) (V.l a2_2)]] [] Q :=
  acalls_of_fn (envOk adj_r03_match cut_r03_match lit_r03_match frz_r03_match jns_r03_match) 0 Try.func31 (by rw [show evFn (envA adj_r03_match cut_r03_match lit_r03_match frz_r03_match jns_r03_match) Try.f31 0 [.v (.sl t_Bind) (V.l a0), .agg [.v .str (V.s a1_0), .v .bool (V.b a1_1), .v (.sl t_Term) (V.l a1_2)], .agg [.v .str (V.s a2_0), .v .bool (V.b a2_1), .v (.sl t_Term) (V.l a2_2)]] [] Q = vc_r03_match a0 a1_0 a1_1 a1_2 a2_0 a2_1 a2_2 Q from by kernel_rfl]; exact h)
def adj_term_CheckRules : List (Nat × List Adj) := [(4, [.undef 0, .undef 2, .undef 4, .undef 5, .undef 6, .undef 7, .undef 8, .undef 12, .undef 13, .undef 14, .undef 15, .undef 16, .undef 17, .undef 18, .undef 19, .undef 20, .undef 21, .undef 22, .undef 23, .undef 24, .dead 4, .dead 19, .dead 20])]
def cut_term_CheckRules : CutT := []
def lit_term_CheckRules : List Nat := []
def frz_term_CheckRules : List (Nat × List Frz) := []
def jns_term_CheckRules : List Nat := []
def env_term_CheckRules : Env := envA adj_term_CheckRules cut_term_CheckRules lit_term_CheckRules frz_term_CheckRules jns_term_CheckRules
@[irreducible] def lp_term_CheckRules_0 (Q : D → Heap → Prop) (m0 : Nat) (x9 : List (List V)) (x10 : Int) (x11 : Int) : Prop :=
  iter (adj (adjLook adj_term_CheckRules 4)) (evCode env_term_CheckRules (fnAt [1, 1, 0, 1, 0, 0] Try.f32)) (blockK 0 (seqK (adj (adjLook adj_term_CheckRules (3000000 + key (fnAt [1, 1, 1] Try.f32)))) (joinIf (env_term_CheckRules.join (key (fnAt [1, 1, 1] Try.f32))) (evCode env_term_CheckRules (fnAt [1, 1, 1] Try.f32))) (endK env_term_CheckRules Try.f32 Q))) m0 ⟨[.undef, .skip, .undef, .skip, .undef, .undef, .undef, .undef, .undef, .v (.sl t_Rule) (V.l x9), .v (.int .i64) (V.i x10), .v (.int .i64) (V.i x11), .undef, .undef, .undef, .undef, .undef, .undef, .undef, .undef, .undef, .undef, .undef, .undef, .undef], [.dead, .dead, .dead, .dead, .dead, .dead, .dead, .dead, .dead, .dead, .dead, .dead, .dead, .dead, .dead, .dead, .dead, .dead, .dead, .dead, .dead, .dead, .dead, .dead, .dead]⟩ []
def st_term_CheckRules_0 (Q : D → Heap → Prop) (m0 : Nat) (x9 : List (List V)) (x10 : Int) (x11 : Int) : Prop :=
  iff (decide (x11 < x10)) (0 ≤ x11 ∧ x11 < x9.length ∧ cl f_term_All [.v (.sl t_Term) (V.l ([[((x9.getD x11.toNat []).drop 0).headD V.none, (((x9.getD x11.toNat []).drop 0).tail).headD V.none, ((((x9.getD x11.toNat []).drop 0).tail).tail).headD V.none], [(((((x9.getD x11.toNat []).drop 0).tail).tail).tail).headD V.none, ((((((x9.getD x11.toNat []).drop 0).tail).tail).tail).tail).headD V.none, (((((((x9.getD x11.toNat []).drop 0).tail).tail).tail).tail).tail).headD V.none]]))] [] fun r1 H2 => r1 = (.v (.int .i64) (r1.V)) ∧ H2 = [] ∧ iff (r1.V.int != (0 : Int)) (True ∧ Q (.v (.int .i64) (r1.V)) []) (lp_term_CheckRules_0 Q m0 x9 x10 (IntKind.i64.wrap (x11 + (1 : Int))))) (True ∧ Q (.v (.int .i64) (V.i 0)) [])
theorem lp_term_CheckRules_0_s (Q : D → Heap → Prop) (m0 : Nat) (x9 : List (List V)) (x10 : Int) (x11 : Int) : lp_term_CheckRules_0 Q (m0 + 1) x9 x10 x11 = st_term_CheckRules_0 Q m0 x9 x10 x11 := by kernel_rfl
theorem rule_term_CheckRules_0 (Q : D → Heap → Prop) (I : List (List V) → Int → Int → Prop) (μ : List (List V) → Int → Int → Nat)
    (hs : ∀ (x9 : List (List V)) (x10 : Int) (x11 : Int), I x9 x10 x11 → ∀ m0 : Nat, (∀ (x9' : List (List V)) (x10' : Int) (x11' : Int), I x9' x10' x11' → μ x9' x10' x11' < μ x9 x10 x11 → lp_term_CheckRules_0 Q m0 x9' x10' x11') → st_term_CheckRules_0 Q m0 x9 x10 x11) :
    ∀ (x9 : List (List V)) (x10 : Int) (x11 : Int), I x9 x10 x11 → ∃ m0, lp_term_CheckRules_0 Q m0 x9 x10 x11 := by
  have key : ∀ (n : Nat) (x9 : List (List V)) (x10 : Int) (x11 : Int), μ x9 x10 x11 < n → I x9 x10 x11 → lp_term_CheckRules_0 Q n x9 x10 x11 := by
    intro n
    induction n with
    | zero => intro x9 x10 x11 hm; exact absurd hm (Nat.not_lt_zero _)
    | succ n ih =>
      intro x9 x10 x11 hm hi
      rw [lp_term_CheckRules_0_s]
      exact hs x9 x10 x11 hi n fun x9' x10' x11' hq hlt => ih x9' x10' x11' (Nat.lt_of_lt_of_le hlt (Nat.le_of_lt_succ hm)) hq
  intro x9 x10 x11 hi
  exact ⟨μ x9 x10 x11 + 1, key _ x9 x10 x11 (Nat.lt_succ_self _) hi⟩
theorem range_term_CheckRules_0 (Q : D → Heap → Prop) (x9 : List (List V)) (n : Nat) (hb : n ≤ big) (J : Nat → Prop)
    (step : ∀ (k : Nat), k < n → J k → ∀ K : Prop, (J (k + 1) → K) → (0 ≤ (k : Int) ∧ (k : Int) < x9.length ∧ cl f_term_All [.v (.sl t_Term) (V.l ([[((x9.getD k []).drop 0).headD V.none, (((x9.getD k []).drop 0).tail).headD V.none, ((((x9.getD k []).drop 0).tail).tail).headD V.none], [(((((x9.getD k []).drop 0).tail).tail).tail).headD V.none, ((((((x9.getD k []).drop 0).tail).tail).tail).tail).headD V.none, (((((((x9.getD k []).drop 0).tail).tail).tail).tail).tail).headD V.none]]))] [] fun r1 H2 => r1 = (.v (.int .i64) (r1.V)) ∧ H2 = [] ∧ iff (r1.V.int != (0 : Int)) (True ∧ Q (.v (.int .i64) (r1.V)) []) (K)))
    (last : J n → (True ∧ Q (.v (.int .i64) (V.i 0)) []))
    (k : Nat) (le0 : k ≤ n) (hj : J k) : ∃ m0, lp_term_CheckRules_0 Q m0 x9 (n : Int) ((k : Int)) := by
  refine rule_term_CheckRules_0 Q (fun x9' x10' x11' => x9 = x9' ∧ (n : Int) = x10' ∧ ∃ k : Nat, (k : Int) = x11' ∧ k ≤ n ∧ J k) (fun x9' x10' x11' => (n : Int).toNat - x11'.toNat) ?_ x9 ((n : Int)) ((k : Int)) ⟨rfl, rfl, k, rfl, le0, hj⟩
  rintro x9' x10' x11' ⟨rfl, rfl, k', rfl, hk, hj⟩ m hi
  have key : ∀ (b : Bool), b = decide ((k' : Int) < (n : Int)) → b = decide (k' < n) := fun b h => by rw [h]; simp
  by_cases hlt : k' < n
  · have hlt2 : (k' : Int) < (n : Int) := by omega
    have hw : IntKind.i64.wrap ((k' : Int) + (1 : Int)) = ((k' + 1 : Nat) : Int) := wrap_next k' (Nat.lt_of_lt_of_le hlt hb)
    refine iff_yes (decide_eq_true hlt2) ?_
    refine step k' hlt hj (lp_term_CheckRules_0 Q m x9 (n : Int) (IntKind.i64.wrap ((k' : Int) + (1 : Int)))) (fun h => ?_)
    show lp_term_CheckRules_0 Q m x9 (n : Int) (IntKind.i64.wrap ((k' : Int) + (1 : Int)))
    rw [hw]
    exact hi x9 ((n : Int)) (((k' + 1 : Nat) : Int)) ⟨rfl, rfl, k' + 1, rfl, hlt, h⟩ (by simp only [Int.toNat_natCast]; omega)
  · have he : k' = n := Nat.le_antisymm hk (Nat.le_of_not_lt hlt)
    subst he
    exact iff_no (decide_eq_false (by omega)) (last hj)
def vc_term_CheckRules (a0 : List (List V)) (Q : D → Heap → Prop) : Prop :=
  (a0.length ≤ big → iff (decide (((a0.length : Int)) > (64 : Int))) (True ∧ Q (.v (.int .i64) (V.i 3)) []) ((a0.length ≤ big → ∃ m0, lp_term_CheckRules_0 Q m0 a0 ((a0.length : Int)) 0)))
theorem C_term_CheckRules (a0 : List (List V)) (Q : D → Heap → Prop) (h : vc_term_CheckRules a0 Q) : cl f_term_CheckRules [.v (.sl t_Rule) (V.l a0)] [] Q :=
  acalls_of_fn (envOk adj_term_CheckRules cut_term_CheckRules lit_term_CheckRules frz_term_CheckRules jns_term_CheckRules) 0 Try.func32 (by rw [show evFn (envA adj_term_CheckRules cut_term_CheckRules lit_term_CheckRules frz_term_CheckRules jns_term_CheckRules) Try.f32 0 [.v (.sl t_Rule) (V.l a0)] [] Q = vc_term_CheckRules a0 Q from by kernel_rfl]; exact h)
def adj_unify_Solve : List (Nat × List Adj) := [(3, [.undef 0, .undef 2, .undef 3, .undef 4, .undef 7, .undef 13, .undef 14, .undef 15, .undef 16, .undef 20, .undef 21, .undef 22, .undef 23, .undef 24, .undef 25, .undef 26, .undef 27, .undef 28, .undef 29, .undef 30, .dead 7, .dead 28]), (11, [.undef 0, .undef 2, .undef 3, .undef 4, .undef 7, .undef 10, .undef 11, .undef 12, .undef 13, .undef 14, .undef 15, .undef 16, .undef 17, .undef 18, .undef 19, .undef 20, .undef 21, .undef 22, .undef 23, .undef 24, .undef 25, .undef 26, .undef 27, .undef 28, .undef 29, .undef 30, .undef 31, .undef 32, .undef 33, .undef 34, .undef 35, .undef 37, .undef 38, .undef 39, .undef 40, .undef 41, .undef 42, .undef 43, .undef 44, .undef 45, .undef 46, .undef 47, .undef 48, .undef 49, .undef 50, .undef 51, .undef 52, .undef 53, .undef 54, .undef 55, .undef 56, .undef 57, .undef 58, .undef 59, .undef 60, .dead 11, .dead 12, .dead 46, .dead 59, .dead 60, .ownT 8 62 t_Bind]), (3000017, [.undef 0, .undef 2, .undef 3, .undef 4, .undef 7, .undef 12, .undef 13, .undef 14, .undef 15, .undef 16, .undef 17, .undef 18, .undef 19, .undef 20, .undef 21, .undef 22, .undef 23, .undef 24, .undef 25, .undef 26, .undef 27, .undef 28, .undef 29, .undef 30, .undef 31, .undef 32, .undef 33, .undef 34, .undef 35, .undef 37, .undef 38, .undef 39, .undef 40, .undef 41, .undef 42, .undef 43, .undef 44, .undef 45, .undef 46, .undef 47, .undef 48, .undef 49, .undef 50, .undef 51, .undef 52, .undef 53, .undef 54, .undef 55, .undef 56, .undef 57, .undef 58, .undef 59, .undef 60, .dead 12, .dead 46])]
def cut_unify_Solve : CutT := []
def lit_unify_Solve : List Nat := []
def frz_unify_Solve : List (Nat × List Frz) := []
def jns_unify_Solve : List Nat := [17]
def env_unify_Solve : Env := envA adj_unify_Solve cut_unify_Solve lit_unify_Solve frz_unify_Solve jns_unify_Solve
@[irreducible] def jp_unify_Solve_0 (Q : D → Heap → Prop) (m1 : Nat) (x8n : Nat) (x10 : V) (y11_0 : V) (y11_1 : Bool) (y13 : List (List V)) (y14 : List (List V)) (y31 : List (List V)) (y36n : Nat) (y36s : List Nat) (y62 : List (List V)) : Prop :=
  joinM (evCode env_unify_Solve (fnAt [1, 1, 1, 1, 1, 0, 1, 0, 0, 1, 1, 0, 1, 1, 1] Try.f33)) ⟨[.undef, .skip, .undef, .undef, .undef, .ptr (.loc 16) 0, .skip, .undef, .osl (.loc 62) x8n, .mp (.loc 31), .v .str (x10), .ptr (.loc 11) 0, .undef, .undef, .undef, .undef, .undef, .undef, .undef, .undef, .undef, .undef, .undef, .undef, .undef, .undef, .undef, .undef, .undef, .undef, .undef, .undef, .undef, .undef, .undef, .undef, .ptr (.loc 36) 0, .undef, .undef, .undef, .undef, .undef, .undef, .undef, .undef, .undef, .undef, .undef, .undef, .undef, .undef, .undef, .undef, .undef, .undef, .undef, .undef, .undef, .undef, .undef, .undef, .skip], [.dead, .dead, .dead, .dead, .dead, .dead, .dead, .dead, .dead, .dead, .dead, .cells [.v .str (y11_0), .v .bool (V.b y11_1), .nil], .dead, .map mt_9_24 y13, .map mt_82_4 y14, .dead, .cells [.mp (.loc 13), .mp (.loc 14)], .dead, .dead, .dead, .dead, .dead, .dead, .dead, .dead, .dead, .dead, .dead, .dead, .dead, .dead, .map mt_9_80 y31, .dead, .dead, .dead, .dead, .iter mt_9_24 (.mp (.loc 13)) y36n y36s, .dead, .dead, .dead, .dead, .dead, .dead, .dead, .dead, .dead, .dead, .dead, .dead, .dead, .dead, .dead, .dead, .dead, .dead, .dead, .dead, .dead, .dead, .dead, .dead, .dead, .row t_Bind y62]⟩ [] (blockK 3 (loopK (adj (adjLook adj_unify_Solve 11)) (iter (adj (adjLook adj_unify_Solve 11)) (evCode env_unify_Solve (fnAt [1, 1, 1, 1, 1, 0, 1, 0, 0] Try.f33)) (blockK 2 (seqK (adj (adjLook adj_unify_Solve (3000000 + key (fnAt [1, 1, 1, 1, 1, 1] Try.f33)))) (joinIf (env_unify_Solve.join (key (fnAt [1, 1, 1, 1, 1, 1] Try.f33))) (evCode env_unify_Solve (fnAt [1, 1, 1, 1, 1, 1] Try.f33))) (endK env_unify_Solve Try.f33 Q))) m1) (blockK 2 (seqK (adj (adjLook adj_unify_Solve (3000000 + key (fnAt [1, 1, 1, 1, 1, 1] Try.f33)))) (joinIf (env_unify_Solve.join (key (fnAt [1, 1, 1, 1, 1, 1] Try.f33))) (evCode env_unify_Solve (fnAt [1, 1, 1, 1, 1, 1] Try.f33))) (endK env_unify_Solve Try.f33 Q)))))
@[irreducible] def lp_unify_Solve_1 (Q : D → Heap → Prop) (m1 : Nat) (x8n : Nat) (y13 : List (List V)) (y14 : List (List V)) (y31 : List (List V)) (y36n : Nat) (y36s : List Nat) (y62 : List (List V)) : Prop :=
  iter (adj (adjLook adj_unify_Solve 11)) (evCode env_unify_Solve (fnAt [1, 1, 1, 1, 1, 0, 1, 0, 0] Try.f33)) (blockK 2 (seqK (adj (adjLook adj_unify_Solve (3000000 + key (fnAt [1, 1, 1, 1, 1, 1] Try.f33)))) (joinIf (env_unify_Solve.join (key (fnAt [1, 1, 1, 1, 1, 1] Try.f33))) (evCode env_unify_Solve (fnAt [1, 1, 1, 1, 1, 1] Try.f33))) (endK env_unify_Solve Try.f33 Q))) m1 ⟨[.undef, .skip, .undef, .undef, .undef, .ptr (.loc 16) 0, .skip, .undef, .osl (.loc 62) x8n, .mp (.loc 31), .undef, .undef, .undef, .undef, .undef, .undef, .undef, .undef, .undef, .undef, .undef, .undef, .undef, .undef, .undef, .undef, .undef, .undef, .undef, .undef, .undef, .undef, .undef, .undef, .undef, .undef, .ptr (.loc 36) 0, .undef, .undef, .undef, .undef, .undef, .undef, .undef, .undef, .undef, .undef, .undef, .undef, .undef, .undef, .undef, .undef, .undef, .undef, .undef, .undef, .undef, .undef, .undef, .undef, .skip], [.dead, .dead, .dead, .dead, .dead, .dead, .dead, .dead, .dead, .dead, .dead, .dead, .dead, .map mt_9_24 y13, .map mt_82_4 y14, .dead, .cells [.mp (.loc 13), .mp (.loc 14)], .dead, .dead, .dead, .dead, .dead, .dead, .dead, .dead, .dead, .dead, .dead, .dead, .dead, .dead, .map mt_9_80 y31, .dead, .dead, .dead, .dead, .iter mt_9_24 (.mp (.loc 13)) y36n y36s, .dead, .dead, .dead, .dead, .dead, .dead, .dead, .dead, .dead, .dead, .dead, .dead, .dead, .dead, .dead, .dead, .dead, .dead, .dead, .dead, .dead, .dead, .dead, .dead, .dead, .row t_Bind y62]⟩ []
@[irreducible] def lp_unify_Solve_0 (Q : D → Heap → Prop) (m0 : Nat) (x17 : List (List V)) (x18 : Int) (x19 : Int) (y13 : List (List V)) (y14 : List (List V)) : Prop :=
  iter (adj (adjLook adj_unify_Solve 3)) (evCode env_unify_Solve (fnAt [1, 1, 0, 1, 0, 0] Try.f33)) (blockK 0 (seqK (adj (adjLook adj_unify_Solve (3000000 + key (fnAt [1, 1, 1] Try.f33)))) (joinIf (env_unify_Solve.join (key (fnAt [1, 1, 1] Try.f33))) (evCode env_unify_Solve (fnAt [1, 1, 1] Try.f33))) (endK env_unify_Solve Try.f33 Q))) m0 ⟨[.undef, .skip, .undef, .undef, .undef, .ptr (.loc 16) 0, .skip, .undef, .skip, .skip, .skip, .skip, .skip, .undef, .undef, .undef, .undef, .v (.sl t_Rule) (V.l x17), .v (.int .i64) (V.i x18), .v (.int .i64) (V.i x19), .undef, .undef, .undef, .undef, .undef, .undef, .undef, .undef, .undef, .undef, .undef, .skip, .skip, .skip, .skip, .skip, .skip, .skip, .skip, .skip, .skip, .skip, .skip, .skip, .skip, .skip, .skip, .skip, .skip, .skip, .skip, .skip, .skip, .skip, .skip, .skip, .skip, .skip, .skip, .skip, .skip, .skip], [.dead, .dead, .dead, .dead, .dead, .dead, .dead, .dead, .dead, .dead, .dead, .dead, .dead, .map mt_9_24 y13, .map mt_82_4 y14, .dead, .cells [.mp (.loc 13), .mp (.loc 14)], .dead, .dead, .dead, .dead, .dead, .dead, .dead, .dead, .dead, .dead, .dead, .dead, .dead, .dead, .dead, .dead, .dead, .dead, .dead, .dead, .dead, .dead, .dead, .dead, .dead, .dead, .dead, .dead, .dead, .dead, .dead, .dead, .dead, .dead, .dead, .dead, .dead, .dead, .dead, .dead, .dead, .dead, .dead, .dead, .dead, .dead]⟩ []
def je_unify_Solve_0 (Q : D → Heap → Prop) (m1 : Nat) (x8n : Nat) (x10 : V) (y11_0 : V) (y11_1 : Bool) (y13 : List (List V)) (y14 : List (List V)) (y31 : List (List V)) (y36n : Nat) (y36s : List Nat) (y62 : List (List V)) : Prop :=
  cl f_unify_unifier_whole [.ptr (.own 0) 0, .agg [.v .str (y11_0), .v .bool (V.b y11_1), .nil]] [.cells [.mp (.own 1), .mp (.own 2)], .map mt_9_24 y13, .map mt_82_4 y14] fun r1 H2 => r1 = (.agg [.v .str ((r1.cells.headD .undef).V), .v .bool ((r1.cells.tail.headD .undef).V), .v (.sl t_Term) ((r1.cells.tail.tail.headD .undef).V)]) ∧ H2 = [.cells [.mp (.own 1), .mp (.own 2)], .map mt_9_24 ((H2.tail.headD .dead).xs), .map mt_82_4 ((H2.tail.tail.headD .dead).xs)] ∧ cl f_unify_bind [.osl (.own 0) x8n, .v .str (x10), .agg [.v .str ((r1.cells.headD .undef).V), .v .bool ((r1.cells.tail.headD .undef).V), .v (.sl t_Term) ((r1.cells.tail.tail.headD .undef).V)]] [.row t_Bind y62] fun r3 H4 => r3 = (.osl (.own 0) r3.len) ∧ H4 = [.row t_Bind ((H4.headD .dead).xs)] ∧ lp_unify_Solve_1 Q m1 r3.len ((H2.tail.headD .dead).xs) ((H2.tail.tail.headD .dead).xs) y31 y36n y36s ((H4.headD .dead).xs)
theorem jp_unify_Solve_0_s (Q : D → Heap → Prop) (m1 : Nat) (x8n : Nat) (x10 : V) (y11_0 : V) (y11_1 : Bool) (y13 : List (List V)) (y14 : List (List V)) (y31 : List (List V)) (y36n : Nat) (y36s : List Nat) (y62 : List (List V)) : jp_unify_Solve_0 Q m1 x8n x10 y11_0 y11_1 y13 y14 y31 y36n y36s y62 = je_unify_Solve_0 Q m1 x8n x10 y11_0 y11_1 y13 y14 y31 y36n y36s y62 := by kernel_rfl
def st_unify_Solve_1 (Q : D → Heap → Prop) (m1 : Nat) (x8n : Nat) (y13 : List (List V)) (y14 : List (List V)) (y31 : List (List V)) (y36n : Nat) (y36s : List Nat) (y62 : List (List V)) : Prop :=
  y13.length = y36n ∧ ((∀ j : Nat, j < y36n → j ∈ y36s) → ((x8n = y62.length) ∧ True ∧ True ∧ True) ∧ Q (.tup [.v (.sl t_Bind) (V.l y62), .v .bool (V.b true), .v (.int .i64) (V.i 0)]) []) ∧ (∀ j1 : Nat, j1 < y36n → j1 ∉ y36s → y36s.length < y36n → y13.length = y36n ∧ cl f_unify_unifier_measure [.ptr (.own 0) 0, .agg [.v .str ((y13.getD j1 []).headD V.none), .v .bool (V.b true), .nil], .mp (.own 3)] [.cells [.mp (.own 1), .mp (.own 2)], .map mt_9_24 y13, .map mt_82_4 y14, .map mt_9_80 y31] fun r2 H3 => r2 = (.agg [.v (.int .i64) ((r2.cells.headD .undef).V), .v (.int .i64) ((r2.cells.tail.headD .undef).V)]) ∧ H3 = [.cells [.mp (.own 1), .mp (.own 2)], .map mt_9_24 ((H3.tail.headD .dead).xs), .map mt_82_4 ((H3.tail.tail.headD .dead).xs), .map mt_9_80 ((H3.tail.tail.tail.headD .dead).xs)] ∧ iff (decide ((((r2.cells.headD .undef).V).int) > (4000 : Int))) ((True ∧ True ∧ True ∧ True) ∧ Q (.tup [.nil, .v .bool (V.b false), .v (.int .i64) (V.i 3)]) []) (iff (decide ((((r2.cells.tail.headD .undef).V).int) > (200 : Int))) ((True ∧ True ∧ True ∧ True) ∧ Q (.tup [.nil, .v .bool (V.b false), .v (.int .i64) (V.i 3)]) []) (jp_unify_Solve_0 Q m1 x8n ((y13.getD j1 []).headD V.none) ((y13.getD j1 []).headD V.none) true ((H3.tail.headD .dead).xs) ((H3.tail.tail.headD .dead).xs) ((H3.tail.tail.tail.headD .dead).xs) y36n (j1 :: y36s) y62)))
theorem lp_unify_Solve_1_s (Q : D → Heap → Prop) (m1 : Nat) (x8n : Nat) (y13 : List (List V)) (y14 : List (List V)) (y31 : List (List V)) (y36n : Nat) (y36s : List Nat) (y62 : List (List V)) : lp_unify_Solve_1 Q (m1 + 1) x8n y13 y14 y31 y36n y36s y62 = st_unify_Solve_1 Q m1 x8n y13 y14 y31 y36n y36s y62 := by kernel_rfl
theorem rule_unify_Solve_1 (Q : D → Heap → Prop) (I : Nat → List (List V) → List (List V) → List (List V) → Nat → List Nat → List (List V) → Prop) (μ : Nat → List (List V) → List (List V) → List (List V) → Nat → List Nat → List (List V) → Nat)
    (hs : ∀ (x8n : Nat) (y13 : List (List V)) (y14 : List (List V)) (y31 : List (List V)) (y36n : Nat) (y36s : List Nat) (y62 : List (List V)), I x8n y13 y14 y31 y36n y36s y62 → ∀ m1 : Nat, (∀ (x8n' : Nat) (y13' : List (List V)) (y14' : List (List V)) (y31' : List (List V)) (y36n' : Nat) (y36s' : List Nat) (y62' : List (List V)), I x8n' y13' y14' y31' y36n' y36s' y62' → μ x8n' y13' y14' y31' y36n' y36s' y62' < μ x8n y13 y14 y31 y36n y36s y62 → lp_unify_Solve_1 Q m1 x8n' y13' y14' y31' y36n' y36s' y62') → st_unify_Solve_1 Q m1 x8n y13 y14 y31 y36n y36s y62) :
    ∀ (x8n : Nat) (y13 : List (List V)) (y14 : List (List V)) (y31 : List (List V)) (y36n : Nat) (y36s : List Nat) (y62 : List (List V)), I x8n y13 y14 y31 y36n y36s y62 → ∃ m1, lp_unify_Solve_1 Q m1 x8n y13 y14 y31 y36n y36s y62 := by
  have key : ∀ (n : Nat) (x8n : Nat) (y13 : List (List V)) (y14 : List (List V)) (y31 : List (List V)) (y36n : Nat) (y36s : List Nat) (y62 : List (List V)), μ x8n y13 y14 y31 y36n y36s y62 < n → I x8n y13 y14 y31 y36n y36s y62 → lp_unify_Solve_1 Q n x8n y13 y14 y31 y36n y36s y62 := by
    intro n
    induction n with
    | zero => intro x8n y13 y14 y31 y36n y36s y62 hm; exact absurd hm (Nat.not_lt_zero _)
    | succ n ih =>
      intro x8n y13 y14 y31 y36n y36s y62 hm hi
      rw [lp_unify_Solve_1_s]
      exact hs x8n y13 y14 y31 y36n y36s y62 hi n fun x8n' y13' y14' y31' y36n' y36s' y62' hq hlt => ih x8n' y13' y14' y31' y36n' y36s' y62' (Nat.lt_of_lt_of_le hlt (Nat.le_of_lt_succ hm)) hq
  intro x8n y13 y14 y31 y36n y36s y62 hi
  exact ⟨μ x8n y13 y14 y31 y36n y36s y62 + 1, key _ x8n y13 y14 y31 y36n y36s y62 (Nat.lt_succ_self _) hi⟩
def st_unify_Solve_0 (Q : D → Heap → Prop) (m0 : Nat) (x17 : List (List V)) (x18 : Int) (x19 : Int) (y13 : List (List V)) (y14 : List (List V)) : Prop :=
  iff (decide (x19 < x18)) (0 ≤ x19 ∧ x19 < x17.length ∧ cl f_unify_unifier_solve [.ptr (.own 0) 0, .agg [.v .str (((x17.getD x19.toNat []).drop 0).headD V.none), .v .bool ((((x17.getD x19.toNat []).drop 0).tail).headD V.none), .v (.sl t_Term) (((((x17.getD x19.toNat []).drop 0).tail).tail).headD V.none)], .agg [.v .str ((((((x17.getD x19.toNat []).drop 0).tail).tail).tail).headD V.none), .v .bool (((((((x17.getD x19.toNat []).drop 0).tail).tail).tail).tail).headD V.none), .v (.sl t_Term) ((((((((x17.getD x19.toNat []).drop 0).tail).tail).tail).tail).tail).headD V.none)]] [.cells [.mp (.own 1), .mp (.own 2)], .map mt_9_24 y13, .map mt_82_4 y14] fun r1 H2 => r1 = (.v .bool (r1.V)) ∧ H2 = [.cells [.mp (.own 1), .mp (.own 2)], .map mt_9_24 ((H2.tail.headD .dead).xs), .map mt_82_4 ((H2.tail.tail.headD .dead).xs)] ∧ iff (!r1.V.bool) ((True ∧ True ∧ True ∧ True) ∧ Q (.tup [.nil, .v .bool (V.b false), .v (.int .i64) (V.i 0)]) []) (lp_unify_Solve_0 Q m0 x17 x18 (IntKind.i64.wrap (x19 + (1 : Int))) ((H2.tail.headD .dead).xs) ((H2.tail.tail.headD .dead).xs))) (∃ m1, lp_unify_Solve_1 Q m1 0 y13 y14 (([] : List (List V))) y13.length (([] : List Nat)) (([] : List (List V))))
theorem lp_unify_Solve_0_s (Q : D → Heap → Prop) (m0 : Nat) (x17 : List (List V)) (x18 : Int) (x19 : Int) (y13 : List (List V)) (y14 : List (List V)) : lp_unify_Solve_0 Q (m0 + 1) x17 x18 x19 y13 y14 = st_unify_Solve_0 Q m0 x17 x18 x19 y13 y14 := by kernel_rfl
theorem rule_unify_Solve_0 (Q : D → Heap → Prop) (I : List (List V) → Int → Int → List (List V) → List (List V) → Prop) (μ : List (List V) → Int → Int → List (List V) → List (List V) → Nat)
    (hs : ∀ (x17 : List (List V)) (x18 : Int) (x19 : Int) (y13 : List (List V)) (y14 : List (List V)), I x17 x18 x19 y13 y14 → ∀ m0 : Nat, (∀ (x17' : List (List V)) (x18' : Int) (x19' : Int) (y13' : List (List V)) (y14' : List (List V)), I x17' x18' x19' y13' y14' → μ x17' x18' x19' y13' y14' < μ x17 x18 x19 y13 y14 → lp_unify_Solve_0 Q m0 x17' x18' x19' y13' y14') → st_unify_Solve_0 Q m0 x17 x18 x19 y13 y14) :
    ∀ (x17 : List (List V)) (x18 : Int) (x19 : Int) (y13 : List (List V)) (y14 : List (List V)), I x17 x18 x19 y13 y14 → ∃ m0, lp_unify_Solve_0 Q m0 x17 x18 x19 y13 y14 := by
  have key : ∀ (n : Nat) (x17 : List (List V)) (x18 : Int) (x19 : Int) (y13 : List (List V)) (y14 : List (List V)), μ x17 x18 x19 y13 y14 < n → I x17 x18 x19 y13 y14 → lp_unify_Solve_0 Q n x17 x18 x19 y13 y14 := by
    intro n
    induction n with
    | zero => intro x17 x18 x19 y13 y14 hm; exact absurd hm (Nat.not_lt_zero _)
    | succ n ih =>
      intro x17 x18 x19 y13 y14 hm hi
      rw [lp_unify_Solve_0_s]
      exact hs x17 x18 x19 y13 y14 hi n fun x17' x18' x19' y13' y14' hq hlt => ih x17' x18' x19' y13' y14' (Nat.lt_of_lt_of_le hlt (Nat.le_of_lt_succ hm)) hq
  intro x17 x18 x19 y13 y14 hi
  exact ⟨μ x17 x18 x19 y13 y14 + 1, key _ x17 x18 x19 y13 y14 (Nat.lt_succ_self _) hi⟩
theorem range_unify_Solve_0 (Q : D → Heap → Prop) (x17 : List (List V)) (n : Nat) (hb : n ≤ big) (J : Nat → List (List V) → List (List V) → Prop)
    (step : ∀ (k : Nat) (y13 : List (List V)) (y14 : List (List V)), k < n → J k y13 y14 → ∀ K : List (List V) → List (List V) → Prop, (∀ (y13' : List (List V)) (y14' : List (List V)), J (k + 1) y13' y14' → K y13' y14') → (0 ≤ (k : Int) ∧ (k : Int) < x17.length ∧ cl f_unify_unifier_solve [.ptr (.own 0) 0, .agg [.v .str (((x17.getD k []).drop 0).headD V.none), .v .bool ((((x17.getD k []).drop 0).tail).headD V.none), .v (.sl t_Term) (((((x17.getD k []).drop 0).tail).tail).headD V.none)], .agg [.v .str ((((((x17.getD k []).drop 0).tail).tail).tail).headD V.none), .v .bool (((((((x17.getD k []).drop 0).tail).tail).tail).tail).headD V.none), .v (.sl t_Term) ((((((((x17.getD k []).drop 0).tail).tail).tail).tail).tail).headD V.none)]] [.cells [.mp (.own 1), .mp (.own 2)], .map mt_9_24 y13, .map mt_82_4 y14] fun r1 H2 => r1 = (.v .bool (r1.V)) ∧ H2 = [.cells [.mp (.own 1), .mp (.own 2)], .map mt_9_24 ((H2.tail.headD .dead).xs), .map mt_82_4 ((H2.tail.tail.headD .dead).xs)] ∧ iff (!r1.V.bool) ((True ∧ True ∧ True ∧ True) ∧ Q (.tup [.nil, .v .bool (V.b false), .v (.int .i64) (V.i 0)]) []) (K ((H2.tail.headD .dead).xs) ((H2.tail.tail.headD .dead).xs))))
    (last : ∀ (y13 : List (List V)) (y14 : List (List V)), J n y13 y14 → (∃ m1, lp_unify_Solve_1 Q m1 0 y13 y14 (([] : List (List V))) y13.length (([] : List Nat)) (([] : List (List V)))))
    (k : Nat) (y13 : List (List V)) (y14 : List (List V)) (le0 : k ≤ n) (hj : J k y13 y14) : ∃ m0, lp_unify_Solve_0 Q m0 x17 (n : Int) ((k : Int)) y13 y14 := by
  refine rule_unify_Solve_0 Q (fun x17' x18' x19' y13' y14' => x17 = x17' ∧ (n : Int) = x18' ∧ ∃ k : Nat, (k : Int) = x19' ∧ k ≤ n ∧ J k y13' y14') (fun x17' x18' x19' y13' y14' => (n : Int).toNat - x19'.toNat) ?_ x17 ((n : Int)) ((k : Int)) y13 y14 ⟨rfl, rfl, k, rfl, le0, hj⟩
  rintro x17' x18' x19' y13' y14' ⟨rfl, rfl, k', rfl, hk, hj⟩ m hi
  have key : ∀ (b : Bool), b = decide ((k' : Int) < (n : Int)) → b = decide (k' < n) := fun b h => by rw [h]; simp
  by_cases hlt : k' < n
  · have hlt2 : (k' : Int) < (n : Int) := by omega
    have hw : IntKind.i64.wrap ((k' : Int) + (1 : Int)) = ((k' + 1 : Nat) : Int) := wrap_next k' (Nat.lt_of_lt_of_le hlt hb)
    refine iff_yes (decide_eq_true hlt2) ?_
    refine step k' y13' y14' hlt hj (fun y13'' y14'' => lp_unify_Solve_0 Q m x17 (n : Int) (IntKind.i64.wrap ((k' : Int) + (1 : Int))) y13'' y14'') (fun y13'' y14'' h => ?_)
    show lp_unify_Solve_0 Q m x17 (n : Int) (IntKind.i64.wrap ((k' : Int) + (1 : Int))) y13'' y14''
    rw [hw]
    exact hi x17 ((n : Int)) (((k' + 1 : Nat) : Int)) y13'' y14'' ⟨rfl, rfl, k' + 1, rfl, hlt, h⟩ (by simp only [Int.toNat_natCast]; omega)
  · have he : k' = n := Nat.le_antisymm hk (Nat.le_of_not_lt hlt)
    subst he
    exact iff_no (decide_eq_false (by omega)) (last y13' y14' hj)
def vc_unify_Solve (a0 : List (List V)) (Q : D → Heap → Prop) : Prop :=
  (a0.length ≤ big → ∃ m0, lp_unify_Solve_0 Q m0 a0 ((a0.length : Int)) 0 (([] : List (List V))) (([] : List (List V))))
theorem C_unify_Solve (a0 : List (List V)) (Q : D → Heap → Prop) (h : vc_unify_Solve a0 Q) : cl f_unify_Solve [.v (.sl t_Rule) (V.l a0)] [] Q :=
  acalls_of_fn (envOk adj_unify_Solve cut_unify_Solve lit_unify_Solve frz_unify_Solve jns_unify_Solve) 1 Try.func33 (by rw [show evFn (envA adj_unify_Solve cut_unify_Solve lit_unify_Solve frz_unify_Solve jns_unify_Solve) Try.f33 1 [.v (.sl t_Rule) (V.l a0)] [] Q = vc_unify_Solve a0 Q from by kernel_rfl]; exact h)
end Go.Proofs.Ytgohjdaepcmonaa
