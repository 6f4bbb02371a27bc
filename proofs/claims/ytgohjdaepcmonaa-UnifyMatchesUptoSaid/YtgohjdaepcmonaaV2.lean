import Derived.Test.YtgohjdaepcmonaaT
set_option linter.unusedVariables false
set_option maxRecDepth 100000
namespace Go.Proofs.Ytgohjdaepcmonaa
open Go.Abs
def adj_r01_Compare : List (Nat × List Adj) := [(12, [.undef 0, .undef 1, .undef 4, .undef 5, .undef 6, .undef 7, .undef 8, .undef 9, .undef 10, .undef 11, .undef 12, .undef 13, .undef 16, .undef 17, .undef 18, .undef 19, .undef 20, .undef 21, .undef 22, .undef 24, .undef 25, .undef 26, .undef 27, .undef 28, .undef 29, .undef 30, .undef 31, .undef 32, .undef 34, .undef 35, .undef 38, .undef 39, .undef 40, .undef 41, .undef 42, .undef 43, .undef 44, .undef 45, .undef 46, .undef 47, .undef 48, .undef 49, .undef 50, .undef 51, .undef 52, .undef 53, .undef 54, .dead 50])]
def cut_r01_Compare : CutT := [(14, 10, [], [])]
def lit_r01_Compare : List Nat := []
def frz_r01_Compare : List (Nat × List Frz) := []
def jns_r01_Compare : List Nat := []
def env_r01_Compare : Env := envA adj_r01_Compare cut_r01_Compare lit_r01_Compare frz_r01_Compare jns_r01_Compare
@[irreducible] def lp_r01_Compare_0 (Q : D → Heap → Prop) (m0 : Nat) (x36 : Int) (x37 : Int) (y2_0 : ByteArray) (y2_1 : Bool) (y2_2 : List (List V)) (y3_0 : ByteArray) (y3_1 : Bool) (y3_2 : List (List V)) : Prop :=
  iter (adj (adjLook adj_r01_Compare 12)) (evCode env_r01_Compare (fnAt [1, 1, 1, 1, 0, 1, 0, 0] Try.f37)) (blockK 0 (seqK (adj (adjLook adj_r01_Compare (3000000 + key (fnAt [1, 1, 1, 1, 1] Try.f37)))) (joinIf (env_r01_Compare.join (key (fnAt [1, 1, 1, 1, 1] Try.f37))) (evCode env_r01_Compare (fnAt [1, 1, 1, 1, 1] Try.f37))) (endK env_r01_Compare Try.f37 Q))) m0 ⟨[.undef, .undef, .ptr (.loc 2) 0, .ptr (.loc 3) 0, .undef, .undef, .undef, .undef, .undef, .undef, .undef, .undef, .undef, .undef, .skip, .skip, .undef, .undef, .undef, .undef, .undef, .undef, .undef, .skip, .undef, .undef, .undef, .undef, .undef, .undef, .undef, .undef, .undef, .skip, .undef, .undef, .v (.int .i64) (V.i x36), .v (.int .i64) (V.i x37), .undef, .undef, .undef, .undef, .undef, .undef, .undef, .undef, .undef, .undef, .undef, .undef, .undef, .undef, .undef, .undef, .undef], [.dead, .dead, .cells [.v .str (V.s y2_0), .v .bool (V.b y2_1), .v (.sl t_Term) (V.l y2_2)], .cells [.v .str (V.s y3_0), .v .bool (V.b y3_1), .v (.sl t_Term) (V.l y3_2)], .dead, .dead, .dead, .dead, .dead, .dead, .dead, .dead, .dead, .dead, .dead, .dead, .dead, .dead, .dead, .dead, .dead, .dead, .dead, .dead, .dead, .dead, .dead, .dead, .dead, .dead, .dead, .dead, .dead, .dead, .dead, .dead, .dead, .dead, .dead, .dead, .dead, .dead, .dead, .dead, .dead, .dead, .dead, .dead, .dead, .dead, .dead, .dead, .dead, .dead, .dead]⟩ []
def st_r01_Compare_0 (Q : D → Heap → Prop) (m0 : Nat) (x36 : Int) (x37 : Int) (y2_0 : ByteArray) (y2_1 : Bool) (y2_2 : List (List V)) (y3_0 : ByteArray) (y3_1 : Bool) (y3_2 : List (List V)) : Prop :=
  iff (decide (x37 < x36)) (0 ≤ x37 ∧ x37 < y2_2.length ∧ 0 ≤ x37 ∧ x37 < y3_2.length ∧ cl f_r01_Compare [.agg [.v .str (((y2_2.getD x37.toNat []).drop 0).headD V.none), .v .bool ((((y2_2.getD x37.toNat []).drop 0).tail).headD V.none), .v (.sl t_Term) (((((y2_2.getD x37.toNat []).drop 0).tail).tail).headD V.none)], .agg [.v .str (((y3_2.getD x37.toNat []).drop 0).headD V.none), .v .bool ((((y3_2.getD x37.toNat []).drop 0).tail).headD V.none), .v (.sl t_Term) (((((y3_2.getD x37.toNat []).drop 0).tail).tail).headD V.none)]] [] fun r1 H2 => r1 = (.v (.int .i64) (r1.V)) ∧ H2 = [] ∧ iff (r1.V.int != (0 : Int)) (True ∧ Q (.v (.int .i64) (r1.V)) []) (lp_r01_Compare_0 Q m0 x36 (IntKind.i64.wrap (x37 + (1 : Int))) y2_0 y2_1 y2_2 y3_0 y3_1 y3_2)) (True ∧ Q (.v (.int .i64) (V.i 0)) [])
theorem lp_r01_Compare_0_s (Q : D → Heap → Prop) (m0 : Nat) (x36 : Int) (x37 : Int) (y2_0 : ByteArray) (y2_1 : Bool) (y2_2 : List (List V)) (y3_0 : ByteArray) (y3_1 : Bool) (y3_2 : List (List V)) : lp_r01_Compare_0 Q (m0 + 1) x36 x37 y2_0 y2_1 y2_2 y3_0 y3_1 y3_2 = st_r01_Compare_0 Q m0 x36 x37 y2_0 y2_1 y2_2 y3_0 y3_1 y3_2 := by kernel_rfl
theorem rule_r01_Compare_0 (Q : D → Heap → Prop) (I : Int → Int → ByteArray → Bool → List (List V) → ByteArray → Bool → List (List V) → Prop) (μ : Int → Int → ByteArray → Bool → List (List V) → ByteArray → Bool → List (List V) → Nat)
    (hs : ∀ (x36 : Int) (x37 : Int) (y2_0 : ByteArray) (y2_1 : Bool) (y2_2 : List (List V)) (y3_0 : ByteArray) (y3_1 : Bool) (y3_2 : List (List V)), I x36 x37 y2_0 y2_1 y2_2 y3_0 y3_1 y3_2 → ∀ m0 : Nat, (∀ (x36' : Int) (x37' : Int) (y2_0' : ByteArray) (y2_1' : Bool) (y2_2' : List (List V)) (y3_0' : ByteArray) (y3_1' : Bool) (y3_2' : List (List V)), I x36' x37' y2_0' y2_1' y2_2' y3_0' y3_1' y3_2' → μ x36' x37' y2_0' y2_1' y2_2' y3_0' y3_1' y3_2' < μ x36 x37 y2_0 y2_1 y2_2 y3_0 y3_1 y3_2 → lp_r01_Compare_0 Q m0 x36' x37' y2_0' y2_1' y2_2' y3_0' y3_1' y3_2') → st_r01_Compare_0 Q m0 x36 x37 y2_0 y2_1 y2_2 y3_0 y3_1 y3_2) :
    ∀ (x36 : Int) (x37 : Int) (y2_0 : ByteArray) (y2_1 : Bool) (y2_2 : List (List V)) (y3_0 : ByteArray) (y3_1 : Bool) (y3_2 : List (List V)), I x36 x37 y2_0 y2_1 y2_2 y3_0 y3_1 y3_2 → ∃ m0, lp_r01_Compare_0 Q m0 x36 x37 y2_0 y2_1 y2_2 y3_0 y3_1 y3_2 := by
  have key : ∀ (n : Nat) (x36 : Int) (x37 : Int) (y2_0 : ByteArray) (y2_1 : Bool) (y2_2 : List (List V)) (y3_0 : ByteArray) (y3_1 : Bool) (y3_2 : List (List V)), μ x36 x37 y2_0 y2_1 y2_2 y3_0 y3_1 y3_2 < n → I x36 x37 y2_0 y2_1 y2_2 y3_0 y3_1 y3_2 → lp_r01_Compare_0 Q n x36 x37 y2_0 y2_1 y2_2 y3_0 y3_1 y3_2 := by
    intro n
    induction n with
    | zero => intro x36 x37 y2_0 y2_1 y2_2 y3_0 y3_1 y3_2 hm; exact absurd hm (Nat.not_lt_zero _)
    | succ n ih =>
      intro x36 x37 y2_0 y2_1 y2_2 y3_0 y3_1 y3_2 hm hi
      rw [lp_r01_Compare_0_s]
      exact hs x36 x37 y2_0 y2_1 y2_2 y3_0 y3_1 y3_2 hi n fun x36' x37' y2_0' y2_1' y2_2' y3_0' y3_1' y3_2' hq hlt => ih x36' x37' y2_0' y2_1' y2_2' y3_0' y3_1' y3_2' (Nat.lt_of_lt_of_le hlt (Nat.le_of_lt_succ hm)) hq
  intro x36 x37 y2_0 y2_1 y2_2 y3_0 y3_1 y3_2 hi
  exact ⟨μ x36 x37 y2_0 y2_1 y2_2 y3_0 y3_1 y3_2 + 1, key _ x36 x37 y2_0 y2_1 y2_2 y3_0 y3_1 y3_2 (Nat.lt_succ_self _) hi⟩
theorem range_r01_Compare_0 (Q : D → Heap → Prop) (y2_0 : ByteArray) (y2_1 : Bool) (y2_2 : List (List V)) (y3_0 : ByteArray) (y3_1 : Bool) (y3_2 : List (List V)) (n : Nat) (hb : n ≤ big) (J : Nat → Prop)
    (step : ∀ (k : Nat), k < n → J k → ∀ K : Prop, (J (k + 1) → K) → (0 ≤ (k : Int) ∧ (k : Int) < y2_2.length ∧ 0 ≤ (k : Int) ∧ (k : Int) < y3_2.length ∧ cl f_r01_Compare [.agg [.v .str (((y2_2.getD k []).drop 0).headD V.none), .v .bool ((((y2_2.getD k []).drop 0).tail).headD V.none), .v (.sl t_Term) (((((y2_2.getD k []).drop 0).tail).tail).headD V.none)], .agg [.v .str (((y3_2.getD k []).drop 0).headD V.none), .v .bool ((((y3_2.getD k []).drop 0).tail).headD V.none), .v (.sl t_Term) (((((y3_2.getD k []).drop 0).tail).tail).headD V.none)]] [] fun r1 H2 => r1 = (.v (.int .i64) (r1.V)) ∧ H2 = [] ∧ iff (r1.V.int != (0 : Int)) (True ∧ Q (.v (.int .i64) (r1.V)) []) (K)))
    (last : J n → (True ∧ Q (.v (.int .i64) (V.i 0)) []))
    (k : Nat) (le0 : k ≤ n) (hj : J k) : ∃ m0, lp_r01_Compare_0 Q m0 (n : Int) ((k : Int)) y2_0 y2_1 y2_2 y3_0 y3_1 y3_2 := by
  refine rule_r01_Compare_0 Q (fun x36' x37' y2_0' y2_1' y2_2' y3_0' y3_1' y3_2' => (n : Int) = x36' ∧ y2_0 = y2_0' ∧ y2_1 = y2_1' ∧ y2_2 = y2_2' ∧ y3_0 = y3_0' ∧ y3_1 = y3_1' ∧ y3_2 = y3_2' ∧ ∃ k : Nat, (k : Int) = x37' ∧ k ≤ n ∧ J k) (fun x36' x37' y2_0' y2_1' y2_2' y3_0' y3_1' y3_2' => (n : Int).toNat - x37'.toNat) ?_ ((n : Int)) ((k : Int)) y2_0 y2_1 y2_2 y3_0 y3_1 y3_2 ⟨rfl, rfl, rfl, rfl, rfl, rfl, rfl, k, rfl, le0, hj⟩
  rintro x36' x37' y2_0' y2_1' y2_2' y3_0' y3_1' y3_2' ⟨rfl, rfl, rfl, rfl, rfl, rfl, rfl, k', rfl, hk, hj⟩ m hi
  have key : ∀ (b : Bool), b = decide ((k' : Int) < (n : Int)) → b = decide (k' < n) := fun b h => by rw [h]; simp
  by_cases hlt : k' < n
  · have hlt2 : (k' : Int) < (n : Int) := by omega
    have hw : IntKind.i64.wrap ((k' : Int) + (1 : Int)) = ((k' + 1 : Nat) : Int) := wrap_next k' (Nat.lt_of_lt_of_le hlt hb)
    refine iff_yes (decide_eq_true hlt2) ?_
    refine step k' hlt hj (lp_r01_Compare_0 Q m (n : Int) (IntKind.i64.wrap ((k' : Int) + (1 : Int))) y2_0 y2_1 y2_2 y3_0 y3_1 y3_2) (fun h => ?_)
    show lp_r01_Compare_0 Q m (n : Int) (IntKind.i64.wrap ((k' : Int) + (1 : Int))) y2_0 y2_1 y2_2 y3_0 y3_1 y3_2
    rw [hw]
    exact hi ((n : Int)) (((k' + 1 : Nat) : Int)) y2_0 y2_1 y2_2 y3_0 y3_1 y3_2 ⟨rfl, rfl, rfl, rfl, rfl, rfl, rfl, k' + 1, rfl, hlt, h⟩ (by simp only [Int.toNat_natCast]; omega)
  · have he : k' = n := Nat.le_antisymm hk (Nat.le_of_not_lt hlt)
    subst he
    exact iff_no (decide_eq_false (by omega)) (last hj)
def vc_r01_Compare (a0_0 : ByteArray) (a0_1 : Bool) (a0_2 : List (List V)) (a1_0 : ByteArray) (a1_1 : Bool) (a1_2 : List (List V)) (Q : D → Heap → Prop) : Prop :=
  iff (!(a0_1 == a1_1)) (iff a0_1 (True ∧ Q (.v (.int .i64) (V.i (-1))) []) (True ∧ Q (.v (.int .i64) (V.i 1)) [])) (cl f_r01_CompareNames [.v .str (V.s a0_0), .v .str (V.s a1_0)] [] fun r1 H2 => r1 = (.v (.int .i64) (r1.V)) ∧ H2 = [] ∧ iff (r1.V.int != (0 : Int)) (True ∧ Q (.v (.int .i64) (r1.V)) []) ((a0_2.length ≤ big → (a1_2.length ≤ big → cl f_r01_CompareInts [.v (.int .i64) (V.i ((a0_2.length : Int))), .v (.int .i64) (V.i ((a1_2.length : Int)))] [] fun r3 H4 => r3 = (.v (.int .i64) (r3.V)) ∧ H4 = [] ∧ iff (r3.V.int != (0 : Int)) (True ∧ Q (.v (.int .i64) (r3.V)) []) ((a0_2.length ≤ big → ∃ m0, lp_r01_Compare_0 Q m0 ((a0_2.length : Int)) 0 a0_0 a0_1 a0_2 a1_0 a1_1 a1_2))))))
theorem C_r01_Compare (a0_0 : ByteArray) (a0_1 : Bool) (a0_2 : List (List V)) (a1_0 : ByteArray) (a1_1 : Bool) (a1_2 : List (List V)) (Q : D → Heap → Prop) (h : vc_r01_Compare a0_0 a0_1 a0_2 a1_0 a1_1 a1_2 Q) : cl f_r01_Compare [.agg [.v .str (V.s a0_0), .v .bool (V.b a0_1), .v (.sl t_Term) (V.l a0_2)], .agg [.v .str (V.s a1_0), .v .bool (V.b a1_1), .v (.sl t_Term) (V.l a1_2)]] [] Q :=
  acalls_of_fn (envOk adj_r01_Compare cut_r01_Compare lit_r01_Compare frz_r01_Compare jns_r01_Compare) 0 Try.func37 (by rw [show evFn (envA adj_r01_Compare cut_r01_Compare lit_r01_Compare frz_r01_Compare jns_r01_Compare) Try.f37 0 [.agg [.v .str (V.s a0_0), .v .bool (V.b a0_1), .v (.sl t_Term) (V.l a0_2)], .agg [.v .str (V.s a1_0), .v .bool (V.b a1_1), .v (.sl t_Term) (V.l a1_2)]] [] Q = vc_r01_Compare a0_0 a0_1 a0_2 a1_0 a1_1 a1_2 Q from by kernel_rfl]; exact h)
def adj_r01_Formed : List (Nat × List Adj) := [(6, [.undef 0, .undef 1, .undef 2, .undef 4, .undef 5, .undef 6, .undef 16, .undef 17, .undef 18, .undef 19, .undef 20, .undef 21, .undef 22, .undef 23, .undef 24, .undef 25, .undef 26, .undef 30, .undef 31, .undef 32, .undef 33, .undef 34, .undef 35, .undef 36, .dead 1, .dead 4, .dead 34]), (3000005, [.undef 0, .undef 2, .undef 5, .undef 6, .undef 16, .undef 17, .undef 18, .undef 19, .undef 20, .undef 21, .undef 22, .undef 23, .undef 24, .undef 25, .dead 18, .dead 23])]
def cut_r01_Formed : CutT := []
def lit_r01_Formed : List Nat := []
def frz_r01_Formed : List (Nat × List Frz) := []
def jns_r01_Formed : List Nat := [5]
def env_r01_Formed : Env := envA adj_r01_Formed cut_r01_Formed lit_r01_Formed frz_r01_Formed jns_r01_Formed
@[irreducible] def lp_r01_Formed_0 (Q : D → Heap → Prop) (m0 : Nat) (x27 : List (List V)) (x28 : Int) (x29 : Int) : Prop :=
  iter (adj (adjLook adj_r01_Formed 6)) (evCode env_r01_Formed (fnAt [1, 1, 1, 0, 1, 0, 0] Try.f38)) (blockK 0 (seqK (adj (adjLook adj_r01_Formed (3000000 + key (fnAt [1, 1, 1, 1] Try.f38)))) (joinIf (env_r01_Formed.join (key (fnAt [1, 1, 1, 1] Try.f38))) (evCode env_r01_Formed (fnAt [1, 1, 1, 1] Try.f38))) (endK env_r01_Formed Try.f38 Q))) m0 ⟨[.undef, .undef, .undef, .skip, .undef, .undef, .undef, .skip, .skip, .skip, .skip, .skip, .skip, .skip, .skip, .skip, .undef, .undef, .undef, .undef, .undef, .undef, .undef, .undef, .undef, .undef, .undef, .v (.sl t_Term) (V.l x27), .v (.int .i64) (V.i x28), .v (.int .i64) (V.i x29), .undef, .undef, .undef, .undef, .undef, .undef, .undef], [.dead, .dead, .dead, .dead, .dead, .dead, .dead, .dead, .dead, .dead, .dead, .dead, .dead, .dead, .dead, .dead, .dead, .dead, .dead, .dead, .dead, .dead, .dead, .dead, .dead, .dead, .dead, .dead, .dead, .dead, .dead, .dead, .dead, .dead, .dead, .dead, .dead]⟩ []
@[irreducible] def jp_r01_Formed_0 (Q : D → Heap → Prop) (y1_0 : ByteArray) (y1_1 : Bool) (y1_2 : List (List V)) : Prop :=
  joinM (evCode env_r01_Formed (fnAt [1, 1, 1] Try.f38)) ⟨[.undef, .ptr (.loc 1) 0, .undef, .skip, .skip, .undef, .undef, .skip, .skip, .skip, .skip, .skip, .skip, .skip, .skip, .skip, .undef, .undef, .undef, .undef, .undef, .undef, .undef, .undef, .undef, .undef, .skip, .skip, .skip, .skip, .skip, .skip, .skip, .skip, .skip, .skip, .skip], [.dead, .cells [.v .str (V.s y1_0), .v .bool (V.b y1_1), .v (.sl t_Term) (V.l y1_2)], .dead, .dead, .dead, .dead, .dead, .dead, .dead, .dead, .dead, .dead, .dead, .dead, .dead, .dead, .dead, .dead, .dead, .dead, .dead, .dead, .dead, .dead, .dead, .dead, .dead, .dead, .dead, .dead, .dead, .dead, .dead, .dead, .dead, .dead, .dead]⟩ [] (endK env_r01_Formed Try.f38 Q)
def st_r01_Formed_0 (Q : D → Heap → Prop) (m0 : Nat) (x27 : List (List V)) (x28 : Int) (x29 : Int) : Prop :=
  iff (decide (x29 < x28)) (0 ≤ x29 ∧ x29 < x27.length ∧ cl f_r01_Formed [.agg [.v .str (((x27.getD x29.toNat []).drop 0).headD V.none), .v .bool ((((x27.getD x29.toNat []).drop 0).tail).headD V.none), .v (.sl t_Term) (((((x27.getD x29.toNat []).drop 0).tail).tail).headD V.none)]] [] fun r1 H2 => r1 = (.v .bool (r1.V)) ∧ H2 = [] ∧ iff (!r1.V.bool) (True ∧ Q (.v .bool (V.b false)) []) (lp_r01_Formed_0 Q m0 x27 x28 (IntKind.i64.wrap (x29 + (1 : Int))))) (True ∧ Q (.v .bool (V.b true)) [])
theorem lp_r01_Formed_0_s (Q : D → Heap → Prop) (m0 : Nat) (x27 : List (List V)) (x28 : Int) (x29 : Int) : lp_r01_Formed_0 Q (m0 + 1) x27 x28 x29 = st_r01_Formed_0 Q m0 x27 x28 x29 := by kernel_rfl
theorem rule_r01_Formed_0 (Q : D → Heap → Prop) (I : List (List V) → Int → Int → Prop) (μ : List (List V) → Int → Int → Nat)
    (hs : ∀ (x27 : List (List V)) (x28 : Int) (x29 : Int), I x27 x28 x29 → ∀ m0 : Nat, (∀ (x27' : List (List V)) (x28' : Int) (x29' : Int), I x27' x28' x29' → μ x27' x28' x29' < μ x27 x28 x29 → lp_r01_Formed_0 Q m0 x27' x28' x29') → st_r01_Formed_0 Q m0 x27 x28 x29) :
    ∀ (x27 : List (List V)) (x28 : Int) (x29 : Int), I x27 x28 x29 → ∃ m0, lp_r01_Formed_0 Q m0 x27 x28 x29 := by
  have key : ∀ (n : Nat) (x27 : List (List V)) (x28 : Int) (x29 : Int), μ x27 x28 x29 < n → I x27 x28 x29 → lp_r01_Formed_0 Q n x27 x28 x29 := by
    intro n
    induction n with
    | zero => intro x27 x28 x29 hm; exact absurd hm (Nat.not_lt_zero _)
    | succ n ih =>
      intro x27 x28 x29 hm hi
      rw [lp_r01_Formed_0_s]
      exact hs x27 x28 x29 hi n fun x27' x28' x29' hq hlt => ih x27' x28' x29' (Nat.lt_of_lt_of_le hlt (Nat.le_of_lt_succ hm)) hq
  intro x27 x28 x29 hi
  exact ⟨μ x27 x28 x29 + 1, key _ x27 x28 x29 (Nat.lt_succ_self _) hi⟩
theorem range_r01_Formed_0 (Q : D → Heap → Prop) (x27 : List (List V)) (n : Nat) (hb : n ≤ big) (J : Nat → Prop)
    (step : ∀ (k : Nat), k < n → J k → ∀ K : Prop, (J (k + 1) → K) → (0 ≤ (k : Int) ∧ (k : Int) < x27.length ∧ cl f_r01_Formed [.agg [.v .str (((x27.getD k []).drop 0).headD V.none), .v .bool ((((x27.getD k []).drop 0).tail).headD V.none), .v (.sl t_Term) (((((x27.getD k []).drop 0).tail).tail).headD V.none)]] [] fun r1 H2 => r1 = (.v .bool (r1.V)) ∧ H2 = [] ∧ iff (!r1.V.bool) (True ∧ Q (.v .bool (V.b false)) []) (K)))
    (last : J n → (True ∧ Q (.v .bool (V.b true)) []))
    (k : Nat) (le0 : k ≤ n) (hj : J k) : ∃ m0, lp_r01_Formed_0 Q m0 x27 (n : Int) ((k : Int)) := by
  refine rule_r01_Formed_0 Q (fun x27' x28' x29' => x27 = x27' ∧ (n : Int) = x28' ∧ ∃ k : Nat, (k : Int) = x29' ∧ k ≤ n ∧ J k) (fun x27' x28' x29' => (n : Int).toNat - x29'.toNat) ?_ x27 ((n : Int)) ((k : Int)) ⟨rfl, rfl, k, rfl, le0, hj⟩
  rintro x27' x28' x29' ⟨rfl, rfl, k', rfl, hk, hj⟩ m hi
  have key : ∀ (b : Bool), b = decide ((k' : Int) < (n : Int)) → b = decide (k' < n) := fun b h => by rw [h]; simp
  by_cases hlt : k' < n
  · have hlt2 : (k' : Int) < (n : Int) := by omega
    have hw : IntKind.i64.wrap ((k' : Int) + (1 : Int)) = ((k' + 1 : Nat) : Int) := wrap_next k' (Nat.lt_of_lt_of_le hlt hb)
    refine iff_yes (decide_eq_true hlt2) ?_
    refine step k' hlt hj (lp_r01_Formed_0 Q m x27 (n : Int) (IntKind.i64.wrap ((k' : Int) + (1 : Int)))) (fun h => ?_)
    show lp_r01_Formed_0 Q m x27 (n : Int) (IntKind.i64.wrap ((k' : Int) + (1 : Int)))
    rw [hw]
    exact hi x27 ((n : Int)) (((k' + 1 : Nat) : Int)) ⟨rfl, rfl, k' + 1, rfl, hlt, h⟩ (by simp only [Int.toNat_natCast]; omega)
  · have he : k' = n := Nat.le_antisymm hk (Nat.le_of_not_lt hlt)
    subst he
    exact iff_no (decide_eq_false (by omega)) (last hj)
def je_r01_Formed_0 (Q : D → Heap → Prop) (y1_0 : ByteArray) (y1_1 : Bool) (y1_2 : List (List V)) : Prop :=
  (y1_2.length ≤ big → ∃ m0, lp_r01_Formed_0 Q m0 y1_2 ((y1_2.length : Int)) 0)
theorem jp_r01_Formed_0_s (Q : D → Heap → Prop) (y1_0 : ByteArray) (y1_1 : Bool) (y1_2 : List (List V)) : jp_r01_Formed_0 Q y1_0 y1_1 y1_2 = je_r01_Formed_0 Q y1_0 y1_1 y1_2 := by kernel_rfl
def vc_r01_Formed (a0_0 : ByteArray) (a0_1 : Bool) (a0_2 : List (List V)) (Q : D → Heap → Prop) : Prop :=
  iff a0_1 (cl f_r01_IsName [.v .str (V.s a0_0), .v .bool (V.b false)] [] fun r1 H2 => r1 = (.v .bool (r1.V)) ∧ H2 = [] ∧ iff r1.V.bool ((a0_2.length ≤ big → True ∧ Q (.v .bool (V.b (((a0_2.length : Int)) == (0 : Int)))) [])) (True ∧ Q (.v .bool (V.b false)) [])) (cl f_r01_IsName [.v .str (V.s a0_0), .v .bool (V.b true)] [] fun r3 H4 => r3 = (.v .bool (r3.V)) ∧ H4 = [] ∧ iff (!r3.V.bool) (True ∧ Q (.v .bool (V.b false)) []) ((a0_2.length ≤ big → iff (decide (((a0_2.length : Int)) > (8 : Int))) (True ∧ Q (.v .bool (V.b false)) []) (jp_r01_Formed_0 Q a0_0 a0_1 a0_2))))
theorem C_r01_Formed (a0_0 : ByteArray) (a0_1 : Bool) (a0_2 : List (List V)) (Q : D → Heap → Prop) (h : vc_r01_Formed a0_0 a0_1 a0_2 Q) : cl f_r01_Formed [.agg [.v .str (V.s a0_0), .v .bool (V.b a0_1), .v (.sl t_Term) (V.l a0_2)]] [] Q :=
  acalls_of_fn (envOk adj_r01_Formed cut_r01_Formed lit_r01_Formed frz_r01_Formed jns_r01_Formed) 0 Try.func38 (by rw [show evFn (envA adj_r01_Formed cut_r01_Formed lit_r01_Formed frz_r01_Formed jns_r01_Formed) Try.f38 0 [.agg [.v .str (V.s a0_0), .v .bool (V.b a0_1), .v (.sl t_Term) (V.l a0_2)]] [] Q = vc_r01_Formed a0_0 a0_1 a0_2 Q from by kernel_rfl]; exact h)
def adj_r01_Size : List (Nat × List Adj) := [(3, [.undef 0, .undef 1, .undef 2, .undef 5, .undef 6, .undef 10, .undef 11, .undef 12, .undef 13, .undef 14, .undef 15, .undef 16, .undef 17, .dead 1, .dead 5, .dead 15])]
def cut_r01_Size : CutT := []
def lit_r01_Size : List Nat := []
def frz_r01_Size : List (Nat × List Frz) := []
def jns_r01_Size : List Nat := []
def env_r01_Size : Env := envA adj_r01_Size cut_r01_Size lit_r01_Size frz_r01_Size jns_r01_Size
@[irreducible] def lp_r01_Size_0 (Q : D → Heap → Prop) (m0 : Nat) (x3 : Int) (x7 : List (List V)) (x8 : Int) (x9 : Int) : Prop :=
  iter (adj (adjLook adj_r01_Size 3)) (evCode env_r01_Size (fnAt [1, 1, 0, 1, 0, 0] Try.f39)) (blockK 0 (seqK (adj (adjLook adj_r01_Size (3000000 + key (fnAt [1, 1, 1] Try.f39)))) (joinIf (env_r01_Size.join (key (fnAt [1, 1, 1] Try.f39))) (evCode env_r01_Size (fnAt [1, 1, 1] Try.f39))) (endK env_r01_Size Try.f39 Q))) m0 ⟨[.undef, .undef, .undef, .v (.int .i64) (V.i x3), .skip, .undef, .undef, .v (.sl t_Term) (V.l x7), .v (.int .i64) (V.i x8), .v (.int .i64) (V.i x9), .undef, .undef, .undef, .undef, .undef, .undef, .undef, .undef, .skip], [.dead, .dead, .dead, .dead, .dead, .dead, .dead, .dead, .dead, .dead, .dead, .dead, .dead, .dead, .dead, .dead, .dead, .dead, .dead]⟩ []
def st_r01_Size_0 (Q : D → Heap → Prop) (m0 : Nat) (x3 : Int) (x7 : List (List V)) (x8 : Int) (x9 : Int) : Prop :=
  iff (decide (x9 < x8)) (0 ≤ x9 ∧ x9 < x7.length ∧ cl f_r01_Size [.agg [.v .str (((x7.getD x9.toNat []).drop 0).headD V.none), .v .bool ((((x7.getD x9.toNat []).drop 0).tail).headD V.none), .v (.sl t_Term) (((((x7.getD x9.toNat []).drop 0).tail).tail).headD V.none)]] [] fun r1 H2 => r1 = (.v (.int .i64) (r1.V)) ∧ H2 = [] ∧ lp_r01_Size_0 Q m0 (IntKind.i64.wrap (x3 + r1.V.int)) x7 x8 (IntKind.i64.wrap (x9 + (1 : Int)))) (True ∧ Q (.v (.int .i64) (V.i x3)) [])
theorem lp_r01_Size_0_s (Q : D → Heap → Prop) (m0 : Nat) (x3 : Int) (x7 : List (List V)) (x8 : Int) (x9 : Int) : lp_r01_Size_0 Q (m0 + 1) x3 x7 x8 x9 = st_r01_Size_0 Q m0 x3 x7 x8 x9 := by kernel_rfl
theorem rule_r01_Size_0 (Q : D → Heap → Prop) (I : Int → List (List V) → Int → Int → Prop) (μ : Int → List (List V) → Int → Int → Nat)
    (hs : ∀ (x3 : Int) (x7 : List (List V)) (x8 : Int) (x9 : Int), I x3 x7 x8 x9 → ∀ m0 : Nat, (∀ (x3' : Int) (x7' : List (List V)) (x8' : Int) (x9' : Int), I x3' x7' x8' x9' → μ x3' x7' x8' x9' < μ x3 x7 x8 x9 → lp_r01_Size_0 Q m0 x3' x7' x8' x9') → st_r01_Size_0 Q m0 x3 x7 x8 x9) :
    ∀ (x3 : Int) (x7 : List (List V)) (x8 : Int) (x9 : Int), I x3 x7 x8 x9 → ∃ m0, lp_r01_Size_0 Q m0 x3 x7 x8 x9 := by
  have key : ∀ (n : Nat) (x3 : Int) (x7 : List (List V)) (x8 : Int) (x9 : Int), μ x3 x7 x8 x9 < n → I x3 x7 x8 x9 → lp_r01_Size_0 Q n x3 x7 x8 x9 := by
    intro n
    induction n with
    | zero => intro x3 x7 x8 x9 hm; exact absurd hm (Nat.not_lt_zero _)
    | succ n ih =>
      intro x3 x7 x8 x9 hm hi
      rw [lp_r01_Size_0_s]
      exact hs x3 x7 x8 x9 hi n fun x3' x7' x8' x9' hq hlt => ih x3' x7' x8' x9' (Nat.lt_of_lt_of_le hlt (Nat.le_of_lt_succ hm)) hq
  intro x3 x7 x8 x9 hi
  exact ⟨μ x3 x7 x8 x9 + 1, key _ x3 x7 x8 x9 (Nat.lt_succ_self _) hi⟩
theorem range_r01_Size_0 (Q : D → Heap → Prop) (x7 : List (List V)) (n : Nat) (hb : n ≤ big) (J : Nat → Int → Prop)
    (step : ∀ (k : Nat) (x3 : Int), k < n → J k x3 → ∀ K : Int → Prop, (∀ (x3' : Int), J (k + 1) x3' → K x3') → (0 ≤ (k : Int) ∧ (k : Int) < x7.length ∧ cl f_r01_Size [.agg [.v .str (((x7.getD k []).drop 0).headD V.none), .v .bool ((((x7.getD k []).drop 0).tail).headD V.none), .v (.sl t_Term) (((((x7.getD k []).drop 0).tail).tail).headD V.none)]] [] fun r1 H2 => r1 = (.v (.int .i64) (r1.V)) ∧ H2 = [] ∧ K (IntKind.i64.wrap (x3 + r1.V.int))))
    (last : ∀ (x3 : Int), J n x3 → (True ∧ Q (.v (.int .i64) (V.i x3)) []))
    (k : Nat) (x3 : Int) (le0 : k ≤ n) (hj : J k x3) : ∃ m0, lp_r01_Size_0 Q m0 x3 x7 (n : Int) ((k : Int)) := by
  refine rule_r01_Size_0 Q (fun x3' x7' x8' x9' => x7 = x7' ∧ (n : Int) = x8' ∧ ∃ k : Nat, (k : Int) = x9' ∧ k ≤ n ∧ J k x3') (fun x3' x7' x8' x9' => (n : Int).toNat - x9'.toNat) ?_ x3 x7 ((n : Int)) ((k : Int)) ⟨rfl, rfl, k, rfl, le0, hj⟩
  rintro x3' x7' x8' x9' ⟨rfl, rfl, k', rfl, hk, hj⟩ m hi
  have key : ∀ (b : Bool), b = decide ((k' : Int) < (n : Int)) → b = decide (k' < n) := fun b h => by rw [h]; simp
  by_cases hlt : k' < n
  · have hlt2 : (k' : Int) < (n : Int) := by omega
    have hw : IntKind.i64.wrap ((k' : Int) + (1 : Int)) = ((k' + 1 : Nat) : Int) := wrap_next k' (Nat.lt_of_lt_of_le hlt hb)
    refine iff_yes (decide_eq_true hlt2) ?_
    refine step k' x3' hlt hj (fun x3'' => lp_r01_Size_0 Q m x3'' x7 (n : Int) (IntKind.i64.wrap ((k' : Int) + (1 : Int)))) (fun x3'' h => ?_)
    show lp_r01_Size_0 Q m x3'' x7 (n : Int) (IntKind.i64.wrap ((k' : Int) + (1 : Int)))
    rw [hw]
    exact hi x3'' x7 ((n : Int)) (((k' + 1 : Nat) : Int)) ⟨rfl, rfl, k' + 1, rfl, hlt, h⟩ (by simp only [Int.toNat_natCast]; omega)
  · have he : k' = n := Nat.le_antisymm hk (Nat.le_of_not_lt hlt)
    subst he
    exact iff_no (decide_eq_false (by omega)) (last x3' hj)
def vc_r01_Size (a0_0 : ByteArray) (a0_1 : Bool) (a0_2 : List (List V)) (Q : D → Heap → Prop) : Prop :=
  (a0_2.length ≤ big → ∃ m0, lp_r01_Size_0 Q m0 1 a0_2 ((a0_2.length : Int)) 0)
theorem C_r01_Size (a0_0 : ByteArray) (a0_1 : Bool) (a0_2 : List (List V)) (Q : D → Heap → Prop) (h : vc_r01_Size a0_0 a0_1 a0_2 Q) : cl f_r01_Size [.agg [.v .str (V.s a0_0), .v .bool (V.b a0_1), .v (.sl t_Term) (V.l a0_2)]] [] Q :=
  acalls_of_fn (envOk adj_r01_Size cut_r01_Size lit_r01_Size frz_r01_Size jns_r01_Size) 0 Try.func39 (by rw [show evFn (envA adj_r01_Size cut_r01_Size lit_r01_Size frz_r01_Size jns_r01_Size) Try.f39 0 [.agg [.v .str (V.s a0_0), .v .bool (V.b a0_1), .v (.sl t_Term) (V.l a0_2)]] [] Q = vc_r01_Size a0_0 a0_1 a0_2 Q from by kernel_rfl]; exact h)
def adj_r01_Depth : List (Nat × List Adj) := [(3, [.undef 0, .undef 1, .undef 2, .undef 5, .undef 6, .undef 10, .undef 11, .undef 12, .undef 13, .undef 14, .undef 15, .undef 16, .undef 17, .dead 1, .dead 5, .dead 15, .dead 16])]
def cut_r01_Depth : CutT := []
def lit_r01_Depth : List Nat := []
def frz_r01_Depth : List (Nat × List Frz) := []
def jns_r01_Depth : List Nat := []
def env_r01_Depth : Env := envA adj_r01_Depth cut_r01_Depth lit_r01_Depth frz_r01_Depth jns_r01_Depth
@[irreducible] def lp_r01_Depth_0 (Q : D → Heap → Prop) (m0 : Nat) (x3 : Int) (x7 : List (List V)) (x8 : Int) (x9 : Int) : Prop :=
  iter (adj (adjLook adj_r01_Depth 3)) (evCode env_r01_Depth (fnAt [1, 1, 0, 1, 0, 0] Try.f40)) (blockK 0 (seqK (adj (adjLook adj_r01_Depth (3000000 + key (fnAt [1, 1, 1] Try.f40)))) (joinIf (env_r01_Depth.join (key (fnAt [1, 1, 1] Try.f40))) (evCode env_r01_Depth (fnAt [1, 1, 1] Try.f40))) (endK env_r01_Depth Try.f40 Q))) m0 ⟨[.undef, .undef, .undef, .v (.int .i64) (V.i x3), .skip, .undef, .undef, .v (.sl t_Term) (V.l x7), .v (.int .i64) (V.i x8), .v (.int .i64) (V.i x9), .undef, .undef, .undef, .undef, .undef, .undef, .undef, .undef, .skip, .skip], [.dead, .dead, .dead, .dead, .dead, .dead, .dead, .dead, .dead, .dead, .dead, .dead, .dead, .dead, .dead, .dead, .dead, .dead, .dead, .dead]⟩ []
def st_r01_Depth_0 (Q : D → Heap → Prop) (m0 : Nat) (x3 : Int) (x7 : List (List V)) (x8 : Int) (x9 : Int) : Prop :=
  iff (decide (x9 < x8)) (0 ≤ x9 ∧ x9 < x7.length ∧ cl f_r01_Depth [.agg [.v .str (((x7.getD x9.toNat []).drop 0).headD V.none), .v .bool ((((x7.getD x9.toNat []).drop 0).tail).headD V.none), .v (.sl t_Term) (((((x7.getD x9.toNat []).drop 0).tail).tail).headD V.none)]] [] fun r1 H2 => r1 = (.v (.int .i64) (r1.V)) ∧ H2 = [] ∧ lp_r01_Depth_0 Q m0 (if r1.V.int > x3 then r1.V.int else x3) x7 x8 (IntKind.i64.wrap (x9 + (1 : Int)))) (True ∧ Q (.v (.int .i64) (V.i (IntKind.i64.wrap (x3 + (1 : Int))))) [])
theorem lp_r01_Depth_0_s (Q : D → Heap → Prop) (m0 : Nat) (x3 : Int) (x7 : List (List V)) (x8 : Int) (x9 : Int) : lp_r01_Depth_0 Q (m0 + 1) x3 x7 x8 x9 = st_r01_Depth_0 Q m0 x3 x7 x8 x9 := by kernel_rfl
theorem rule_r01_Depth_0 (Q : D → Heap → Prop) (I : Int → List (List V) → Int → Int → Prop) (μ : Int → List (List V) → Int → Int → Nat)
    (hs : ∀ (x3 : Int) (x7 : List (List V)) (x8 : Int) (x9 : Int), I x3 x7 x8 x9 → ∀ m0 : Nat, (∀ (x3' : Int) (x7' : List (List V)) (x8' : Int) (x9' : Int), I x3' x7' x8' x9' → μ x3' x7' x8' x9' < μ x3 x7 x8 x9 → lp_r01_Depth_0 Q m0 x3' x7' x8' x9') → st_r01_Depth_0 Q m0 x3 x7 x8 x9) :
    ∀ (x3 : Int) (x7 : List (List V)) (x8 : Int) (x9 : Int), I x3 x7 x8 x9 → ∃ m0, lp_r01_Depth_0 Q m0 x3 x7 x8 x9 := by
  have key : ∀ (n : Nat) (x3 : Int) (x7 : List (List V)) (x8 : Int) (x9 : Int), μ x3 x7 x8 x9 < n → I x3 x7 x8 x9 → lp_r01_Depth_0 Q n x3 x7 x8 x9 := by
    intro n
    induction n with
    | zero => intro x3 x7 x8 x9 hm; exact absurd hm (Nat.not_lt_zero _)
    | succ n ih =>
      intro x3 x7 x8 x9 hm hi
      rw [lp_r01_Depth_0_s]
      exact hs x3 x7 x8 x9 hi n fun x3' x7' x8' x9' hq hlt => ih x3' x7' x8' x9' (Nat.lt_of_lt_of_le hlt (Nat.le_of_lt_succ hm)) hq
  intro x3 x7 x8 x9 hi
  exact ⟨μ x3 x7 x8 x9 + 1, key _ x3 x7 x8 x9 (Nat.lt_succ_self _) hi⟩
theorem range_r01_Depth_0 (Q : D → Heap → Prop) (x7 : List (List V)) (n : Nat) (hb : n ≤ big) (J : Nat → Int → Prop)
    (step : ∀ (k : Nat) (x3 : Int), k < n → J k x3 → ∀ K : Int → Prop, (∀ (x3' : Int), J (k + 1) x3' → K x3') → (0 ≤ (k : Int) ∧ (k : Int) < x7.length ∧ cl f_r01_Depth [.agg [.v .str (((x7.getD k []).drop 0).headD V.none), .v .bool ((((x7.getD k []).drop 0).tail).headD V.none), .v (.sl t_Term) (((((x7.getD k []).drop 0).tail).tail).headD V.none)]] [] fun r1 H2 => r1 = (.v (.int .i64) (r1.V)) ∧ H2 = [] ∧ K (if r1.V.int > x3 then r1.V.int else x3)))
    (last : ∀ (x3 : Int), J n x3 → (True ∧ Q (.v (.int .i64) (V.i (IntKind.i64.wrap (x3 + (1 : Int))))) []))
    (k : Nat) (x3 : Int) (le0 : k ≤ n) (hj : J k x3) : ∃ m0, lp_r01_Depth_0 Q m0 x3 x7 (n : Int) ((k : Int)) := by
  refine rule_r01_Depth_0 Q (fun x3' x7' x8' x9' => x7 = x7' ∧ (n : Int) = x8' ∧ ∃ k : Nat, (k : Int) = x9' ∧ k ≤ n ∧ J k x3') (fun x3' x7' x8' x9' => (n : Int).toNat - x9'.toNat) ?_ x3 x7 ((n : Int)) ((k : Int)) ⟨rfl, rfl, k, rfl, le0, hj⟩
  rintro x3' x7' x8' x9' ⟨rfl, rfl, k', rfl, hk, hj⟩ m hi
  have key : ∀ (b : Bool), b = decide ((k' : Int) < (n : Int)) → b = decide (k' < n) := fun b h => by rw [h]; simp
  by_cases hlt : k' < n
  · have hlt2 : (k' : Int) < (n : Int) := by omega
    have hw : IntKind.i64.wrap ((k' : Int) + (1 : Int)) = ((k' + 1 : Nat) : Int) := wrap_next k' (Nat.lt_of_lt_of_le hlt hb)
    refine iff_yes (decide_eq_true hlt2) ?_
    refine step k' x3' hlt hj (fun x3'' => lp_r01_Depth_0 Q m x3'' x7 (n : Int) (IntKind.i64.wrap ((k' : Int) + (1 : Int)))) (fun x3'' h => ?_)
    show lp_r01_Depth_0 Q m x3'' x7 (n : Int) (IntKind.i64.wrap ((k' : Int) + (1 : Int)))
    rw [hw]
    exact hi x3'' x7 ((n : Int)) (((k' + 1 : Nat) : Int)) ⟨rfl, rfl, k' + 1, rfl, hlt, h⟩ (by simp only [Int.toNat_natCast]; omega)
  · have he : k' = n := Nat.le_antisymm hk (Nat.le_of_not_lt hlt)
    subst he
    exact iff_no (decide_eq_false (by omega)) (last x3' hj)
def vc_r01_Depth (a0_0 : ByteArray) (a0_1 : Bool) (a0_2 : List (List V)) (Q : D → Heap → Prop) : Prop :=
  (a0_2.length ≤ big → ∃ m0, lp_r01_Depth_0 Q m0 0 a0_2 ((a0_2.length : Int)) 0)
theorem C_r01_Depth (a0_0 : ByteArray) (a0_1 : Bool) (a0_2 : List (List V)) (Q : D → Heap → Prop) (h : vc_r01_Depth a0_0 a0_1 a0_2 Q) : cl f_r01_Depth [.agg [.v .str (V.s a0_0), .v .bool (V.b a0_1), .v (.sl t_Term) (V.l a0_2)]] [] Q :=
  acalls_of_fn (envOk adj_r01_Depth cut_r01_Depth lit_r01_Depth frz_r01_Depth jns_r01_Depth) 0 Try.func40 (by rw [show evFn (envA adj_r01_Depth cut_r01_Depth lit_r01_Depth frz_r01_Depth jns_r01_Depth) Try.f40 0 [.agg [.v .str (V.s a0_0), .v .bool (V.b a0_1), .v (.sl t_Term) (V.l a0_2)]] [] Q = vc_r01_Depth a0_0 a0_1 a0_2 Q from by kernel_rfl]; exact h)
def adj_r01_IsName : List (Nat × List Adj) := [(3000004, [.undef 1, .undef 4, .undef 5, .undef 6, .undef 7, .undef 8, .undef 9, .undef 10, .undef 11, .dead 11]), (3000005, [.undef 1, .undef 4, .undef 5, .undef 6, .undef 7, .undef 8, .undef 9, .undef 10, .undef 11, .undef 12, .undef 13, .undef 14, .undef 15, .undef 16, .undef 17, .dead 11, .dead 15])]
def cut_r01_IsName : CutT := []
def lit_r01_IsName : List Nat := []
def frz_r01_IsName : List (Nat × List Frz) := []
def jns_r01_IsName : List Nat := [4, 5]
def env_r01_IsName : Env := envA adj_r01_IsName cut_r01_IsName lit_r01_IsName frz_r01_IsName jns_r01_IsName
@[irreducible] def jp_r01_IsName_1 (Q : D → Heap → Prop) (x0 : ByteArray) : Prop :=
  joinM (evCode env_r01_IsName (fnAt [1, 1, 1] Try.f41)) ⟨[.v .str (V.s x0), .undef, .skip, .skip, .undef, .undef, .undef, .undef, .undef, .undef, .undef, .undef, .undef, .undef, .undef, .undef, .undef, .undef, .skip, .skip, .skip, .skip, .skip, .skip], [.dead, .dead, .dead, .dead, .dead, .dead, .dead, .dead, .dead, .dead, .dead, .dead, .dead, .dead, .dead, .dead, .dead, .dead, .dead, .dead, .dead, .dead, .dead, .dead]⟩ [] (endK env_r01_IsName Try.f41 Q)
@[irreducible] def jp_r01_IsName_0 (Q : D → Heap → Prop) (x0 : ByteArray) (x12 : V) : Prop :=
  joinM (evCode env_r01_IsName (fnAt [1, 1, 0, 1] Try.f41)) ⟨[.v .str (V.s x0), .undef, .skip, .skip, .undef, .undef, .undef, .undef, .undef, .undef, .undef, .undef, .v .bool (x12), .skip, .skip, .skip, .skip, .skip, .skip, .skip, .skip, .skip, .skip, .skip], [.dead, .dead, .dead, .dead, .dead, .dead, .dead, .dead, .dead, .dead, .dead, .dead, .dead, .dead, .dead, .dead, .dead, .dead, .dead, .dead, .dead, .dead, .dead, .dead]⟩ [] (seqK (adj (adjLook adj_r01_IsName (3000000 + key (fnAt [1, 1, 1] Try.f41)))) (joinIf (env_r01_IsName.join (key (fnAt [1, 1, 1] Try.f41))) (evCode env_r01_IsName (fnAt [1, 1, 1] Try.f41))) (endK env_r01_IsName Try.f41 Q))
def je_r01_IsName_1 (Q : D → Heap → Prop) (x0 : ByteArray) : Prop :=
  iff (!(x0.toList == (ByteArray.mk #[]).toList)) (cl f_r01_Letters [.v .str (V.s x0)] [] fun r1 H2 => r1 = (.v .bool (r1.V)) ∧ H2 = [] ∧ True ∧ Q (.v .bool (r1.V)) []) (True ∧ Q (.v .bool (V.b false)) [])
theorem jp_r01_IsName_1_s (Q : D → Heap → Prop) (x0 : ByteArray) : jp_r01_IsName_1 Q x0 = je_r01_IsName_1 Q x0 := by kernel_rfl
def je_r01_IsName_0 (Q : D → Heap → Prop) (x0 : ByteArray) (x12 : V) : Prop :=
  iff x12.bool ((x0.size ≤ big → 0 ≤ (0 : Int) ∧ (0 : Int) ≤ (IntKind.i64.wrap (((x0.size : Int)) - (1 : Int))) ∧ (IntKind.i64.wrap (((x0.size : Int)) - (1 : Int))) ≤ x0.size ∧ jp_r01_IsName_1 Q (x0.extract (0 : Int).toNat ((IntKind.i64.wrap (((x0.size : Int)) - (1 : Int)))).toNat))) (jp_r01_IsName_1 Q x0)
theorem jp_r01_IsName_0_s (Q : D → Heap → Prop) (x0 : ByteArray) (x12 : V) : jp_r01_IsName_0 Q x0 x12 = je_r01_IsName_0 Q x0 x12 := by kernel_rfl
def vc_r01_IsName (a0 : ByteArray) (a1 : Bool) (Q : D → Heap → Prop) : Prop :=
  (a0.size ≤ big → iff (decide (((a0.size : Int)) > (24 : Int))) (True ∧ Q (.v .bool (V.b false)) []) (iff a1 (cl f_r01_Marked [.v .str (V.s a0)] [] fun r1 H2 => r1 = (.v .bool (r1.V)) ∧ H2 = [] ∧ jp_r01_IsName_0 Q a0 r1.V) (jp_r01_IsName_0 Q a0 (V.b false))))
theorem C_r01_IsName (a0 : ByteArray) (a1 : Bool) (Q : D → Heap → Prop) (h : vc_r01_IsName a0 a1 Q) : cl f_r01_IsName [.v .str (V.s a0), .v .bool (V.b a1)] [] Q :=
  acalls_of_fn (envOk adj_r01_IsName cut_r01_IsName lit_r01_IsName frz_r01_IsName jns_r01_IsName) 0 Try.func41 (by rw [show evFn (envA adj_r01_IsName cut_r01_IsName lit_r01_IsName frz_r01_IsName jns_r01_IsName) Try.f41 0 [.v .str (V.s a0), .v .bool (V.b a1)] [] Q = vc_r01_IsName a0 a1 Q from by kernel_rfl]; exact h)
def adj_r01_CompareNames : List (Nat × List Adj) := [(2, [.undef 4, .undef 5, .undef 6, .undef 7, .undef 8, .undef 9, .undef 12, .undef 13, .undef 14, .undef 15, .undef 16, .undef 17, .undef 18, .undef 19, .undef 20, .undef 21, .undef 22, .undef 23, .undef 24, .undef 25, .undef 26, .undef 27, .undef 28, .undef 29, .undef 30, .dead 29])]
def cut_r01_CompareNames : CutT := [(4, 6, [], []), (5, 8, [], [])]
def lit_r01_CompareNames : List Nat := []
def frz_r01_CompareNames : List (Nat × List Frz) := []
def jns_r01_CompareNames : List Nat := []
def env_r01_CompareNames : Env := envA adj_r01_CompareNames cut_r01_CompareNames lit_r01_CompareNames frz_r01_CompareNames jns_r01_CompareNames
@[irreducible] def lp_r01_CompareNames_0 (Q : D → Heap → Prop) (m0 : Nat) (x0 : ByteArray) (x1 : ByteArray) (x10 : Int) (x11 : Int) : Prop :=
  iter (adj (adjLook adj_r01_CompareNames 2)) (evCode env_r01_CompareNames (fnAt [1, 0, 1, 0, 0] Try.f42)) (blockK 0 (seqK (adj (adjLook adj_r01_CompareNames (3000000 + key (fnAt [1, 1] Try.f42)))) (joinIf (env_r01_CompareNames.join (key (fnAt [1, 1] Try.f42))) (evCode env_r01_CompareNames (fnAt [1, 1] Try.f42))) (endK env_r01_CompareNames Try.f42 Q))) m0 ⟨[.v .str (V.s x0), .v .str (V.s x1), .skip, .skip, .undef, .undef, .undef, .undef, .undef, .undef, .v (.int .i64) (V.i x10), .v (.int .i64) (V.i x11), .undef, .undef, .undef, .undef, .undef, .undef, .undef, .undef, .undef, .undef, .undef, .undef, .undef, .undef, .undef, .undef, .undef, .undef, .undef, .skip, .skip, .skip, .skip, .skip], [.dead, .dead, .dead, .dead, .dead, .dead, .dead, .dead, .dead, .dead, .dead, .dead, .dead, .dead, .dead, .dead, .dead, .dead, .dead, .dead, .dead, .dead, .dead, .dead, .dead, .dead, .dead, .dead, .dead, .dead, .dead, .dead, .dead, .dead, .dead, .dead]⟩ []
def st_r01_CompareNames_0 (Q : D → Heap → Prop) (m0 : Nat) (x0 : ByteArray) (x1 : ByteArray) (x10 : Int) (x11 : Int) : Prop :=
  iff (decide (x11 < x10)) (0 ≤ x11 ∧ x11 < x0.size ∧ 0 ≤ x11 ∧ x11 < x1.size ∧ iff ((((x0.data.toList.getD x11.toNat 0).toNat : Int)) != (((x1.data.toList.getD x11.toNat 0).toNat : Int))) (0 ≤ x11 ∧ x11 < x0.size ∧ 0 ≤ x11 ∧ x11 < x1.size ∧ cl f_r01_CompareInts [.v (.int .i64) (V.i (IntKind.i64.wrap (((x0.data.toList.getD x11.toNat 0).toNat : Int)))), .v (.int .i64) (V.i (IntKind.i64.wrap (((x1.data.toList.getD x11.toNat 0).toNat : Int))))] [] fun r1 H2 => r1 = (.v (.int .i64) (r1.V)) ∧ H2 = [] ∧ True ∧ Q (.v (.int .i64) (r1.V)) []) (lp_r01_CompareNames_0 Q m0 x0 x1 x10 (IntKind.i64.wrap (x11 + (1 : Int))))) ((x0.size ≤ big → (x1.size ≤ big → cl f_r01_CompareInts [.v (.int .i64) (V.i ((x0.size : Int))), .v (.int .i64) (V.i ((x1.size : Int)))] [] fun r3 H4 => r3 = (.v (.int .i64) (r3.V)) ∧ H4 = [] ∧ True ∧ Q (.v (.int .i64) (r3.V)) [])))
theorem lp_r01_CompareNames_0_s (Q : D → Heap → Prop) (m0 : Nat) (x0 : ByteArray) (x1 : ByteArray) (x10 : Int) (x11 : Int) : lp_r01_CompareNames_0 Q (m0 + 1) x0 x1 x10 x11 = st_r01_CompareNames_0 Q m0 x0 x1 x10 x11 := by kernel_rfl
theorem rule_r01_CompareNames_0 (Q : D → Heap → Prop) (I : ByteArray → ByteArray → Int → Int → Prop) (μ : ByteArray → ByteArray → Int → Int → Nat)
    (hs : ∀ (x0 : ByteArray) (x1 : ByteArray) (x10 : Int) (x11 : Int), I x0 x1 x10 x11 → ∀ m0 : Nat, (∀ (x0' : ByteArray) (x1' : ByteArray) (x10' : Int) (x11' : Int), I x0' x1' x10' x11' → μ x0' x1' x10' x11' < μ x0 x1 x10 x11 → lp_r01_CompareNames_0 Q m0 x0' x1' x10' x11') → st_r01_CompareNames_0 Q m0 x0 x1 x10 x11) :
    ∀ (x0 : ByteArray) (x1 : ByteArray) (x10 : Int) (x11 : Int), I x0 x1 x10 x11 → ∃ m0, lp_r01_CompareNames_0 Q m0 x0 x1 x10 x11 := by
  have key : ∀ (n : Nat) (x0 : ByteArray) (x1 : ByteArray) (x10 : Int) (x11 : Int), μ x0 x1 x10 x11 < n → I x0 x1 x10 x11 → lp_r01_CompareNames_0 Q n x0 x1 x10 x11 := by
    intro n
    induction n with
    | zero => intro x0 x1 x10 x11 hm; exact absurd hm (Nat.not_lt_zero _)
    | succ n ih =>
      intro x0 x1 x10 x11 hm hi
      rw [lp_r01_CompareNames_0_s]
      exact hs x0 x1 x10 x11 hi n fun x0' x1' x10' x11' hq hlt => ih x0' x1' x10' x11' (Nat.lt_of_lt_of_le hlt (Nat.le_of_lt_succ hm)) hq
  intro x0 x1 x10 x11 hi
  exact ⟨μ x0 x1 x10 x11 + 1, key _ x0 x1 x10 x11 (Nat.lt_succ_self _) hi⟩
theorem range_r01_CompareNames_0 (Q : D → Heap → Prop) (x0 : ByteArray) (x1 : ByteArray) (n : Nat) (hb : n ≤ big) (J : Nat → Prop)
    (step : ∀ (k : Nat), k < n → J k → ∀ K : Prop, (J (k + 1) → K) → (0 ≤ (k : Int) ∧ (k : Int) < x0.size ∧ 0 ≤ (k : Int) ∧ (k : Int) < x1.size ∧ iff ((((x0.data.toList.getD k 0).toNat : Int)) != (((x1.data.toList.getD k 0).toNat : Int))) (0 ≤ (k : Int) ∧ (k : Int) < x0.size ∧ 0 ≤ (k : Int) ∧ (k : Int) < x1.size ∧ cl f_r01_CompareInts [.v (.int .i64) (V.i (IntKind.i64.wrap (((x0.data.toList.getD k 0).toNat : Int)))), .v (.int .i64) (V.i (IntKind.i64.wrap (((x1.data.toList.getD k 0).toNat : Int))))] [] fun r1 H2 => r1 = (.v (.int .i64) (r1.V)) ∧ H2 = [] ∧ True ∧ Q (.v (.int .i64) (r1.V)) []) (K)))
    (last : J n → ((x0.size ≤ big → (x1.size ≤ big → cl f_r01_CompareInts [.v (.int .i64) (V.i ((x0.size : Int))), .v (.int .i64) (V.i ((x1.size : Int)))] [] fun r3 H4 => r3 = (.v (.int .i64) (r3.V)) ∧ H4 = [] ∧ True ∧ Q (.v (.int .i64) (r3.V)) []))))
    (k : Nat) (le0 : k ≤ n) (hj : J k) : ∃ m0, lp_r01_CompareNames_0 Q m0 x0 x1 (n : Int) ((k : Int)) := by
  refine rule_r01_CompareNames_0 Q (fun x0' x1' x10' x11' => x0 = x0' ∧ x1 = x1' ∧ (n : Int) = x10' ∧ ∃ k : Nat, (k : Int) = x11' ∧ k ≤ n ∧ J k) (fun x0' x1' x10' x11' => (n : Int).toNat - x11'.toNat) ?_ x0 x1 ((n : Int)) ((k : Int)) ⟨rfl, rfl, rfl, k, rfl, le0, hj⟩
  rintro x0' x1' x10' x11' ⟨rfl, rfl, rfl, k', rfl, hk, hj⟩ m hi
  have key : ∀ (b : Bool), b = decide ((k' : Int) < (n : Int)) → b = decide (k' < n) := fun b h => by rw [h]; simp
  by_cases hlt : k' < n
  · have hlt2 : (k' : Int) < (n : Int) := by omega
    have hw : IntKind.i64.wrap ((k' : Int) + (1 : Int)) = ((k' + 1 : Nat) : Int) := wrap_next k' (Nat.lt_of_lt_of_le hlt hb)
    refine iff_yes (decide_eq_true hlt2) ?_
    refine step k' hlt hj (lp_r01_CompareNames_0 Q m x0 x1 (n : Int) (IntKind.i64.wrap ((k' : Int) + (1 : Int)))) (fun h => ?_)
    show lp_r01_CompareNames_0 Q m x0 x1 (n : Int) (IntKind.i64.wrap ((k' : Int) + (1 : Int)))
    rw [hw]
    exact hi x0 x1 ((n : Int)) (((k' + 1 : Nat) : Int)) ⟨rfl, rfl, rfl, k' + 1, rfl, hlt, h⟩ (by simp only [Int.toNat_natCast]; omega)
  · have he : k' = n := Nat.le_antisymm hk (Nat.le_of_not_lt hlt)
    subst he
    exact iff_no (decide_eq_false (by omega)) (last hj)
def vc_r01_CompareNames (a0 : ByteArray) (a1 : ByteArray) (Q : D → Heap → Prop) : Prop :=
  (a0.size ≤ big → (a1.size ≤ big → ∃ m0, lp_r01_CompareNames_0 Q m0 a0 a1 (if ((a1.size : Int)) < ((a0.size : Int)) then ((a1.size : Int)) else ((a0.size : Int))) 0))
theorem C_r01_CompareNames (a0 : ByteArray) (a1 : ByteArray) (Q : D → Heap → Prop) (h : vc_r01_CompareNames a0 a1 Q) : cl f_r01_CompareNames [.v .str (V.s a0), .v .str (V.s a1)] [] Q :=
  acalls_of_fn (envOk adj_r01_CompareNames cut_r01_CompareNames lit_r01_CompareNames frz_r01_CompareNames jns_r01_CompareNames) 0 Try.func42 (by rw [show evFn (envA adj_r01_CompareNames cut_r01_CompareNames lit_r01_CompareNames frz_r01_CompareNames jns_r01_CompareNames) Try.f42 0 [.v .str (V.s a0), .v .str (V.s a1)] [] Q = vc_r01_CompareNames a0 a1 Q from by kernel_rfl]; exact h)
def adj_term_Check : List (Nat × List Adj) := []
def cut_term_Check : CutT := []
def lit_term_Check : List Nat := []
def frz_term_Check : List (Nat × List Frz) := []
def jns_term_Check : List Nat := []
def vc_term_Check (a0_0 : ByteArray) (a0_1 : Bool) (a0_2 : List (List V)) (Q : D → Heap → Prop) : Prop :=
  cl f_term_formed [.agg [.v .str (V.s a0_0), .v .bool (V.b a0_1), .v (.sl t_Term) (V.l a0_2)]] [] fun r1 H2 => r1 = (.v .bool (r1.V)) ∧ H2 = [] ∧ iff (!r1.V.bool) (True ∧ Q (.v (.int .i64) (V.i 4)) []) (cl f_term_fits [.agg [.v .str (V.s a0_0), .v .bool (V.b a0_1), .v (.sl t_Term) (V.l a0_2)]] [] fun r3 H4 => r3 = (.v .bool (r3.V)) ∧ H4 = [] ∧ iff (!r3.V.bool) (True ∧ Q (.v (.int .i64) (V.i 3)) []) (True ∧ Q (.v (.int .i64) (V.i 0)) []))
theorem C_term_Check (a0_0 : ByteArray) (a0_1 : Bool) (a0_2 : List (List V)) (Q : D → Heap → Prop) (h : vc_term_Check a0_0 a0_1 a0_2 Q) : cl f_term_Check [.agg [.v .str (V.s a0_0), .v .bool (V.b a0_1), .v (.sl t_Term) (V.l a0_2)]] [] Q :=
  acalls_of_fn (envOk adj_term_Check cut_term_Check lit_term_Check frz_term_Check jns_term_Check) 0 Try.func46 (by rw [show evFn (envA adj_term_Check cut_term_Check lit_term_Check frz_term_Check jns_term_Check) Try.f46 0 [.agg [.v .str (V.s a0_0), .v .bool (V.b a0_1), .v (.sl t_Term) (V.l a0_2)]] [] Q = vc_term_Check a0_0 a0_1 a0_2 Q from by kernel_rfl]; exact h)
def adj_unify_matcher_match : List (Nat × List Adj) := [(10, [.undef 1, .undef 2, .undef 6, .undef 9, .undef 10, .undef 11, .undef 37, .undef 38, .undef 39, .undef 40, .undef 41, .undef 42, .undef 43, .undef 44, .undef 45, .undef 46, .undef 47, .undef 48, .undef 49, .undef 50, .undef 51, .undef 52, .undef 53, .undef 54, .undef 55, .undef 56, .undef 59, .undef 60, .undef 61, .undef 62, .undef 63, .undef 64, .undef 65, .undef 66, .undef 67, .undef 68, .undef 69, .undef 70, .undef 71, .undef 72, .undef 73, .undef 74, .dead 72]), (3000009, [.undef 1, .undef 2, .undef 6, .undef 10, .undef 11, .undef 37, .undef 38, .undef 39, .undef 40, .undef 41, .undef 42, .undef 43, .undef 44, .undef 45, .undef 46, .undef 47, .undef 48, .undef 49, .undef 50, .undef 51, .undef 52, .undef 53, .undef 54, .dead 49, .dead 52])]
def cut_unify_matcher_match : CutT := [(2, 12, [], []), (5, 8, [0], []), (12, 11, [], [])]
def lit_unify_matcher_match : List Nat := []
def frz_unify_matcher_match : List (Nat × List Frz) := []
def jns_unify_matcher_match : List Nat := [9]
def env_unify_matcher_match : Env := envA adj_unify_matcher_match cut_unify_matcher_match lit_unify_matcher_match frz_unify_matcher_match jns_unify_matcher_match
@[irreducible] def lp_unify_matcher_match_0 (Q : D → Heap → Prop) (m0 : Nat) (x57 : Int) (x58 : Int) (y4_0 : ByteArray) (y4_1 : Bool) (y4_2 : List (List V)) (y5_0 : ByteArray) (y5_1 : Bool) (y5_2 : List (List V)) (h0_0n : Nat) (h1 : List (List V)) : Prop :=
  iter (adj (adjLook adj_unify_matcher_match 10)) (evCode env_unify_matcher_match (fnAt [1, 1, 1, 0, 1, 0, 0] Try.f47)) (blockK 0 (seqK (adj (adjLook adj_unify_matcher_match (3000000 + key (fnAt [1, 1, 1, 1] Try.f47)))) (joinIf (env_unify_matcher_match.join (key (fnAt [1, 1, 1, 1] Try.f47))) (evCode env_unify_matcher_match (fnAt [1, 1, 1, 1] Try.f47))) (endK env_unify_matcher_match Try.f47 Q))) m0 ⟨[.ptr (.own 0) 0, .undef, .undef, .skip, .ptr (.loc 4) 0, .ptr (.loc 5) 0, .undef, .skip, .skip, .undef, .undef, .undef, .skip, .skip, .skip, .skip, .skip, .skip, .skip, .skip, .skip, .skip, .skip, .skip, .skip, .skip, .skip, .skip, .skip, .skip, .skip, .skip, .skip, .skip, .skip, .skip, .skip, .undef, .undef, .undef, .undef, .undef, .undef, .undef, .undef, .undef, .undef, .undef, .undef, .undef, .undef, .undef, .undef, .undef, .undef, .undef, .undef, .v (.int .i64) (V.i x57), .v (.int .i64) (V.i x58), .undef, .undef, .undef, .undef, .undef, .undef, .undef, .undef, .undef, .undef, .undef, .undef, .undef, .undef, .undef, .undef], [.dead, .dead, .dead, .dead, .cells [.v .str (V.s y4_0), .v .bool (V.b y4_1), .v (.sl t_Term) (V.l y4_2)], .cells [.v .str (V.s y5_0), .v .bool (V.b y5_1), .v (.sl t_Term) (V.l y5_2)], .dead, .dead, .dead, .dead, .dead, .dead, .dead, .dead, .dead, .dead, .dead, .dead, .dead, .dead, .dead, .dead, .dead, .dead, .dead, .dead, .dead, .dead, .dead, .dead, .dead, .dead, .dead, .dead, .dead, .dead, .dead, .dead, .dead, .dead, .dead, .dead, .dead, .dead, .dead, .dead, .dead, .dead, .dead, .dead, .dead, .dead, .dead, .dead, .dead, .dead, .dead, .dead, .dead, .dead, .dead, .dead, .dead, .dead, .dead, .dead, .dead, .dead, .dead, .dead, .dead, .dead, .dead, .dead, .dead]⟩ [.cells [.osl (.own 1) h0_0n], .row t_Bind h1]
@[irreducible] def jp_unify_matcher_match_0 (Q : D → Heap → Prop) (y4_0 : ByteArray) (y4_1 : Bool) (y4_2 : List (List V)) (y5_0 : ByteArray) (y5_1 : Bool) (y5_2 : List (List V)) (h0_0n : Nat) (h1 : List (List V)) : Prop :=
  joinM (evCode env_unify_matcher_match (fnAt [1, 1, 1] Try.f47)) ⟨[.ptr (.own 0) 0, .undef, .undef, .skip, .ptr (.loc 4) 0, .ptr (.loc 5) 0, .undef, .skip, .skip, .skip, .undef, .undef, .skip, .skip, .skip, .skip, .skip, .skip, .skip, .skip, .skip, .skip, .skip, .skip, .skip, .skip, .skip, .skip, .skip, .skip, .skip, .skip, .skip, .skip, .skip, .skip, .skip, .undef, .undef, .undef, .undef, .undef, .undef, .undef, .undef, .undef, .undef, .undef, .undef, .undef, .undef, .undef, .undef, .undef, .undef, .skip, .skip, .skip, .skip, .skip, .skip, .skip, .skip, .skip, .skip, .skip, .skip, .skip, .skip, .skip, .skip, .skip, .skip, .skip, .skip], [.dead, .dead, .dead, .dead, .cells [.v .str (V.s y4_0), .v .bool (V.b y4_1), .v (.sl t_Term) (V.l y4_2)], .cells [.v .str (V.s y5_0), .v .bool (V.b y5_1), .v (.sl t_Term) (V.l y5_2)], .dead, .dead, .dead, .dead, .dead, .dead, .dead, .dead, .dead, .dead, .dead, .dead, .dead, .dead, .dead, .dead, .dead, .dead, .dead, .dead, .dead, .dead, .dead, .dead, .dead, .dead, .dead, .dead, .dead, .dead, .dead, .dead, .dead, .dead, .dead, .dead, .dead, .dead, .dead, .dead, .dead, .dead, .dead, .dead, .dead, .dead, .dead, .dead, .dead, .dead, .dead, .dead, .dead, .dead, .dead, .dead, .dead, .dead, .dead, .dead, .dead, .dead, .dead, .dead, .dead, .dead, .dead, .dead, .dead]⟩ [.cells [.osl (.own 1) h0_0n], .row t_Bind h1] (endK env_unify_matcher_match Try.f47 Q)
def st_unify_matcher_match_0 (Q : D → Heap → Prop) (m0 : Nat) (x57 : Int) (x58 : Int) (y4_0 : ByteArray) (y4_1 : Bool) (y4_2 : List (List V)) (y5_0 : ByteArray) (y5_1 : Bool) (y5_2 : List (List V)) (h0_0n : Nat) (h1 : List (List V)) : Prop :=
  iff (decide (x58 < x57)) (0 ≤ x58 ∧ x58 < y4_2.length ∧ 0 ≤ x58 ∧ x58 < y5_2.length ∧ cl f_unify_matcher_match [.ptr (.own 0) 0, .agg [.v .str (((y4_2.getD x58.toNat []).drop 0).headD V.none), .v .bool ((((y4_2.getD x58.toNat []).drop 0).tail).headD V.none), .v (.sl t_Term) (((((y4_2.getD x58.toNat []).drop 0).tail).tail).headD V.none)], .agg [.v .str (((y5_2.getD x58.toNat []).drop 0).headD V.none), .v .bool ((((y5_2.getD x58.toNat []).drop 0).tail).headD V.none), .v (.sl t_Term) (((((y5_2.getD x58.toNat []).drop 0).tail).tail).headD V.none)]] [.cells [.osl (.own 1) h0_0n], .row t_Bind h1] fun r1 H2 => r1 = (.v .bool (r1.V)) ∧ H2 = [.cells [.osl (.own 1) ((((H2.headD .dead).cs).headD .undef).len)], .row t_Bind ((H2.tail.headD .dead).xs)] ∧ iff (!r1.V.bool) (True ∧ Q (.v .bool (V.b false)) [.cells [.osl (.own 1) ((((H2.headD .dead).cs).headD .undef).len)], .row t_Bind ((H2.tail.headD .dead).xs)]) (lp_unify_matcher_match_0 Q m0 x57 (IntKind.i64.wrap (x58 + (1 : Int))) y4_0 y4_1 y4_2 y5_0 y5_1 y5_2 ((((H2.headD .dead).cs).headD .undef).len) ((H2.tail.headD .dead).xs))) (True ∧ Q (.v .bool (V.b true)) [.cells [.osl (.own 1) h0_0n], .row t_Bind h1])
theorem lp_unify_matcher_match_0_s (Q : D → Heap → Prop) (m0 : Nat) (x57 : Int) (x58 : Int) (y4_0 : ByteArray) (y4_1 : Bool) (y4_2 : List (List V)) (y5_0 : ByteArray) (y5_1 : Bool) (y5_2 : List (List V)) (h0_0n : Nat) (h1 : List (List V)) : lp_unify_matcher_match_0 Q (m0 + 1) x57 x58 y4_0 y4_1 y4_2 y5_0 y5_1 y5_2 h0_0n h1 = st_unify_matcher_match_0 Q m0 x57 x58 y4_0 y4_1 y4_2 y5_0 y5_1 y5_2 h0_0n h1 := by kernel_rfl
theorem rule_unify_matcher_match_0 (Q : D → Heap → Prop) (I : Int → Int → ByteArray → Bool → List (List V) → ByteArray → Bool → List (List V) → Nat → List (List V) → Prop) (μ : Int → Int → ByteArray → Bool → List (List V) → ByteArray → Bool → List (List V) → Nat → List (List V) → Nat)
    (hs : ∀ (x57 : Int) (x58 : Int) (y4_0 : ByteArray) (y4_1 : Bool) (y4_2 : List (List V)) (y5_0 : ByteArray) (y5_1 : Bool) (y5_2 : List (List V)) (h0_0n : Nat) (h1 : List (List V)), I x57 x58 y4_0 y4_1 y4_2 y5_0 y5_1 y5_2 h0_0n h1 → ∀ m0 : Nat, (∀ (x57' : Int) (x58' : Int) (y4_0' : ByteArray) (y4_1' : Bool) (y4_2' : List (List V)) (y5_0' : ByteArray) (y5_1' : Bool) (y5_2' : List (List V)) (h0_0n' : Nat) (h1' : List (List V)), I x57' x58' y4_0' y4_1' y4_2' y5_0' y5_1' y5_2' h0_0n' h1' → μ x57' x58' y4_0' y4_1' y4_2' y5_0' y5_1' y5_2' h0_0n' h1' < μ x57 x58 y4_0 y4_1 y4_2 y5_0 y5_1 y5_2 h0_0n h1 → lp_unify_matcher_match_0 Q m0 x57' x58' y4_0' y4_1' y4_2' y5_0' y5_1' y5_2' h0_0n' h1') → st_unify_matcher_match_0 Q m0 x57 x58 y4_0 y4_1 y4_2 y5_0 y5_1 y5_2 h0_0n h1) :
    ∀ (x57 : Int) (x58 : Int) (y4_0 : ByteArray) (y4_1 : Bool) (y4_2 : List (List V)) (y5_0 : ByteArray) (y5_1 : Bool) (y5_2 : List (List V)) (h0_0n : Nat) (h1 : List (List V)), I x57 x58 y4_0 y4_1 y4_2 y5_0 y5_1 y5_2 h0_0n h1 → ∃ m0, lp_unify_matcher_match_0 Q m0 x57 x58 y4_0 y4_1 y4_2 y5_0 y5_1 y5_2 h0_0n h1 := by
  have key : ∀ (n : Nat) (x57 : Int) (x58 : Int) (y4_0 : ByteArray) (y4_1 : Bool) (y4_2 : List (List V)) (y5_0 : ByteArray) (y5_1 : Bool) (y5_2 : List (List V)) (h0_0n : Nat) (h1 : List (List V)), μ x57 x58 y4_0 y4_1 y4_2 y5_0 y5_1 y5_2 h0_0n h1 < n → I x57 x58 y4_0 y4_1 y4_2 y5_0 y5_1 y5_2 h0_0n h1 → lp_unify_matcher_match_0 Q n x57 x58 y4_0 y4_1 y4_2 y5_0 y5_1 y5_2 h0_0n h1 := by
    intro n
    induction n with
    | zero => intro x57 x58 y4_0 y4_1 y4_2 y5_0 y5_1 y5_2 h0_0n h1 hm; exact absurd hm (Nat.not_lt_zero _)
    | succ n ih =>
      intro x57 x58 y4_0 y4_1 y4_2 y5_0 y5_1 y5_2 h0_0n h1 hm hi
      rw [lp_unify_matcher_match_0_s]
      exact hs x57 x58 y4_0 y4_1 y4_2 y5_0 y5_1 y5_2 h0_0n h1 hi n fun x57' x58' y4_0' y4_1' y4_2' y5_0' y5_1' y5_2' h0_0n' h1' hq hlt => ih x57' x58' y4_0' y4_1' y4_2' y5_0' y5_1' y5_2' h0_0n' h1' (Nat.lt_of_lt_of_le hlt (Nat.le_of_lt_succ hm)) hq
  intro x57 x58 y4_0 y4_1 y4_2 y5_0 y5_1 y5_2 h0_0n h1 hi
  exact ⟨μ x57 x58 y4_0 y4_1 y4_2 y5_0 y5_1 y5_2 h0_0n h1 + 1, key _ x57 x58 y4_0 y4_1 y4_2 y5_0 y5_1 y5_2 h0_0n h1 (Nat.lt_succ_self _) hi⟩
theorem range_unify_matcher_match_0 (Q : D → Heap → Prop) (y4_0 : ByteArray) (y4_1 : Bool) (y4_2 : List (List V)) (y5_0 : ByteArray) (y5_1 : Bool) (y5_2 : List (List V)) (n : Nat) (hb : n ≤ big) (J : Nat → Nat → List (List V) → Prop)
    (step : ∀ (k : Nat) (h0_0n : Nat) (h1 : List (List V)), k < n → J k h0_0n h1 → ∀ K : Nat → List (List V) → Prop, (∀ (h0_0n' : Nat) (h1' : List (List V)), J (k + 1) h0_0n' h1' → K h0_0n' h1') → (0 ≤ (k : Int) ∧ (k : Int) < y4_2.length ∧ 0 ≤ (k : Int) ∧ (k : Int) < y5_2.length ∧ cl f_unify_matcher_match [.ptr (.own 0) 0, .agg [.v .str (((y4_2.getD k []).drop 0).headD V.none), .v .bool ((((y4_2.getD k []).drop 0).tail).headD V.none), .v (.sl t_Term) (((((y4_2.getD k []).drop 0).tail).tail).headD V.none)], .agg [.v .str (((y5_2.getD k []).drop 0).headD V.none), .v .bool ((((y5_2.getD k []).drop 0).tail).headD V.none), .v (.sl t_Term) (((((y5_2.getD k []).drop 0).tail).tail).headD V.none)]] [.cells [.osl (.own 1) h0_0n], .row t_Bind h1] fun r1 H2 => r1 = (.v .bool (r1.V)) ∧ H2 = [.cells [.osl (.own 1) ((((H2.headD .dead).cs).headD .undef).len)], .row t_Bind ((H2.tail.headD .dead).xs)] ∧ iff (!r1.V.bool) (True ∧ Q (.v .bool (V.b false)) [.cells [.osl (.own 1) ((((H2.headD .dead).cs).headD .undef).len)], .row t_Bind ((H2.tail.headD .dead).xs)]) (K ((((H2.headD .dead).cs).headD .undef).len) ((H2.tail.headD .dead).xs))))
    (last : ∀ (h0_0n : Nat) (h1 : List (List V)), J n h0_0n h1 → (True ∧ Q (.v .bool (V.b true)) [.cells [.osl (.own 1) h0_0n], .row t_Bind h1]))
    (k : Nat) (h0_0n : Nat) (h1 : List (List V)) (le0 : k ≤ n) (hj : J k h0_0n h1) : ∃ m0, lp_unify_matcher_match_0 Q m0 (n : Int) ((k : Int)) y4_0 y4_1 y4_2 y5_0 y5_1 y5_2 h0_0n h1 := by
  refine rule_unify_matcher_match_0 Q (fun x57' x58' y4_0' y4_1' y4_2' y5_0' y5_1' y5_2' h0_0n' h1' => (n : Int) = x57' ∧ y4_0 = y4_0' ∧ y4_1 = y4_1' ∧ y4_2 = y4_2' ∧ y5_0 = y5_0' ∧ y5_1 = y5_1' ∧ y5_2 = y5_2' ∧ ∃ k : Nat, (k : Int) = x58' ∧ k ≤ n ∧ J k h0_0n' h1') (fun x57' x58' y4_0' y4_1' y4_2' y5_0' y5_1' y5_2' h0_0n' h1' => (n : Int).toNat - x58'.toNat) ?_ ((n : Int)) ((k : Int)) y4_0 y4_1 y4_2 y5_0 y5_1 y5_2 h0_0n h1 ⟨rfl, rfl, rfl, rfl, rfl, rfl, rfl, k, rfl, le0, hj⟩
  rintro x57' x58' y4_0' y4_1' y4_2' y5_0' y5_1' y5_2' h0_0n' h1' ⟨rfl, rfl, rfl, rfl, rfl, rfl, rfl, k', rfl, hk, hj⟩ m hi
  have key : ∀ (b : Bool), b = decide ((k' : Int) < (n : Int)) → b = decide (k' < n) := fun b h => by rw [h]; simp
  by_cases hlt : k' < n
  · have hlt2 : (k' : Int) < (n : Int) := by omega
    have hw : IntKind.i64.wrap ((k' : Int) + (1 : Int)) = ((k' + 1 : Nat) : Int) := wrap_next k' (Nat.lt_of_lt_of_le hlt hb)
    refine iff_yes (decide_eq_true hlt2) ?_
    refine step k' h0_0n' h1' hlt hj (fun h0_0n'' h1'' => lp_unify_matcher_match_0 Q m (n : Int) (IntKind.i64.wrap ((k' : Int) + (1 : Int))) y4_0 y4_1 y4_2 y5_0 y5_1 y5_2 h0_0n'' h1'') (fun h0_0n'' h1'' h => ?_)
    show lp_unify_matcher_match_0 Q m (n : Int) (IntKind.i64.wrap ((k' : Int) + (1 : Int))) y4_0 y4_1 y4_2 y5_0 y5_1 y5_2 h0_0n'' h1''
    rw [hw]
    exact hi ((n : Int)) (((k' + 1 : Nat) : Int)) y4_0 y4_1 y4_2 y5_0 y5_1 y5_2 h0_0n'' h1'' ⟨rfl, rfl, rfl, rfl, rfl, rfl, rfl, k' + 1, rfl, hlt, h⟩ (by simp only [Int.toNat_natCast]; omega)
  · have he : k' = n := Nat.le_antisymm hk (Nat.le_of_not_lt hlt)
    subst he
    exact iff_no (decide_eq_false (by omega)) (last h0_0n' h1' hj)
def je_unify_matcher_match_0 (Q : D → Heap → Prop) (y4_0 : ByteArray) (y4_1 : Bool) (y4_2 : List (List V)) (y5_0 : ByteArray) (y5_1 : Bool) (y5_2 : List (List V)) (h0_0n : Nat) (h1 : List (List V)) : Prop :=
  (y4_2.length ≤ big → ∃ m0, lp_unify_matcher_match_0 Q m0 ((y4_2.length : Int)) 0 y4_0 y4_1 y4_2 y5_0 y5_1 y5_2 h0_0n h1)
theorem jp_unify_matcher_match_0_s (Q : D → Heap → Prop) (y4_0 : ByteArray) (y4_1 : Bool) (y4_2 : List (List V)) (y5_0 : ByteArray) (y5_1 : Bool) (y5_2 : List (List V)) (h0_0n : Nat) (h1 : List (List V)) : jp_unify_matcher_match_0 Q y4_0 y4_1 y4_2 y5_0 y5_1 y5_2 h0_0n h1 = je_unify_matcher_match_0 Q y4_0 y4_1 y4_2 y5_0 y5_1 y5_2 h0_0n h1 := by kernel_rfl
def vc_unify_matcher_match (a1_0 : ByteArray) (a1_1 : Bool) (a1_2 : List (List V)) (a2_0 : ByteArray) (a2_1 : Bool) (a2_2 : List (List V)) (h0_0n : Nat) (h1 : List (List V)) (Q : D → Heap → Prop) : Prop :=
  iff a1_1 ((∃ r1 : D, cl f_term_Image [.osl (.own 0) h0_0n, .v .str (V.s a1_0)] [.row t_Bind h1] (fun r H' => r = (.tup [.agg [.v .str ((((r1.parts.headD .undef).cells).headD .undef).V), .v .bool (((((r1.parts.headD .undef).cells).tail).headD .undef).V), .v (.sl t_Term) ((((((r1.parts.headD .undef).cells).tail).tail).headD .undef).V)], .v .bool ((r1.parts.tail.headD .undef).V)]) ∧ H' = [.row t_Bind h1]) ∧ iff (((r1.parts.tail.headD .undef).V).bool) (cl f_term_Equal [.agg [.v .str ((((r1.parts.headD .undef).cells).headD .undef).V), .v .bool (((((r1.parts.headD .undef).cells).tail).headD .undef).V), .v (.sl t_Term) ((((((r1.parts.headD .undef).cells).tail).tail).headD .undef).V)], .agg [.v .str (V.s a2_0), .v .bool (V.b a2_1), .v (.sl t_Term) (V.l a2_2)]] [] fun r2 H3 => r2 = (.v .bool (r2.V)) ∧ H3 = [] ∧ True ∧ Q (.v .bool (r2.V)) [.cells [.osl (.own 1) h0_0n], .row t_Bind h1]) (cl f_unify_bind [.osl (.own 0) h0_0n, .v .str (V.s a1_0), .agg [.v .str (V.s a2_0), .v .bool (V.b a2_1), .v (.sl t_Term) (V.l a2_2)]] [.row t_Bind h1] fun r4 H5 => r4 = (.osl (.own 0) r4.len) ∧ H5 = [.row t_Bind ((H5.headD .dead).xs)] ∧ True ∧ Q (.v .bool (V.b true)) [.cells [.osl (.own 1) r4.len], .row t_Bind ((H5.headD .dead).xs)]))) (iff a2_1 (True ∧ Q (.v .bool (V.b false)) [.cells [.osl (.own 1) h0_0n], .row t_Bind h1]) (iff (!(a1_0.toList == a2_0.toList)) (True ∧ Q (.v .bool (V.b false)) [.cells [.osl (.own 1) h0_0n], .row t_Bind h1]) ((a1_2.length ≤ big → (a2_2.length ≤ big → iff (((a1_2.length : Int)) != ((a2_2.length : Int))) (True ∧ Q (.v .bool (V.b false)) [.cells [.osl (.own 1) h0_0n], .row t_Bind h1]) (jp_unify_matcher_match_0 Q a1_0 a1_1 a1_2 a2_0 a2_1 a2_2 h0_0n h1))))))
theorem C_unify_matcher_match (a1_0 : ByteArray) (a1_1 : Bool) (a1_2 : List (List V)) (a2_0 : ByteArray) (a2_1 : Bool) (a2_2 : List (List V)) (h0_0n : Nat) (h1 : List (List V)) (Q : D → Heap → Prop) (h : vc_unify_matcher_match a1_0 a1_1 a1_2 a2_0 a2_1 a2_2 h0_0n h1 Q) : cl f_unify_matcher_match [.ptr (.own 0) 0, .agg [.v .str (V.s a1_0), .v .bool (V.b a1_1), .v (.sl t_Term) (V.l a1_2)], .agg [.v .str (V.s a2_0), .v .bool (V.b a2_1), .v (.sl t_Term) (V.l a2_2)]] [.cells [.osl (.own 1) h0_0n], .row t_Bind h1] Q :=
  acalls_of_fn (envOk adj_unify_matcher_match cut_unify_matcher_match lit_unify_matcher_match frz_unify_matcher_match jns_unify_matcher_match) 0 Try.func47 (by rw [show evFn (envA adj_unify_matcher_match cut_unify_matcher_match lit_unify_matcher_match frz_unify_matcher_match jns_unify_matcher_match) Try.f47 0 [.ptr (.own 0) 0, .agg [.v .str (V.s a1_0), .v .bool (V.b a1_1), .v (.sl t_Term) (V.l a1_2)], .agg [.v .str (V.s a2_0), .v .bool (V.b a2_1), .v (.sl t_Term) (V.l a2_2)]] [.cells [.osl (.own 1) h0_0n], .row t_Bind h1] Q = vc_unify_matcher_match a1_0 a1_1 a1_2 a2_0 a2_1 a2_2 h0_0n h1 Q from by kernel_rfl]; exact h)
def adj_r03_Bound : List (Nat × List Adj) := [(2, [.undef 0, .undef 4, .undef 6, .undef 10, .undef 11, .undef 12, .undef 13, .undef 14, .undef 15, .undef 16, .undef 17, .dead 6])]
def cut_r03_Bound : CutT := []
def lit_r03_Bound : List Nat := []
def frz_r03_Bound : List (Nat × List Frz) := []
def jns_r03_Bound : List Nat := []
def env_r03_Bound : Env := envA adj_r03_Bound cut_r03_Bound lit_r03_Bound frz_r03_Bound jns_r03_Bound
@[irreducible] def lp_r03_Bound_0 (Q : D → Heap → Prop) (m0 : Nat) (x1 : ByteArray) (x7 : List (List V)) (x8 : Int) (x9 : Int) : Prop :=
  iter (adj (adjLook adj_r03_Bound 2)) (evCode env_r03_Bound (fnAt [1, 0, 1, 0, 0] Try.f48)) (blockK 0 (seqK (adj (adjLook adj_r03_Bound (3000000 + key (fnAt [1, 1] Try.f48)))) (joinIf (env_r03_Bound.join (key (fnAt [1, 1] Try.f48))) (evCode env_r03_Bound (fnAt [1, 1] Try.f48))) (endK env_r03_Bound Try.f48 Q))) m0 ⟨[.undef, .v .str (V.s x1), .skip, .skip, .undef, .skip, .undef, .v (.sl t_Bind) (V.l x7), .v (.int .i64) (V.i x8), .v (.int .i64) (V.i x9), .undef, .undef, .undef, .undef, .undef, .undef, .undef, .undef], [.dead, .dead, .dead, .dead, .dead, .dead, .dead, .dead, .dead, .dead, .dead, .dead, .dead, .dead, .dead, .dead, .dead, .dead]⟩ []
def st_r03_Bound_0 (Q : D → Heap → Prop) (m0 : Nat) (x1 : ByteArray) (x7 : List (List V)) (x8 : Int) (x9 : Int) : Prop :=
  iff (decide (x9 < x8)) (0 ≤ x9 ∧ x9 < x7.length ∧ iff (((((x7.getD x9.toNat []).drop 0).headD V.none).str).toList == x1.toList) (True ∧ Q (.v .bool (V.b true)) []) (lp_r03_Bound_0 Q m0 x1 x7 x8 (IntKind.i64.wrap (x9 + (1 : Int))))) (True ∧ Q (.v .bool (V.b false)) [])
theorem lp_r03_Bound_0_s (Q : D → Heap → Prop) (m0 : Nat) (x1 : ByteArray) (x7 : List (List V)) (x8 : Int) (x9 : Int) : lp_r03_Bound_0 Q (m0 + 1) x1 x7 x8 x9 = st_r03_Bound_0 Q m0 x1 x7 x8 x9 := by kernel_rfl
theorem rule_r03_Bound_0 (Q : D → Heap → Prop) (I : ByteArray → List (List V) → Int → Int → Prop) (μ : ByteArray → List (List V) → Int → Int → Nat)
    (hs : ∀ (x1 : ByteArray) (x7 : List (List V)) (x8 : Int) (x9 : Int), I x1 x7 x8 x9 → ∀ m0 : Nat, (∀ (x1' : ByteArray) (x7' : List (List V)) (x8' : Int) (x9' : Int), I x1' x7' x8' x9' → μ x1' x7' x8' x9' < μ x1 x7 x8 x9 → lp_r03_Bound_0 Q m0 x1' x7' x8' x9') → st_r03_Bound_0 Q m0 x1 x7 x8 x9) :
    ∀ (x1 : ByteArray) (x7 : List (List V)) (x8 : Int) (x9 : Int), I x1 x7 x8 x9 → ∃ m0, lp_r03_Bound_0 Q m0 x1 x7 x8 x9 := by
  have key : ∀ (n : Nat) (x1 : ByteArray) (x7 : List (List V)) (x8 : Int) (x9 : Int), μ x1 x7 x8 x9 < n → I x1 x7 x8 x9 → lp_r03_Bound_0 Q n x1 x7 x8 x9 := by
    intro n
    induction n with
    | zero => intro x1 x7 x8 x9 hm; exact absurd hm (Nat.not_lt_zero _)
    | succ n ih =>
      intro x1 x7 x8 x9 hm hi
      rw [lp_r03_Bound_0_s]
      exact hs x1 x7 x8 x9 hi n fun x1' x7' x8' x9' hq hlt => ih x1' x7' x8' x9' (Nat.lt_of_lt_of_le hlt (Nat.le_of_lt_succ hm)) hq
  intro x1 x7 x8 x9 hi
  exact ⟨μ x1 x7 x8 x9 + 1, key _ x1 x7 x8 x9 (Nat.lt_succ_self _) hi⟩
theorem range_r03_Bound_0 (Q : D → Heap → Prop) (x1 : ByteArray) (x7 : List (List V)) (n : Nat) (hb : n ≤ big) (J : Nat → Prop)
    (step : ∀ (k : Nat), k < n → J k → ∀ K : Prop, (J (k + 1) → K) → (0 ≤ (k : Int) ∧ (k : Int) < x7.length ∧ iff (((((x7.getD k []).drop 0).headD V.none).str).toList == x1.toList) (True ∧ Q (.v .bool (V.b true)) []) (K)))
    (last : J n → (True ∧ Q (.v .bool (V.b false)) []))
    (k : Nat) (le0 : k ≤ n) (hj : J k) : ∃ m0, lp_r03_Bound_0 Q m0 x1 x7 (n : Int) ((k : Int)) := by
  refine rule_r03_Bound_0 Q (fun x1' x7' x8' x9' => x1 = x1' ∧ x7 = x7' ∧ (n : Int) = x8' ∧ ∃ k : Nat, (k : Int) = x9' ∧ k ≤ n ∧ J k) (fun x1' x7' x8' x9' => (n : Int).toNat - x9'.toNat) ?_ x1 x7 ((n : Int)) ((k : Int)) ⟨rfl, rfl, rfl, k, rfl, le0, hj⟩
  rintro x1' x7' x8' x9' ⟨rfl, rfl, rfl, k', rfl, hk, hj⟩ m hi
  have key : ∀ (b : Bool), b = decide ((k' : Int) < (n : Int)) → b = decide (k' < n) := fun b h => by rw [h]; simp
  by_cases hlt : k' < n
  · have hlt2 : (k' : Int) < (n : Int) := by omega
    have hw : IntKind.i64.wrap ((k' : Int) + (1 : Int)) = ((k' + 1 : Nat) : Int) := wrap_next k' (Nat.lt_of_lt_of_le hlt hb)
    refine iff_yes (decide_eq_true hlt2) ?_
    refine step k' hlt hj (lp_r03_Bound_0 Q m x1 x7 (n : Int) (IntKind.i64.wrap ((k' : Int) + (1 : Int)))) (fun h => ?_)
    show lp_r03_Bound_0 Q m x1 x7 (n : Int) (IntKind.i64.wrap ((k' : Int) + (1 : Int)))
    rw [hw]
    exact hi x1 x7 ((n : Int)) (((k' + 1 : Nat) : Int)) ⟨rfl, rfl, rfl, k' + 1, rfl, hlt, h⟩ (by simp only [Int.toNat_natCast]; omega)
  · have he : k' = n := Nat.le_antisymm hk (Nat.le_of_not_lt hlt)
    subst he
    exact iff_no (decide_eq_false (by omega)) (last hj)
def vc_r03_Bound (a0 : List (List V)) (a1 : ByteArray) (Q : D → Heap → Prop) : Prop :=
  (a0.length ≤ big → ∃ m0, lp_r03_Bound_0 Q m0 a1 a0 ((a0.length : Int)) 0)
theorem C_r03_Bound (a0 : List (List V)) (a1 : ByteArray) (Q : D → Heap → Prop) (h : vc_r03_Bound a0 a1 Q) : cl f_r03_Bound [.v (.sl t_Bind) (V.l a0), .v .str (V.s a1)] [] Q :=
  acalls_of_fn (envOk adj_r03_Bound cut_r03_Bound lit_r03_Bound frz_r03_Bound jns_r03_Bound) 0 Try.func48 (by rw [show evFn (envA adj_r03_Bound cut_r03_Bound lit_r03_Bound frz_r03_Bound jns_r03_Bound) Try.f48 0 [.v (.sl t_Bind) (V.l a0), .v .str (V.s a1)] [] Q = vc_r03_Bound a0 a1 Q from by kernel_rfl]; exact h)
def adj_r03_with : List (Nat × List Adj) := [(2, [.undef 2, .undef 6, .undef 8, .undef 9, .undef 10, .undef 11, .undef 12, .undef 13, .undef 14, .undef 15, .undef 16, .undef 17, .undef 18, .undef 19, .undef 20, .undef 21, .undef 22, .undef 23, .dead 10, .dead 19])]
def cut_r03_with : CutT := [(4, 13, [], [])]
def lit_r03_with : List Nat := [24]
def frz_r03_with : List (Nat × List Frz) := []
def jns_r03_with : List Nat := []
def env_r03_with : Env := envA adj_r03_with cut_r03_with lit_r03_with frz_r03_with jns_r03_with
@[irreducible] def lp_r03_with_0 (Q : D → Heap → Prop) (m0 : Nat) (x0 : List (List V)) (x1 : ByteArray) (x7 : Int) (y5_0 : ByteArray) (y5_1 : Bool) (y5_2 : List (List V)) : Prop :=
  iter (adj (adjLook adj_r03_with 2)) (evCode env_r03_with (fnAt [1, 1, 0, 0, 0] Try.f49)) (blockK 0 (seqK (adj (adjLook adj_r03_with (3000000 + key (fnAt [1, 1, 1] Try.f49)))) (joinIf (env_r03_with.join (key (fnAt [1, 1, 1] Try.f49))) (evCode env_r03_with (fnAt [1, 1, 1] Try.f49))) (endK env_r03_with Try.f49 Q))) m0 ⟨[.v (.sl t_Bind) (V.l x0), .v .str (V.s x1), .undef, .skip, .skip, .ptr (.loc 5) 0, .undef, .v (.int .i64) (V.i x7), .undef, .undef, .undef, .undef, .undef, .undef, .undef, .undef, .undef, .undef, .undef, .undef, .undef, .undef, .undef, .undef, .skip, .skip, .skip, .skip, .skip, .skip, .skip, .skip, .skip, .skip, .skip, .skip, .skip, .skip], [.dead, .dead, .dead, .dead, .dead, .cells [.v .str (V.s y5_0), .v .bool (V.b y5_1), .v (.sl t_Term) (V.l y5_2)], .dead, .dead, .dead, .dead, .dead, .dead, .dead, .dead, .dead, .dead, .dead, .dead, .dead, .dead, .dead, .dead, .dead, .dead, .dead, .dead, .dead, .dead, .dead, .dead, .dead, .dead, .dead, .dead, .dead, .dead, .dead, .dead]⟩ []
def st_r03_with_0 (Q : D → Heap → Prop) (m0 : Nat) (x0 : List (List V)) (x1 : ByteArray) (x7 : Int) (y5_0 : ByteArray) (y5_1 : Bool) (y5_2 : List (List V)) : Prop :=
  (x0.length ≤ big → iff (decide (x7 < ((x0.length : Int)))) (0 ≤ x7 ∧ x7 < x0.length ∧ cl f_r01_CompareNames [.v .str (((x0.getD x7.toNat []).drop 0).headD V.none), .v .str (V.s x1)] [] fun r1 H2 => r1 = (.v (.int .i64) (r1.V)) ∧ H2 = [] ∧ iff (decide (r1.V.int < (0 : Int))) (lp_r03_with_0 Q m0 x0 x1 (IntKind.i64.wrap (x7 + (1 : Int))) y5_0 y5_1 y5_2) (0 ≤ (0 : Int) ∧ (0 : Int) ≤ x7 ∧ x7 ≤ x0.length ∧ (([] : List (List V))).length = 0 ∧ 0 + ((x0.take x7.toNat).drop (0 : Int).toNat).length ≤ lim ∧ ((([] : List (List V))) ++ ((x0.take x7.toNat).drop (0 : Int).toNat)).length = 0 + ((x0.take x7.toNat).drop (0 : Int).toNat).length ∧ 0 + ((x0.take x7.toNat).drop (0 : Int).toNat).length + ([[V.s x1, V.s y5_0, V.b y5_1, V.l y5_2]]).length ≤ lim ∧ 0 ≤ x7 ∧ x7 ≤ (x0.length : Int) ∧ (x0.length : Int) ≤ x0.length ∧ (((([] : List (List V))) ++ ((x0.take x7.toNat).drop (0 : Int).toNat)) ++ ([[V.s x1, V.s y5_0, V.b y5_1, V.l y5_2]])).length = 0 + ((x0.take x7.toNat).drop (0 : Int).toNat).length + ([[V.s x1, V.s y5_0, V.b y5_1, V.l y5_2]]).length ∧ 0 + ((x0.take x7.toNat).drop (0 : Int).toNat).length + ([[V.s x1, V.s y5_0, V.b y5_1, V.l y5_2]]).length + ((x0.take ((x0.length : Int)).toNat).drop x7.toNat).length ≤ lim ∧ (0 + ((x0.take x7.toNat).drop (0 : Int).toNat).length + ([[V.s x1, V.s y5_0, V.b y5_1, V.l y5_2]]).length + ((x0.take ((x0.length : Int)).toNat).drop x7.toNat).length = ((((([] : List (List V))) ++ ((x0.take x7.toNat).drop (0 : Int).toNat)) ++ ([[V.s x1, V.s y5_0, V.b y5_1, V.l y5_2]])) ++ ((x0.take ((x0.length : Int)).toNat).drop x7.toNat)).length) ∧ Q (.v (.sl t_Bind) (V.l ((((([] : List (List V))) ++ ((x0.take x7.toNat).drop (0 : Int).toNat)) ++ ([[V.s x1, V.s y5_0, V.b y5_1, V.l y5_2]])) ++ ((x0.take ((x0.length : Int)).toNat).drop x7.toNat)))) [])) (0 ≤ (0 : Int) ∧ (0 : Int) ≤ x7 ∧ x7 ≤ x0.length ∧ (([] : List (List V))).length = 0 ∧ 0 + ((x0.take x7.toNat).drop (0 : Int).toNat).length ≤ lim ∧ ((([] : List (List V))) ++ ((x0.take x7.toNat).drop (0 : Int).toNat)).length = 0 + ((x0.take x7.toNat).drop (0 : Int).toNat).length ∧ 0 + ((x0.take x7.toNat).drop (0 : Int).toNat).length + ([[V.s x1, V.s y5_0, V.b y5_1, V.l y5_2]]).length ≤ lim ∧ 0 ≤ x7 ∧ x7 ≤ (x0.length : Int) ∧ (x0.length : Int) ≤ x0.length ∧ (((([] : List (List V))) ++ ((x0.take x7.toNat).drop (0 : Int).toNat)) ++ ([[V.s x1, V.s y5_0, V.b y5_1, V.l y5_2]])).length = 0 + ((x0.take x7.toNat).drop (0 : Int).toNat).length + ([[V.s x1, V.s y5_0, V.b y5_1, V.l y5_2]]).length ∧ 0 + ((x0.take x7.toNat).drop (0 : Int).toNat).length + ([[V.s x1, V.s y5_0, V.b y5_1, V.l y5_2]]).length + ((x0.take ((x0.length : Int)).toNat).drop x7.toNat).length ≤ lim ∧ (0 + ((x0.take x7.toNat).drop (0 : Int).toNat).length + ([[V.s x1, V.s y5_0, V.b y5_1, V.l y5_2]]).length + ((x0.take ((x0.length : Int)).toNat).drop x7.toNat).length = ((((([] : List (List V))) ++ ((x0.take x7.toNat).drop (0 : Int).toNat)) ++ ([[V.s x1, V.s y5_0, V.b y5_1, V.l y5_2]])) ++ ((x0.take ((x0.length : Int)).toNat).drop x7.toNat)).length) ∧ Q (.v (.sl t_Bind) (V.l ((((([] : List (List V))) ++ ((x0.take x7.toNat).drop (0 : Int).toNat)) ++ ([[V.s x1, V.s y5_0, V.b y5_1, V.l y5_2]])) ++ ((x0.take ((x0.length : Int)).toNat).drop x7.toNat)))) []))
theorem lp_r03_with_0_s (Q : D → Heap → Prop) (m0 : Nat) (x0 : List (List V)) (x1 : ByteArray) (x7 : Int) (y5_0 : ByteArray) (y5_1 : Bool) (y5_2 : List (List V)) : lp_r03_with_0 Q (m0 + 1) x0 x1 x7 y5_0 y5_1 y5_2 = st_r03_with_0 Q m0 x0 x1 x7 y5_0 y5_1 y5_2 := by kernel_rfl
theorem rule_r03_with_0 (Q : D → Heap → Prop) (I : List (List V) → ByteArray → Int → ByteArray → Bool → List (List V) → Prop) (μ : List (List V) → ByteArray → Int → ByteArray → Bool → List (List V) → Nat)
    (hs : ∀ (x0 : List (List V)) (x1 : ByteArray) (x7 : Int) (y5_0 : ByteArray) (y5_1 : Bool) (y5_2 : List (List V)), I x0 x1 x7 y5_0 y5_1 y5_2 → ∀ m0 : Nat, (∀ (x0' : List (List V)) (x1' : ByteArray) (x7' : Int) (y5_0' : ByteArray) (y5_1' : Bool) (y5_2' : List (List V)), I x0' x1' x7' y5_0' y5_1' y5_2' → μ x0' x1' x7' y5_0' y5_1' y5_2' < μ x0 x1 x7 y5_0 y5_1 y5_2 → lp_r03_with_0 Q m0 x0' x1' x7' y5_0' y5_1' y5_2') → st_r03_with_0 Q m0 x0 x1 x7 y5_0 y5_1 y5_2) :
    ∀ (x0 : List (List V)) (x1 : ByteArray) (x7 : Int) (y5_0 : ByteArray) (y5_1 : Bool) (y5_2 : List (List V)), I x0 x1 x7 y5_0 y5_1 y5_2 → ∃ m0, lp_r03_with_0 Q m0 x0 x1 x7 y5_0 y5_1 y5_2 := by
  have key : ∀ (n : Nat) (x0 : List (List V)) (x1 : ByteArray) (x7 : Int) (y5_0 : ByteArray) (y5_1 : Bool) (y5_2 : List (List V)), μ x0 x1 x7 y5_0 y5_1 y5_2 < n → I x0 x1 x7 y5_0 y5_1 y5_2 → lp_r03_with_0 Q n x0 x1 x7 y5_0 y5_1 y5_2 := by
    intro n
    induction n with
    | zero => intro x0 x1 x7 y5_0 y5_1 y5_2 hm; exact absurd hm (Nat.not_lt_zero _)
    | succ n ih =>
      intro x0 x1 x7 y5_0 y5_1 y5_2 hm hi
      rw [lp_r03_with_0_s]
      exact hs x0 x1 x7 y5_0 y5_1 y5_2 hi n fun x0' x1' x7' y5_0' y5_1' y5_2' hq hlt => ih x0' x1' x7' y5_0' y5_1' y5_2' (Nat.lt_of_lt_of_le hlt (Nat.le_of_lt_succ hm)) hq
  intro x0 x1 x7 y5_0 y5_1 y5_2 hi
  exact ⟨μ x0 x1 x7 y5_0 y5_1 y5_2 + 1, key _ x0 x1 x7 y5_0 y5_1 y5_2 (Nat.lt_succ_self _) hi⟩
def vc_r03_with (a0 : List (List V)) (a1 : ByteArray) (a2_0 : ByteArray) (a2_1 : Bool) (a2_2 : List (List V)) (Q : D → Heap → Prop) : Prop :=
  ∃ m0, lp_r03_with_0 Q m0 a0 a1 0 a2_0 a2_1 a2_2
theorem C_r03_with (a0 : List (List V)) (a1 : ByteArray) (a2_0 : ByteArray) (a2_1 : Bool) (a2_2 : List (List V)) (Q : D → Heap → Prop) (h : vc_r03_with a0 a1 a2_0 a2_1 a2_2 Q) : cl f_r03_with [.v (.sl t_Bind) (V.l a0), .v .str (V.s a1), .agg [.v .str (V.s a2_0), .v .bool (V.b a2_1), .v (.sl t_Term) (V.l a2_2)]] [] Q :=
  acalls_of_fn (envOk adj_r03_with cut_r03_with lit_r03_with frz_r03_with jns_r03_with) 0 Try.func49 (by rw [show evFn (envA adj_r03_with cut_r03_with lit_r03_with frz_r03_with jns_r03_with) Try.f49 0 [.v (.sl t_Bind) (V.l a0), .v .str (V.s a1), .agg [.v .str (V.s a2_0), .v .bool (V.b a2_1), .v (.sl t_Term) (V.l a2_2)]] [] Q = vc_r03_with a0 a1 a2_0 a2_1 a2_2 Q from by kernel_rfl]; exact h)
end Go.Proofs.Ytgohjdaepcmonaa
