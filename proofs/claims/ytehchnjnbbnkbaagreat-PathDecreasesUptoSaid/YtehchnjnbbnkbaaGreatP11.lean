/-
  Texts V1, V2, V, R01A, R01B, R01C, R01D of this proof, joined.
-/
import Derived.Test.YtehchnjnbbnkbaaGreatP10
set_option linter.unusedVariables false
set_option maxRecDepth 100000
namespace Go.Proofs.YtehchnjnbbnkbaaGreat
open Go.Abs
def env_term_All : Env := envA [(2, (.undef 0) :: (.undef 2) :: ua 4 2 (ua 9 9 ([.dead 4, .dead 13])))] [] [] [] []
def kl_term_All_0 (Q : QD) : Post := blockK 0 (seqJ env_term_All (fnAt [1, 1] Tryz.f44) (endK env_term_All Tryz.f44 Q))
@[irreducible] def lp_term_All_0 (Q : QD) (m0 : Nat) (x6 : LL) (x7 x8 : Int) : Prop :=
  iter (adj (env_term_All.adj 2)) (evCode env_term_All (fnAt [1, 0, 1, 0, 0] Tryz.f44)) (kl_term_All_0 Q) m0 ⟨.undef :: .skip :: .undef :: .skip :: un 2 ((.v (.sl t_Term) (V.l x6)) :: (.v (.int .i64) (V.i x7)) :: (.v (.int .i64) (V.i x8)) :: un 9 ([])), dd 18 ([])⟩ []
def st_term_All_0 (Q : QD) (m0 : Nat) (x6 : LL) (x7 x8 : Int) : Prop :=
  iff (decide (x8 < x7)) (0 ≤ x8 ∧ x8 < x6.length ∧ cl f_term_Check [.agg [.v .str (((x6.getD x8.toNat []).drop 0).headD V.none), .v .bool ((((x6.getD x8.toNat []).drop 0).tail).headD V.none), .v (.sl t_Term) (((((x6.getD x8.toNat []).drop 0).tail).tail).headD V.none)]] [] fun r1 H2 => r1 = (.v (.int .i64) (r1.V)) ∧ H2 = [] ∧ iff (r1.V.int != (0 : Int)) (True ∧ Q (.v (.int .i64) (r1.V)) []) (lp_term_All_0 Q m0 x6 x7 (IntKind.i64.wrap (x8 + (1 : Int))))) (True ∧ Q (.v (.int .i64) (V.i 0)) [])
theorem lp_term_All_0_s (Q : QD) (m0 : Nat) (x6 : LL) (x7 x8 : Int) : lp_term_All_0 Q (m0 + 1) x6 x7 x8 = st_term_All_0 Q m0 x6 x7 x8 := by kernel_rfl
theorem range_term_All_0 (Q : QD) (x6 : LL) (n : Nat) (hb : n ≤ big) (J : Nat → Prop)
    (step : ∀ (k : Nat), k < n → J k → ∀ K : Prop, (J (k + 1) → K) → (0 ≤ (k : Int) ∧ (k : Int) < x6.length ∧ cl f_term_Check [.agg [.v .str (((x6.getD k []).drop 0).headD V.none), .v .bool ((((x6.getD k []).drop 0).tail).headD V.none), .v (.sl t_Term) (((((x6.getD k []).drop 0).tail).tail).headD V.none)]] [] fun r1 H2 => r1 = (.v (.int .i64) (r1.V)) ∧ H2 = [] ∧ iff (r1.V.int != (0 : Int)) (True ∧ Q (.v (.int .i64) (r1.V)) []) (K)))
    (last : J n → (True ∧ Q (.v (.int .i64) (V.i 0)) []))
    (k : Nat) (le0 : k ≤ n) (hj : J k) : ∃ m0, lp_term_All_0 Q m0 x6 (n : Int) ((k : Int)) := by
  exact rangeG0 n hb J (fun m0 i => lp_term_All_0 Q m0 x6 (n : Int) i) (fun m0 i => lp_term_All_0_s Q m0 x6 (n : Int) i) (fun k hl_ hj_ m_ ih_ => step k hl_ hj_ _ ih_) last k le0 hj
def vc_term_All (a0 : LL) (Q : QD) : Prop :=
  (a0.length ≤ big → ∃ m0, lp_term_All_0 Q m0 a0 ((a0.length : Int)) 0)
theorem C_term_All (a0 : LL) (Q : QD) (h : vc_term_All a0 Q) : cl f_term_All [.v (.sl t_Term) (V.l a0)] [] Q :=
  acalls2 (E := env_term_All) (envOk _ _ _ _ _) 0 Tryz.func44 (by kernel_rfl) h
def env_r01_Compare : Env := envA [(12, ua 0 2 (ua 4 10 (ua 16 7 (ua 24 9 (ua 34 2 (ua 38 17 ([.dead 50])))))))] [(14, 10, [], [])] [] [] []
def kl_r01_Compare_0 (Q : QD) : Post := blockK 0 (seqJ env_r01_Compare (fnAt [1, 1, 1, 1, 1] Tryz.f45) (endK env_r01_Compare Tryz.f45 Q))
@[irreducible] def lp_r01_Compare_0 (Q : QD) (m0 : Nat) (x36 x37 : Int) (y2_0 : ByteArray) (y2_1 : Bool) (y2_2 : LL) (y3_0 : ByteArray) (y3_1 : Bool) (y3_2 : LL) : Prop :=
  iter (adj (env_r01_Compare.adj 12)) (evCode env_r01_Compare (fnAt [1, 1, 1, 1, 0, 1, 0, 0] Tryz.f45)) (kl_r01_Compare_0 Q) m0 ⟨un 2 ((.ptr (.loc 2) 0) :: (.ptr (.loc 3) 0) :: un 10 (sk 2 (un 7 (.skip :: un 9 (.skip :: un 2 ((.v (.int .i64) (V.i x36)) :: (.v (.int .i64) (V.i x37)) :: un 17 ([]))))))), dd 2 ((.cells [.v .str (V.s y2_0), .v .bool (V.b y2_1), .v (.sl t_Term) (V.l y2_2)]) :: (.cells [.v .str (V.s y3_0), .v .bool (V.b y3_1), .v (.sl t_Term) (V.l y3_2)]) :: dd 51 ([]))⟩ []
def st_r01_Compare_0 (Q : QD) (m0 : Nat) (x36 x37 : Int) (y2_0 : ByteArray) (y2_1 : Bool) (y2_2 : LL) (y3_0 : ByteArray) (y3_1 : Bool) (y3_2 : LL) : Prop :=
  iff (decide (x37 < x36)) (0 ≤ x37 ∧ x37 < y2_2.length ∧ 0 ≤ x37 ∧ x37 < y3_2.length ∧ cl f_r01_Compare [.agg [.v .str (((y2_2.getD x37.toNat []).drop 0).headD V.none), .v .bool ((((y2_2.getD x37.toNat []).drop 0).tail).headD V.none), .v (.sl t_Term) (((((y2_2.getD x37.toNat []).drop 0).tail).tail).headD V.none)], .agg [.v .str (((y3_2.getD x37.toNat []).drop 0).headD V.none), .v .bool ((((y3_2.getD x37.toNat []).drop 0).tail).headD V.none), .v (.sl t_Term) (((((y3_2.getD x37.toNat []).drop 0).tail).tail).headD V.none)]] [] fun r1 H2 => r1 = (.v (.int .i64) (r1.V)) ∧ H2 = [] ∧ iff (r1.V.int != (0 : Int)) (True ∧ Q (.v (.int .i64) (r1.V)) []) (lp_r01_Compare_0 Q m0 x36 (IntKind.i64.wrap (x37 + (1 : Int))) y2_0 y2_1 y2_2 y3_0 y3_1 y3_2)) (True ∧ Q (.v (.int .i64) (V.i 0)) [])
theorem lp_r01_Compare_0_s (Q : QD) (m0 : Nat) (x36 x37 : Int) (y2_0 : ByteArray) (y2_1 : Bool) (y2_2 : LL) (y3_0 : ByteArray) (y3_1 : Bool) (y3_2 : LL) : lp_r01_Compare_0 Q (m0 + 1) x36 x37 y2_0 y2_1 y2_2 y3_0 y3_1 y3_2 = st_r01_Compare_0 Q m0 x36 x37 y2_0 y2_1 y2_2 y3_0 y3_1 y3_2 := by kernel_rfl
theorem range_r01_Compare_0 (Q : QD) (y2_0 : ByteArray) (y2_1 : Bool) (y2_2 : LL) (y3_0 : ByteArray) (y3_1 : Bool) (y3_2 : LL) (n : Nat) (hb : n ≤ big) (J : Nat → Prop)
    (step : ∀ (k : Nat), k < n → J k → ∀ K : Prop, (J (k + 1) → K) → (0 ≤ (k : Int) ∧ (k : Int) < y2_2.length ∧ 0 ≤ (k : Int) ∧ (k : Int) < y3_2.length ∧ cl f_r01_Compare [.agg [.v .str (((y2_2.getD k []).drop 0).headD V.none), .v .bool ((((y2_2.getD k []).drop 0).tail).headD V.none), .v (.sl t_Term) (((((y2_2.getD k []).drop 0).tail).tail).headD V.none)], .agg [.v .str (((y3_2.getD k []).drop 0).headD V.none), .v .bool ((((y3_2.getD k []).drop 0).tail).headD V.none), .v (.sl t_Term) (((((y3_2.getD k []).drop 0).tail).tail).headD V.none)]] [] fun r1 H2 => r1 = (.v (.int .i64) (r1.V)) ∧ H2 = [] ∧ iff (r1.V.int != (0 : Int)) (True ∧ Q (.v (.int .i64) (r1.V)) []) (K)))
    (last : J n → (True ∧ Q (.v (.int .i64) (V.i 0)) []))
    (k : Nat) (le0 : k ≤ n) (hj : J k) : ∃ m0, lp_r01_Compare_0 Q m0 (n : Int) ((k : Int)) y2_0 y2_1 y2_2 y3_0 y3_1 y3_2 := by
  exact rangeG0 n hb J (fun m0 i => lp_r01_Compare_0 Q m0 (n : Int) i y2_0 y2_1 y2_2 y3_0 y3_1 y3_2) (fun m0 i => lp_r01_Compare_0_s Q m0 (n : Int) i y2_0 y2_1 y2_2 y3_0 y3_1 y3_2) (fun k hl_ hj_ m_ ih_ => step k hl_ hj_ _ ih_) last k le0 hj
def vc_r01_Compare (a0_0 : ByteArray) (a0_1 : Bool) (a0_2 : LL) (a1_0 : ByteArray) (a1_1 : Bool) (a1_2 : LL) (Q : QD) : Prop :=
  iff (!(a0_1 == a1_1)) (iff a0_1 (True ∧ Q (.v (.int .i64) (V.i (-1))) []) (True ∧ Q (.v (.int .i64) (V.i 1)) [])) (cl f_r01_CompareNames [.v .str (V.s a0_0), .v .str (V.s a1_0)] [] fun r1 H2 => r1 = (.v (.int .i64) (r1.V)) ∧ H2 = [] ∧ iff (r1.V.int != (0 : Int)) (True ∧ Q (.v (.int .i64) (r1.V)) []) ((a0_2.length ≤ big → (a1_2.length ≤ big → cl f_r01_CompareInts [.v (.int .i64) (V.i ((a0_2.length : Int))), .v (.int .i64) (V.i ((a1_2.length : Int)))] [] fun r3 H4 => r3 = (.v (.int .i64) (r3.V)) ∧ H4 = [] ∧ iff (r3.V.int != (0 : Int)) (True ∧ Q (.v (.int .i64) (r3.V)) []) ((a0_2.length ≤ big → ∃ m0, lp_r01_Compare_0 Q m0 ((a0_2.length : Int)) 0 a0_0 a0_1 a0_2 a1_0 a1_1 a1_2))))))
theorem C_r01_Compare (a0_0 : ByteArray) (a0_1 : Bool) (a0_2 : LL) (a1_0 : ByteArray) (a1_1 : Bool) (a1_2 : LL) (Q : QD) (h : vc_r01_Compare a0_0 a0_1 a0_2 a1_0 a1_1 a1_2 Q) : cl f_r01_Compare [.agg [.v .str (V.s a0_0), .v .bool (V.b a0_1), .v (.sl t_Term) (V.l a0_2)], .agg [.v .str (V.s a1_0), .v .bool (V.b a1_1), .v (.sl t_Term) (V.l a1_2)]] [] Q :=
  acalls2 (E := env_r01_Compare) (envOk _ _ _ _ _) 0 Tryz.func45 (by kernel_rfl) h
def env_r01_Formed : Env := envA [(6, ua 0 3 (ua 4 3 (ua 16 11 (ua 30 7 ([.dead 1, .dead 4, .dead 34]))))), (3000005, (.undef 0) :: (.undef 2) :: ua 5 2 (ua 16 10 ([.dead 18, .dead 23])))] [] [] [] [5]
def kl_r01_Formed_0 (Q : QD) : Post := blockK 0 (seqJ env_r01_Formed (fnAt [1, 1, 1, 1] Tryz.f47) (endK env_r01_Formed Tryz.f47 Q))
@[irreducible] def lp_r01_Formed_0 (Q : QD) (m0 : Nat) (x27 : LL) (x28 x29 : Int) : Prop :=
  iter (adj (env_r01_Formed.adj 6)) (evCode env_r01_Formed (fnAt [1, 1, 1, 0, 1, 0, 0] Tryz.f47)) (kl_r01_Formed_0 Q) m0 ⟨un 3 (.skip :: un 3 (sk 9 (un 11 ((.v (.sl t_Term) (V.l x27)) :: (.v (.int .i64) (V.i x28)) :: (.v (.int .i64) (V.i x29)) :: un 7 ([]))))), dd 37 ([])⟩ []
@[irreducible] def jp_r01_Formed_0 (Q : QD) (y1_0 : ByteArray) (y1_1 : Bool) (y1_2 : LL) : Prop :=
  joinM (evCode env_r01_Formed (fnAt [1, 1, 1] Tryz.f47)) ⟨.undef :: (.ptr (.loc 1) 0) :: .undef :: sk 2 (un 2 (sk 9 (un 10 (sk 11 ([]))))), .dead :: (.cells [.v .str (V.s y1_0), .v .bool (V.b y1_1), .v (.sl t_Term) (V.l y1_2)]) :: dd 35 ([])⟩ [] (endK env_r01_Formed Tryz.f47 Q)
def st_r01_Formed_0 (Q : QD) (m0 : Nat) (x27 : LL) (x28 x29 : Int) : Prop :=
  iff (decide (x29 < x28)) (0 ≤ x29 ∧ x29 < x27.length ∧ cl f_r01_Formed [.agg [.v .str (((x27.getD x29.toNat []).drop 0).headD V.none), .v .bool ((((x27.getD x29.toNat []).drop 0).tail).headD V.none), .v (.sl t_Term) (((((x27.getD x29.toNat []).drop 0).tail).tail).headD V.none)]] [] fun r1 H2 => r1 = (.v .bool (r1.V)) ∧ H2 = [] ∧ iff (!r1.V.bool) (True ∧ Q (.v .bool (V.b false)) []) (lp_r01_Formed_0 Q m0 x27 x28 (IntKind.i64.wrap (x29 + (1 : Int))))) (True ∧ Q (.v .bool (V.b true)) [])
theorem lp_r01_Formed_0_s (Q : QD) (m0 : Nat) (x27 : LL) (x28 x29 : Int) : lp_r01_Formed_0 Q (m0 + 1) x27 x28 x29 = st_r01_Formed_0 Q m0 x27 x28 x29 := by kernel_rfl
theorem range_r01_Formed_0 (Q : QD) (x27 : LL) (n : Nat) (hb : n ≤ big) (J : Nat → Prop)
    (step : ∀ (k : Nat), k < n → J k → ∀ K : Prop, (J (k + 1) → K) → (0 ≤ (k : Int) ∧ (k : Int) < x27.length ∧ cl f_r01_Formed [.agg [.v .str (((x27.getD k []).drop 0).headD V.none), .v .bool ((((x27.getD k []).drop 0).tail).headD V.none), .v (.sl t_Term) (((((x27.getD k []).drop 0).tail).tail).headD V.none)]] [] fun r1 H2 => r1 = (.v .bool (r1.V)) ∧ H2 = [] ∧ iff (!r1.V.bool) (True ∧ Q (.v .bool (V.b false)) []) (K)))
    (last : J n → (True ∧ Q (.v .bool (V.b true)) []))
    (k : Nat) (le0 : k ≤ n) (hj : J k) : ∃ m0, lp_r01_Formed_0 Q m0 x27 (n : Int) ((k : Int)) := by
  exact rangeG0 n hb J (fun m0 i => lp_r01_Formed_0 Q m0 x27 (n : Int) i) (fun m0 i => lp_r01_Formed_0_s Q m0 x27 (n : Int) i) (fun k hl_ hj_ m_ ih_ => step k hl_ hj_ _ ih_) last k le0 hj
def je_r01_Formed_0 (Q : QD) (y1_0 : ByteArray) (y1_1 : Bool) (y1_2 : LL) : Prop :=
  (y1_2.length ≤ big → ∃ m0, lp_r01_Formed_0 Q m0 y1_2 ((y1_2.length : Int)) 0)
theorem jp_r01_Formed_0_s (Q : QD) (y1_0 : ByteArray) (y1_1 : Bool) (y1_2 : LL) : jp_r01_Formed_0 Q y1_0 y1_1 y1_2 = je_r01_Formed_0 Q y1_0 y1_1 y1_2 := by kernel_rfl
def vc_r01_Formed (a0_0 : ByteArray) (a0_1 : Bool) (a0_2 : LL) (Q : QD) : Prop :=
  iff a0_1 (cl f_r01_IsName [.v .str (V.s a0_0), .v .bool (V.b false)] [] fun r1 H2 => r1 = (.v .bool (r1.V)) ∧ H2 = [] ∧ iff r1.V.bool ((a0_2.length ≤ big → True ∧ Q (.v .bool (V.b (((a0_2.length : Int)) == (0 : Int)))) [])) (True ∧ Q (.v .bool (V.b false)) [])) (cl f_r01_IsName [.v .str (V.s a0_0), .v .bool (V.b true)] [] fun r3 H4 => r3 = (.v .bool (r3.V)) ∧ H4 = [] ∧ iff (!r3.V.bool) (True ∧ Q (.v .bool (V.b false)) []) ((a0_2.length ≤ big → iff (decide (((a0_2.length : Int)) > (8 : Int))) (True ∧ Q (.v .bool (V.b false)) []) (jp_r01_Formed_0 Q a0_0 a0_1 a0_2))))
theorem C_r01_Formed (a0_0 : ByteArray) (a0_1 : Bool) (a0_2 : LL) (Q : QD) (h : vc_r01_Formed a0_0 a0_1 a0_2 Q) : cl f_r01_Formed [.agg [.v .str (V.s a0_0), .v .bool (V.b a0_1), .v (.sl t_Term) (V.l a0_2)]] [] Q :=
  acalls2 (E := env_r01_Formed) (envOk _ _ _ _ _) 0 Tryz.func47 (by kernel_rfl) h
def env_r01_Size : Env := envA [(3, ua 0 3 (ua 5 2 (ua 10 8 ([.dead 1, .dead 5, .dead 15]))))] [] [] [] []
def kl_r01_Size_0 (Q : QD) : Post := blockK 0 (seqJ env_r01_Size (fnAt [1, 1, 1] Tryz.f48) (endK env_r01_Size Tryz.f48 Q))
@[irreducible] def lp_r01_Size_0 (Q : QD) (m0 : Nat) (x3 : Int) (x7 : LL) (x8 x9 : Int) : Prop :=
  iter (adj (env_r01_Size.adj 3)) (evCode env_r01_Size (fnAt [1, 1, 0, 1, 0, 0] Tryz.f48)) (kl_r01_Size_0 Q) m0 ⟨un 3 ((.v (.int .i64) (V.i x3)) :: .skip :: un 2 ((.v (.sl t_Term) (V.l x7)) :: (.v (.int .i64) (V.i x8)) :: (.v (.int .i64) (V.i x9)) :: un 8 ([.skip]))), dd 19 ([])⟩ []
def st_r01_Size_0 (Q : QD) (m0 : Nat) (x3 : Int) (x7 : LL) (x8 x9 : Int) : Prop :=
  iff (decide (x9 < x8)) (0 ≤ x9 ∧ x9 < x7.length ∧ cl f_r01_Size [.agg [.v .str (((x7.getD x9.toNat []).drop 0).headD V.none), .v .bool ((((x7.getD x9.toNat []).drop 0).tail).headD V.none), .v (.sl t_Term) (((((x7.getD x9.toNat []).drop 0).tail).tail).headD V.none)]] [] fun r1 H2 => r1 = (.v (.int .i64) (r1.V)) ∧ H2 = [] ∧ lp_r01_Size_0 Q m0 (IntKind.i64.wrap (x3 + r1.V.int)) x7 x8 (IntKind.i64.wrap (x9 + (1 : Int)))) (True ∧ Q (.v (.int .i64) (V.i x3)) [])
theorem lp_r01_Size_0_s (Q : QD) (m0 : Nat) (x3 : Int) (x7 : LL) (x8 x9 : Int) : lp_r01_Size_0 Q (m0 + 1) x3 x7 x8 x9 = st_r01_Size_0 Q m0 x3 x7 x8 x9 := by kernel_rfl
theorem range_r01_Size_0 (Q : QD) (x7 : LL) (n : Nat) (hb : n ≤ big) (J : Nat → Int → Prop)
    (step : ∀ (k : Nat) (x3 : Int), k < n → J k x3 → ∀ K : Int → Prop, (∀ (x3' : Int), J (k + 1) x3' → K x3') → (0 ≤ (k : Int) ∧ (k : Int) < x7.length ∧ cl f_r01_Size [.agg [.v .str (((x7.getD k []).drop 0).headD V.none), .v .bool ((((x7.getD k []).drop 0).tail).headD V.none), .v (.sl t_Term) (((((x7.getD k []).drop 0).tail).tail).headD V.none)]] [] fun r1 H2 => r1 = (.v (.int .i64) (r1.V)) ∧ H2 = [] ∧ K (IntKind.i64.wrap (x3 + r1.V.int))))
    (last : ∀ (x3 : Int), J n x3 → (True ∧ Q (.v (.int .i64) (V.i x3)) []))
    (k : Nat) (x3 : Int) (le0 : k ≤ n) (hj : J k x3) : ∃ m0, lp_r01_Size_0 Q m0 x3 x7 (n : Int) ((k : Int)) := by
  exact rangeG1 n hb J (fun m0 i x3 => lp_r01_Size_0 Q m0 x3 x7 (n : Int) i) (fun m0 i x3 => lp_r01_Size_0_s Q m0 x3 x7 (n : Int) i) (fun k x3 hl_ hj_ m_ ih_ => step k x3 hl_ hj_ _ ih_) last k x3 le0 hj
def vc_r01_Size (a0_0 : ByteArray) (a0_1 : Bool) (a0_2 : LL) (Q : QD) : Prop :=
  (a0_2.length ≤ big → ∃ m0, lp_r01_Size_0 Q m0 1 a0_2 ((a0_2.length : Int)) 0)
theorem C_r01_Size (a0_0 : ByteArray) (a0_1 : Bool) (a0_2 : LL) (Q : QD) (h : vc_r01_Size a0_0 a0_1 a0_2 Q) : cl f_r01_Size [.agg [.v .str (V.s a0_0), .v .bool (V.b a0_1), .v (.sl t_Term) (V.l a0_2)]] [] Q :=
  acalls2 (E := env_r01_Size) (envOk _ _ _ _ _) 0 Tryz.func48 (by kernel_rfl) h
def env_r01_Depth : Env := envA [(3, ua 0 3 (ua 5 2 (ua 10 8 ((.dead 1) :: (.dead 5) :: da 15 2 ([])))))] [] [] [] []
def kl_r01_Depth_0 (Q : QD) : Post := blockK 0 (seqJ env_r01_Depth (fnAt [1, 1, 1] Tryz.f49) (endK env_r01_Depth Tryz.f49 Q))
@[irreducible] def lp_r01_Depth_0 (Q : QD) (m0 : Nat) (x3 : Int) (x7 : LL) (x8 x9 : Int) : Prop :=
  iter (adj (env_r01_Depth.adj 3)) (evCode env_r01_Depth (fnAt [1, 1, 0, 1, 0, 0] Tryz.f49)) (kl_r01_Depth_0 Q) m0 ⟨un 3 ((.v (.int .i64) (V.i x3)) :: .skip :: un 2 ((.v (.sl t_Term) (V.l x7)) :: (.v (.int .i64) (V.i x8)) :: (.v (.int .i64) (V.i x9)) :: un 8 (sk 2 ([])))), dd 20 ([])⟩ []
def st_r01_Depth_0 (Q : QD) (m0 : Nat) (x3 : Int) (x7 : LL) (x8 x9 : Int) : Prop :=
  iff (decide (x9 < x8)) (0 ≤ x9 ∧ x9 < x7.length ∧ cl f_r01_Depth [.agg [.v .str (((x7.getD x9.toNat []).drop 0).headD V.none), .v .bool ((((x7.getD x9.toNat []).drop 0).tail).headD V.none), .v (.sl t_Term) (((((x7.getD x9.toNat []).drop 0).tail).tail).headD V.none)]] [] fun r1 H2 => r1 = (.v (.int .i64) (r1.V)) ∧ H2 = [] ∧ lp_r01_Depth_0 Q m0 (if r1.V.int > x3 then r1.V.int else x3) x7 x8 (IntKind.i64.wrap (x9 + (1 : Int)))) (True ∧ Q (.v (.int .i64) (V.i (IntKind.i64.wrap (x3 + (1 : Int))))) [])
theorem lp_r01_Depth_0_s (Q : QD) (m0 : Nat) (x3 : Int) (x7 : LL) (x8 x9 : Int) : lp_r01_Depth_0 Q (m0 + 1) x3 x7 x8 x9 = st_r01_Depth_0 Q m0 x3 x7 x8 x9 := by kernel_rfl
theorem range_r01_Depth_0 (Q : QD) (x7 : LL) (n : Nat) (hb : n ≤ big) (J : Nat → Int → Prop)
    (step : ∀ (k : Nat) (x3 : Int), k < n → J k x3 → ∀ K : Int → Prop, (∀ (x3' : Int), J (k + 1) x3' → K x3') → (0 ≤ (k : Int) ∧ (k : Int) < x7.length ∧ cl f_r01_Depth [.agg [.v .str (((x7.getD k []).drop 0).headD V.none), .v .bool ((((x7.getD k []).drop 0).tail).headD V.none), .v (.sl t_Term) (((((x7.getD k []).drop 0).tail).tail).headD V.none)]] [] fun r1 H2 => r1 = (.v (.int .i64) (r1.V)) ∧ H2 = [] ∧ K (if r1.V.int > x3 then r1.V.int else x3)))
    (last : ∀ (x3 : Int), J n x3 → (True ∧ Q (.v (.int .i64) (V.i (IntKind.i64.wrap (x3 + (1 : Int))))) []))
    (k : Nat) (x3 : Int) (le0 : k ≤ n) (hj : J k x3) : ∃ m0, lp_r01_Depth_0 Q m0 x3 x7 (n : Int) ((k : Int)) := by
  exact rangeG1 n hb J (fun m0 i x3 => lp_r01_Depth_0 Q m0 x3 x7 (n : Int) i) (fun m0 i x3 => lp_r01_Depth_0_s Q m0 x3 x7 (n : Int) i) (fun k x3 hl_ hj_ m_ ih_ => step k x3 hl_ hj_ _ ih_) last k x3 le0 hj
def vc_r01_Depth (a0_0 : ByteArray) (a0_1 : Bool) (a0_2 : LL) (Q : QD) : Prop :=
  (a0_2.length ≤ big → ∃ m0, lp_r01_Depth_0 Q m0 0 a0_2 ((a0_2.length : Int)) 0)
theorem C_r01_Depth (a0_0 : ByteArray) (a0_1 : Bool) (a0_2 : LL) (Q : QD) (h : vc_r01_Depth a0_0 a0_1 a0_2 Q) : cl f_r01_Depth [.agg [.v .str (V.s a0_0), .v .bool (V.b a0_1), .v (.sl t_Term) (V.l a0_2)]] [] Q :=
  acalls2 (E := env_r01_Depth) (envOk _ _ _ _ _) 0 Tryz.func49 (by kernel_rfl) h
def env_r04_Subst : Env := envA [(3000004, ua 1 2 ((.undef 4) :: ua 6 2 ((.undef 9) :: ua 11 21 ([.dead 4, .dead 25]))))] [(4, 12, [], [])] [] [] [4]
@[irreducible] def jp_r04_Subst_0 (Q : QD) (x0 : LL) (y5_0 : Int) (y5_1 : LL) (y8_0 y8_1 y8_2 : V) : Prop :=
  joinM (evCode env_r04_Subst (fnAt [1, 1, 1] Tryz.f50)) ⟨(.v (.sl t_Rule) (V.l x0)) :: un 2 (.skip :: .undef :: (.ptr (.loc 5) 0) :: un 2 ((.ptr (.loc 8) 0) :: .undef :: .skip :: un 21 (sk 14 ([])))), dd 5 ((.cells [.v (.int .i64) (V.i y5_0), .v (.sl t_int) (V.l y5_1)]) :: dd 2 ((.cells [.v .str (y8_0), .v .bool (y8_1), .v (.sl t_Term) (y8_2)]) :: dd 37 ([])))⟩ [] (endK env_r04_Subst Tryz.f50 Q)
def je_r04_Subst_0 (Q : QD) (x0 : LL) (y5_0 : Int) (y5_1 : LL) (y8_0 y8_1 y8_2 : V) : Prop :=
  0 ≤ y5_0 ∧ y5_0 < x0.length ∧ (∃ r1 : D, cl f_r03_Match [.agg [.v .str (((x0.getD y5_0.toNat []).drop 0).headD V.none), .v .bool ((((x0.getD y5_0.toNat []).drop 0).tail).headD V.none), .v (.sl t_Term) (((((x0.getD y5_0.toNat []).drop 0).tail).tail).headD V.none)], .agg [.v .str (y8_0), .v .bool (y8_1), .v (.sl t_Term) (y8_2)]] [] (fun r H' => r = (.tup [.v (.sl t_Bind) ((r1.parts.headD .undef).V), .v .bool ((r1.parts.tail.headD .undef).V)]) ∧ H' = []) ∧ iff (!(((r1.parts.tail.headD .undef).V).bool)) ((True ∧ True ∧ True) ∧ Q (.tup [.nil, .v (.int .i64) (V.i 9)]) []) ((True ∧ True ∧ True) ∧ Q (.tup [.v (.sl t_Bind) ((r1.parts.headD .undef).V), .v (.int .i64) (V.i 0)]) []))
theorem jp_r04_Subst_0_s (Q : QD) (x0 : LL) (y5_0 : Int) (y5_1 : LL) (y8_0 y8_1 y8_2 : V) : jp_r04_Subst_0 Q x0 y5_0 y5_1 y8_0 y8_1 y8_2 = je_r04_Subst_0 Q x0 y5_0 y5_1 y8_0 y8_1 y8_2 := by kernel_rfl
def vc_r04_Subst (a0 : LL) (a1_0 : ByteArray) (a1_1 : Bool) (a1_2 : LL) (a2_0 : Int) (a2_1 : LL) (Q : QD) : Prop :=
  cl f_r01_At [.agg [.v .str (V.s a1_0), .v .bool (V.b a1_1), .v (.sl t_Term) (V.l a1_2)], .v (.sl t_int) (V.l a2_1)] [] fun r1 H2 => r1 = (.tup [.agg [.v .str ((((r1.parts.headD .undef).cells).headD .undef).V), .v .bool (((((r1.parts.headD .undef).cells).tail).headD .undef).V), .v (.sl t_Term) ((((((r1.parts.headD .undef).cells).tail).tail).headD .undef).V)], .v .bool ((r1.parts.tail.headD .undef).V)]) ∧ H2 = [] ∧ iff (decide (a2_0 < (0 : Int))) ((True ∧ True ∧ True) ∧ Q (.tup [.nil, .v (.int .i64) (V.i 8)]) []) ((a0.length ≤ big → iff (decide (a2_0 ≥ ((a0.length : Int)))) ((True ∧ True ∧ True) ∧ Q (.tup [.nil, .v (.int .i64) (V.i 8)]) []) (iff (!(((r1.parts.tail.headD .undef).V).bool)) ((True ∧ True ∧ True) ∧ Q (.tup [.nil, .v (.int .i64) (V.i 8)]) []) (jp_r04_Subst_0 Q a0 a2_0 a2_1 ((((r1.parts.headD .undef).cells).headD .undef).V) (((((r1.parts.headD .undef).cells).tail).headD .undef).V) ((((((r1.parts.headD .undef).cells).tail).tail).headD .undef).V)))))
theorem C_r04_Subst (a0 : LL) (a1_0 : ByteArray) (a1_1 : Bool) (a1_2 : LL) (a2_0 : Int) (a2_1 : LL) (Q : QD) (h : vc_r04_Subst a0 a1_0 a1_1 a1_2 a2_0 a2_1 Q) : cl f_r04_Subst [.v (.sl t_Rule) (V.l a0), .agg [.v .str (V.s a1_0), .v .bool (V.b a1_1), .v (.sl t_Term) (V.l a1_2)], .agg [.v (.int .i64) (V.i a2_0), .v (.sl t_int) (V.l a2_1)]] [] Q :=
  acalls2 (E := env_r04_Subst) (envOk _ _ _ _ _) 0 Tryz.func50 (by kernel_rfl) h
def env_r01_Grown : Env := envA [(6, (.undef 1) :: ua 3 3 (ua 10 5 ((.undef 23) :: ua 27 16 ([.dead 3, .dead 10, .dead 33, .dead 41]))))] [(3, 3, [], [])] [] [] []
def kl_r01_Grown_0 (Q : QD) : Post := blockK 0 (seqJ env_r01_Grown (fnAt [1, 1, 1, 1] Tryz.f51) (endK env_r01_Grown Tryz.f51 Q))
@[irreducible] def lp_r01_Grown_0 (Q : QD) (m0 : Nat) (x0 : LL) (x7 x8 : Int) (x24 : LL) (x25 x26 : Int) : Prop :=
  iter (adj (env_r01_Grown.adj 6)) (evCode env_r01_Grown (fnAt [1, 1, 1, 0, 1, 0, 0] Tryz.f51)) (kl_r01_Grown_0 Q) m0 ⟨(.v (.sl t_Bind) (V.l x0)) :: .undef :: .skip :: un 3 (.skip :: (.v (.int .i64) (V.i x7)) :: (.v (.int .i64) (V.i x8)) :: .skip :: un 5 (sk 8 (.undef :: (.v (.sl t_Term) (V.l x24)) :: (.v (.int .i64) (V.i x25)) :: (.v (.int .i64) (V.i x26)) :: un 16 (sk 3 ([]))))), dd 46 ([])⟩ []
def st_r01_Grown_0 (Q : QD) (m0 : Nat) (x0 : LL) (x7 x8 : Int) (x24 : LL) (x25 x26 : Int) : Prop :=
  iff (decide (x26 < x25)) (0 ≤ x26 ∧ x26 < x24.length ∧ cl f_r01_Grown [.v (.sl t_Bind) (V.l x0), .agg [.v .str (((x24.getD x26.toNat []).drop 0).headD V.none), .v .bool ((((x24.getD x26.toNat []).drop 0).tail).headD V.none), .v (.sl t_Term) (((((x24.getD x26.toNat []).drop 0).tail).tail).headD V.none)]] [] fun r1 H2 => r1 = (.tup [.v (.int .i64) ((r1.parts.headD .undef).V), .v (.int .i64) ((r1.parts.tail.headD .undef).V)]) ∧ H2 = [] ∧ lp_r01_Grown_0 Q m0 x0 (IntKind.i64.wrap (x7 + (((r1.parts.headD .undef).V).int))) (if (((r1.parts.tail.headD .undef).V).int) > x8 then (((r1.parts.tail.headD .undef).V).int) else x8) x24 x25 (IntKind.i64.wrap (x26 + (1 : Int)))) ((True ∧ True ∧ True) ∧ Q (.tup [.v (.int .i64) (V.i x7), .v (.int .i64) (V.i (IntKind.i64.wrap (x8 + (1 : Int))))]) [])
theorem lp_r01_Grown_0_s (Q : QD) (m0 : Nat) (x0 : LL) (x7 x8 : Int) (x24 : LL) (x25 x26 : Int) : lp_r01_Grown_0 Q (m0 + 1) x0 x7 x8 x24 x25 x26 = st_r01_Grown_0 Q m0 x0 x7 x8 x24 x25 x26 := by kernel_rfl
theorem range_r01_Grown_0 (Q : QD) (x0 x24 : LL) (n : Nat) (hb : n ≤ big) (J : Nat → Int → Int → Prop)
    (step : ∀ (k : Nat) (x7 x8 : Int), k < n → J k x7 x8 → ∀ K : Int → Int → Prop, (∀ (x7' x8' : Int), J (k + 1) x7' x8' → K x7' x8') → (0 ≤ (k : Int) ∧ (k : Int) < x24.length ∧ cl f_r01_Grown [.v (.sl t_Bind) (V.l x0), .agg [.v .str (((x24.getD k []).drop 0).headD V.none), .v .bool ((((x24.getD k []).drop 0).tail).headD V.none), .v (.sl t_Term) (((((x24.getD k []).drop 0).tail).tail).headD V.none)]] [] fun r1 H2 => r1 = (.tup [.v (.int .i64) ((r1.parts.headD .undef).V), .v (.int .i64) ((r1.parts.tail.headD .undef).V)]) ∧ H2 = [] ∧ K (IntKind.i64.wrap (x7 + (((r1.parts.headD .undef).V).int))) (if (((r1.parts.tail.headD .undef).V).int) > x8 then (((r1.parts.tail.headD .undef).V).int) else x8)))
    (last : ∀ (x7 x8 : Int), J n x7 x8 → ((True ∧ True ∧ True) ∧ Q (.tup [.v (.int .i64) (V.i x7), .v (.int .i64) (V.i (IntKind.i64.wrap (x8 + (1 : Int))))]) []))
    (k : Nat) (x7 x8 : Int) (le0 : k ≤ n) (hj : J k x7 x8) : ∃ m0, lp_r01_Grown_0 Q m0 x0 x7 x8 x24 (n : Int) ((k : Int)) := by
  exact rangeG2 n hb J (fun m0 i x7 x8 => lp_r01_Grown_0 Q m0 x0 x7 x8 x24 (n : Int) i) (fun m0 i x7 x8 => lp_r01_Grown_0_s Q m0 x0 x7 x8 x24 (n : Int) i) (fun k x7 x8 hl_ hj_ m_ ih_ => step k x7 x8 hl_ hj_ _ ih_) last k x7 x8 le0 hj
def vc_r01_Grown (a0 : LL) (a1_0 : ByteArray) (a1_1 : Bool) (a1_2 : LL) (Q : QD) : Prop :=
  iff a1_1 (cl f_r01_Image [.v (.sl t_Bind) (V.l a0), .v .str (V.s a1_0)] [] fun r1 H2 => r1 = (.agg [.v .str ((r1.cells.headD .undef).V), .v .bool ((r1.cells.tail.headD .undef).V), .v (.sl t_Term) ((r1.cells.tail.tail.headD .undef).V)]) ∧ H2 = [] ∧ (∃ r3 : D, cl f_r01_Size [.agg [.v .str ((r1.cells.headD .undef).V), .v .bool ((r1.cells.tail.headD .undef).V), .v (.sl t_Term) ((r1.cells.tail.tail.headD .undef).V)]] [] (fun r H' => r = (.v (.int .i64) (r3.V)) ∧ H' = []) ∧ cl f_r01_Depth [.agg [.v .str ((r1.cells.headD .undef).V), .v .bool ((r1.cells.tail.headD .undef).V), .v (.sl t_Term) ((r1.cells.tail.tail.headD .undef).V)]] [] fun r4 H5 => r4 = (.v (.int .i64) (r4.V)) ∧ H5 = [] ∧ (True ∧ True ∧ True) ∧ Q (.tup [.v (.int .i64) (r3.V), .v (.int .i64) (r4.V)]) [])) ((a1_2.length ≤ big → ∃ m0, lp_r01_Grown_0 Q m0 a0 1 0 a1_2 ((a1_2.length : Int)) 0))
theorem C_r01_Grown (a0 : LL) (a1_0 : ByteArray) (a1_1 : Bool) (a1_2 : LL) (Q : QD) (h : vc_r01_Grown a0 a1_0 a1_1 a1_2 Q) : cl f_r01_Grown [.v (.sl t_Bind) (V.l a0), .agg [.v .str (V.s a1_0), .v .bool (V.b a1_1), .v (.sl t_Term) (V.l a1_2)]] [] Q :=
  acalls2 (E := env_r01_Grown) (envOk _ _ _ _ _) 0 Tryz.func51 (by kernel_rfl) h
def env_r04_replaced : Env := envA [(5, (.undef 0) :: (.undef 4) :: ua 8 2 (ua 12 7 ((.undef 21) :: ua 25 29 ([.dead 4, .dead 13, .dead 30, .dead 32, .dead 44, .dead 52])))), (3000010, (.undef 0) :: (.undef 4) :: ua 8 2 (ua 12 2 (ua 16 3 ((.undef 21) :: ua 25 29 ([.dead 13, .dead 44])))))] [(7, 3, [], []), (9, 10, [], [])] [] [] [10]
def kl_r04_replaced_0 (Q : QD) : Post := blockK 0 (seqJ env_r04_replaced (fnAt [1, 1, 1, 1] Tryz.f52) (endK env_r04_replaced Tryz.f52 Q))
@[irreducible] def jp_r04_replaced_0 (Q : QD) (m0 : Nat) (x1 : LL) (x2 x3 x10 x11 : Int) (x14 x15 : V) (x22 : LL) (x23 x24 : Int) : Prop :=
  joinM (evCode env_r04_replaced (fnAt [1, 1, 1, 0, 1, 0, 0, 1, 1, 0, 0, 1, 1, 1] Tryz.f52)) ⟨.undef :: (.v (.sl t_int) (V.l x1)) :: (.v (.int .i64) (V.i x2)) :: (.v (.int .i64) (V.i x3)) :: .undef :: sk 3 (un 2 ((.v (.int .i64) (V.i x10)) :: (.v (.int .i64) (V.i x11)) :: un 2 ((.v (.int .i64) (x14)) :: (.v (.int .i64) (x15)) :: un 3 (sk 2 (.undef :: (.v (.sl t_Term) (V.l x22)) :: (.v (.int .i64) (V.i x23)) :: (.v (.int .i64) (V.i x24)) :: un 29 (sk 3 ([]))))))), dd 57 ([])⟩ [] (blockK 1 (seqJ env_r04_replaced (fnAt [1, 1, 1, 0, 1, 0, 0, 1, 1, 1] Tryz.f52) (loopK (adj (env_r04_replaced.adj 5)) (iter (adj (env_r04_replaced.adj 5)) (evCode env_r04_replaced (fnAt [1, 1, 1, 0, 1, 0, 0] Tryz.f52)) (kl_r04_replaced_0 Q) m0) (kl_r04_replaced_0 Q))))
@[irreducible] def lp_r04_replaced_0 (Q : QD) (m0 : Nat) (x1 : LL) (x2 x3 x10 x11 : Int) (x22 : LL) (x23 x24 : Int) : Prop :=
  iter (adj (env_r04_replaced.adj 5)) (evCode env_r04_replaced (fnAt [1, 1, 1, 0, 1, 0, 0] Tryz.f52)) (kl_r04_replaced_0 Q) m0 ⟨.undef :: (.v (.sl t_int) (V.l x1)) :: (.v (.int .i64) (V.i x2)) :: (.v (.int .i64) (V.i x3)) :: .undef :: sk 3 (un 2 ((.v (.int .i64) (V.i x10)) :: (.v (.int .i64) (V.i x11)) :: un 7 (sk 2 (.undef :: (.v (.sl t_Term) (V.l x22)) :: (.v (.int .i64) (V.i x23)) :: (.v (.int .i64) (V.i x24)) :: un 29 (sk 3 ([])))))), dd 57 ([])⟩ []
def je_r04_replaced_0 (Q : QD) (m0 : Nat) (x1 : LL) (x2 x3 x10 x11 : Int) (x14 x15 : V) (x22 : LL) (x23 x24 : Int) : Prop :=
  lp_r04_replaced_0 Q m0 x1 x2 x3 (IntKind.i64.wrap (x10 + x14.int)) (if x15.int > x11 then x15.int else x11) x22 x23 (IntKind.i64.wrap (x24 + (1 : Int)))
theorem jp_r04_replaced_0_s (Q : QD) (m0 : Nat) (x1 : LL) (x2 x3 x10 x11 : Int) (x14 x15 : V) (x22 : LL) (x23 x24 : Int) : jp_r04_replaced_0 Q m0 x1 x2 x3 x10 x11 x14 x15 x22 x23 x24 = je_r04_replaced_0 Q m0 x1 x2 x3 x10 x11 x14 x15 x22 x23 x24 := by kernel_rfl
def st_r04_replaced_0 (Q : QD) (m0 : Nat) (x1 : LL) (x2 x3 x10 x11 : Int) (x22 : LL) (x23 x24 : Int) : Prop :=
  iff (decide (x24 < x23)) (0 ≤ x24 ∧ x24 < x22.length ∧ (∃ r1 : D, cl f_r01_Size [.agg [.v .str (((x22.getD x24.toNat []).drop 0).headD V.none), .v .bool ((((x22.getD x24.toNat []).drop 0).tail).headD V.none), .v (.sl t_Term) (((((x22.getD x24.toNat []).drop 0).tail).tail).headD V.none)]] [] (fun r H' => r = (.v (.int .i64) (r1.V)) ∧ H' = []) ∧ cl f_r01_Depth [.agg [.v .str (((x22.getD x24.toNat []).drop 0).headD V.none), .v .bool ((((x22.getD x24.toNat []).drop 0).tail).headD V.none), .v (.sl t_Term) (((((x22.getD x24.toNat []).drop 0).tail).tail).headD V.none)]] [] fun r2 H3 => r2 = (.v (.int .i64) (r2.V)) ∧ H3 = [] ∧ 0 ≤ (0 : Int) ∧ (0 : Int) < x1.length ∧ iff (x24 == ((((x1.getD ((0 : Int)).toNat []).drop 0).headD V.none).int)) (0 ≤ (1 : Int) ∧ (1 : Int) ≤ (x1.length : Int) ∧ (x1.length : Int) ≤ x1.length ∧ (∃ r4 : D, cl f_r04_replaced [.agg [.v .str (((x22.getD x24.toNat []).drop 0).headD V.none), .v .bool ((((x22.getD x24.toNat []).drop 0).tail).headD V.none), .v (.sl t_Term) (((((x22.getD x24.toNat []).drop 0).tail).tail).headD V.none)], .v (.sl t_int) (V.l ((x1.take ((x1.length : Int)).toNat).drop (1 : Int).toNat)), .v (.int .i64) (V.i x2), .v (.int .i64) (V.i x3)] [] (fun r H' => r = (.tup [.v (.int .i64) ((r4.parts.headD .undef).V), .v (.int .i64) ((r4.parts.tail.headD .undef).V)]) ∧ H' = []) ∧ jp_r04_replaced_0 Q m0 x1 x2 x3 x10 x11 ((r4.parts.headD .undef).V) ((r4.parts.tail.headD .undef).V) x22 x23 x24)) (jp_r04_replaced_0 Q m0 x1 x2 x3 x10 x11 r1.V r2.V x22 x23 x24))) ((True ∧ True ∧ True) ∧ Q (.tup [.v (.int .i64) (V.i x10), .v (.int .i64) (V.i (IntKind.i64.wrap (x11 + (1 : Int))))]) [])
theorem lp_r04_replaced_0_s (Q : QD) (m0 : Nat) (x1 : LL) (x2 x3 x10 x11 : Int) (x22 : LL) (x23 x24 : Int) : lp_r04_replaced_0 Q (m0 + 1) x1 x2 x3 x10 x11 x22 x23 x24 = st_r04_replaced_0 Q m0 x1 x2 x3 x10 x11 x22 x23 x24 := by kernel_rfl
theorem range_r04_replaced_0 (Q : QD) (x1 : LL) (x2 x3 : Int) (x22 : LL) (n : Nat) (hb : n ≤ big) (J : Nat → Int → Int → Prop)
    (step : ∀ (k : Nat) (x10 x11 : Int), k < n → J k x10 x11 → ∀ m0 : Nat, (∀ (x10' x11' : Int), J (k + 1) x10' x11' → lp_r04_replaced_0 Q m0 x1 x2 x3 x10' x11' x22 (n : Int) (IntKind.i64.wrap ((k : Int) + (1 : Int)))) → (0 ≤ (k : Int) ∧ (k : Int) < x22.length ∧ (∃ r1 : D, cl f_r01_Size [.agg [.v .str (((x22.getD k []).drop 0).headD V.none), .v .bool ((((x22.getD k []).drop 0).tail).headD V.none), .v (.sl t_Term) (((((x22.getD k []).drop 0).tail).tail).headD V.none)]] [] (fun r H' => r = (.v (.int .i64) (r1.V)) ∧ H' = []) ∧ cl f_r01_Depth [.agg [.v .str (((x22.getD k []).drop 0).headD V.none), .v .bool ((((x22.getD k []).drop 0).tail).headD V.none), .v (.sl t_Term) (((((x22.getD k []).drop 0).tail).tail).headD V.none)]] [] fun r2 H3 => r2 = (.v (.int .i64) (r2.V)) ∧ H3 = [] ∧ 0 ≤ (0 : Int) ∧ (0 : Int) < x1.length ∧ iff ((k : Int) == ((((x1.getD ((0 : Int)).toNat []).drop 0).headD V.none).int)) (0 ≤ (1 : Int) ∧ (1 : Int) ≤ (x1.length : Int) ∧ (x1.length : Int) ≤ x1.length ∧ (∃ r4 : D, cl f_r04_replaced [.agg [.v .str (((x22.getD k []).drop 0).headD V.none), .v .bool ((((x22.getD k []).drop 0).tail).headD V.none), .v (.sl t_Term) (((((x22.getD k []).drop 0).tail).tail).headD V.none)], .v (.sl t_int) (V.l ((x1.take ((x1.length : Int)).toNat).drop (1 : Int).toNat)), .v (.int .i64) (V.i x2), .v (.int .i64) (V.i x3)] [] (fun r H' => r = (.tup [.v (.int .i64) ((r4.parts.headD .undef).V), .v (.int .i64) ((r4.parts.tail.headD .undef).V)]) ∧ H' = []) ∧ jp_r04_replaced_0 Q m0 x1 x2 x3 x10 x11 ((r4.parts.headD .undef).V) ((r4.parts.tail.headD .undef).V) x22 (n : Int) (k : Int))) (jp_r04_replaced_0 Q m0 x1 x2 x3 x10 x11 r1.V r2.V x22 (n : Int) (k : Int)))))
    (last : ∀ (x10 x11 : Int), J n x10 x11 → ((True ∧ True ∧ True) ∧ Q (.tup [.v (.int .i64) (V.i x10), .v (.int .i64) (V.i (IntKind.i64.wrap (x11 + (1 : Int))))]) []))
    (k : Nat) (x10 x11 : Int) (le0 : k ≤ n) (hj : J k x10 x11) : ∃ m0, lp_r04_replaced_0 Q m0 x1 x2 x3 x10 x11 x22 (n : Int) ((k : Int)) := by
  exact rangeG2 n hb J (fun m0 i x10 x11 => lp_r04_replaced_0 Q m0 x1 x2 x3 x10 x11 x22 (n : Int) i) (fun m0 i x10 x11 => lp_r04_replaced_0_s Q m0 x1 x2 x3 x10 x11 x22 (n : Int) i) (fun k x10 x11 hl_ hj_ m_ ih_ => step k x10 x11 hl_ hj_ m_ ih_) last k x10 x11 le0 hj
def vc_r04_replaced (a0_0 : ByteArray) (a0_1 : Bool) (a0_2 a1 : LL) (a2 a3 : Int) (Q : QD) : Prop :=
  (a1.length ≤ big → iff (((a1.length : Int)) == (0 : Int)) ((True ∧ True ∧ True) ∧ Q (.tup [.v (.int .i64) (V.i a2), .v (.int .i64) (V.i a3)]) []) ((a0_2.length ≤ big → ∃ m0, lp_r04_replaced_0 Q m0 a1 a2 a3 1 0 a0_2 ((a0_2.length : Int)) 0)))
theorem C_r04_replaced (a0_0 : ByteArray) (a0_1 : Bool) (a0_2 a1 : LL) (a2 a3 : Int) (Q : QD) (h : vc_r04_replaced a0_0 a0_1 a0_2 a1 a2 a3 Q) : cl f_r04_replaced [.agg [.v .str (V.s a0_0), .v .bool (V.b a0_1), .v (.sl t_Term) (V.l a0_2)], .v (.sl t_int) (V.l a1), .v (.int .i64) (V.i a2), .v (.int .i64) (V.i a3)] [] Q :=
  acalls2 (E := env_r04_replaced) (envOk _ _ _ _ _) 0 Tryz.func52 (by kernel_rfl) h
def env_r01_Apply : Env := envA [(5, (.undef 1) :: (.undef 3) :: ua 7 3 (ua 14 4 (ua 21 12 ((.dead 3) :: (.dead 7) :: da 28 3 ([.ownC 5 2 34 t_Term])))))] [(7, 6, [], [])] [] [] []
def kl_r01_Apply_0 (Q : QD) : Post := blockK 0 (seqJ env_r01_Apply (fnAt [1, 1, 1, 1] Tryz.f54) (endK env_r01_Apply Tryz.f54 Q))
@[irreducible] def lp_r01_Apply_0 (Q : QD) (m0 : Nat) (x0 x18 : LL) (x19 x20 : Int) (y4_0 : ByteArray) (y4_1 : Bool) (y5_0 : ByteArray) (y5_1 : Bool) (y5_2n : Nat) (y34 : LL) : Prop :=
  iter (adj (env_r01_Apply.adj 5)) (evCode env_r01_Apply (fnAt [1, 1, 1, 0, 1, 0, 0] Tryz.f54)) (kl_r01_Apply_0 Q) m0 ⟨(.v (.sl t_Bind) (V.l x0)) :: .undef :: .skip :: .undef :: (.ptr (.loc 4) 0) :: (.ptr (.loc 5) 0) :: .skip :: un 3 (sk 4 (un 4 ((.v (.sl t_Term) (V.l x18)) :: (.v (.int .i64) (V.i x19)) :: (.v (.int .i64) (V.i x20)) :: un 12 ([.skip])))), dd 4 ((.cells [.v .str (V.s y4_0), .v .bool (V.b y4_1), .nil]) :: (.cells [.v .str (V.s y5_0), .v .bool (V.b y5_1), .osl (.loc 34) y5_2n]) :: dd 28 ([.row t_Term y34]))⟩ []
def st_r01_Apply_0 (Q : QD) (m0 : Nat) (x0 x18 : LL) (x19 x20 : Int) (y4_0 : ByteArray) (y4_1 : Bool) (y5_0 : ByteArray) (y5_1 : Bool) (y5_2n : Nat) (y34 : LL) : Prop :=
  iff (decide (x20 < x19)) (0 ≤ x20 ∧ x20 < x18.length ∧ (∃ r1 : D, cl f_r01_Apply [.v (.sl t_Bind) (V.l x0), .agg [.v .str (((x18.getD x20.toNat []).drop 0).headD V.none), .v .bool ((((x18.getD x20.toNat []).drop 0).tail).headD V.none), .v (.sl t_Term) (((((x18.getD x20.toNat []).drop 0).tail).tail).headD V.none)]] [] (fun r H' => r = (.agg [.v .str ((r1.cells.headD .undef).V), .v .bool ((r1.cells.tail.headD .undef).V), .v (.sl t_Term) ((r1.cells.tail.tail.headD .undef).V)]) ∧ H' = []) ∧ y34.length = y5_2n ∧ y5_2n + ([[(r1.cells.headD .undef).V, (r1.cells.tail.headD .undef).V, (r1.cells.tail.tail.headD .undef).V]]).length ≤ lim ∧ lp_r01_Apply_0 Q m0 x0 x18 x19 (IntKind.i64.wrap (x20 + (1 : Int))) y4_0 y4_1 y5_0 y5_1 (y5_2n + ([[(r1.cells.headD .undef).V, (r1.cells.tail.headD .undef).V, (r1.cells.tail.tail.headD .undef).V]]).length) (y34 ++ ([[(r1.cells.headD .undef).V, (r1.cells.tail.headD .undef).V, (r1.cells.tail.tail.headD .undef).V]])))) ((True ∧ True ∧ (y5_2n = y34.length) ∧ True) ∧ Q (.agg [.v .str (V.s y5_0), .v .bool (V.b y5_1), .v (.sl t_Term) (V.l y34)]) [])
theorem lp_r01_Apply_0_s (Q : QD) (m0 : Nat) (x0 x18 : LL) (x19 x20 : Int) (y4_0 : ByteArray) (y4_1 : Bool) (y5_0 : ByteArray) (y5_1 : Bool) (y5_2n : Nat) (y34 : LL) : lp_r01_Apply_0 Q (m0 + 1) x0 x18 x19 x20 y4_0 y4_1 y5_0 y5_1 y5_2n y34 = st_r01_Apply_0 Q m0 x0 x18 x19 x20 y4_0 y4_1 y5_0 y5_1 y5_2n y34 := by kernel_rfl
theorem range_r01_Apply_0 (Q : QD) (x0 x18 : LL) (y4_0 : ByteArray) (y4_1 : Bool) (y5_0 : ByteArray) (y5_1 : Bool) (n : Nat) (hb : n ≤ big) (J : Nat → Nat → LL → Prop)
    (step : ∀ (k : Nat) (y5_2n : Nat) (y34 : LL), k < n → J k y5_2n y34 → ∀ K : Nat → LL → Prop, (∀ (y5_2n' : Nat) (y34' : LL), J (k + 1) y5_2n' y34' → K y5_2n' y34') → (0 ≤ (k : Int) ∧ (k : Int) < x18.length ∧ (∃ r1 : D, cl f_r01_Apply [.v (.sl t_Bind) (V.l x0), .agg [.v .str (((x18.getD k []).drop 0).headD V.none), .v .bool ((((x18.getD k []).drop 0).tail).headD V.none), .v (.sl t_Term) (((((x18.getD k []).drop 0).tail).tail).headD V.none)]] [] (fun r H' => r = (.agg [.v .str ((r1.cells.headD .undef).V), .v .bool ((r1.cells.tail.headD .undef).V), .v (.sl t_Term) ((r1.cells.tail.tail.headD .undef).V)]) ∧ H' = []) ∧ y34.length = y5_2n ∧ y5_2n + ([[(r1.cells.headD .undef).V, (r1.cells.tail.headD .undef).V, (r1.cells.tail.tail.headD .undef).V]]).length ≤ lim ∧ K (y5_2n + ([[(r1.cells.headD .undef).V, (r1.cells.tail.headD .undef).V, (r1.cells.tail.tail.headD .undef).V]]).length) (y34 ++ ([[(r1.cells.headD .undef).V, (r1.cells.tail.headD .undef).V, (r1.cells.tail.tail.headD .undef).V]])))))
    (last : ∀ (y5_2n : Nat) (y34 : LL), J n y5_2n y34 → ((True ∧ True ∧ (y5_2n = y34.length) ∧ True) ∧ Q (.agg [.v .str (V.s y5_0), .v .bool (V.b y5_1), .v (.sl t_Term) (V.l y34)]) []))
    (k : Nat) (y5_2n : Nat) (y34 : LL) (le0 : k ≤ n) (hj : J k y5_2n y34) : ∃ m0, lp_r01_Apply_0 Q m0 x0 x18 (n : Int) ((k : Int)) y4_0 y4_1 y5_0 y5_1 y5_2n y34 := by
  exact rangeG2 n hb J (fun m0 i y5_2n y34 => lp_r01_Apply_0 Q m0 x0 x18 (n : Int) i y4_0 y4_1 y5_0 y5_1 y5_2n y34) (fun m0 i y5_2n y34 => lp_r01_Apply_0_s Q m0 x0 x18 (n : Int) i y4_0 y4_1 y5_0 y5_1 y5_2n y34) (fun k y5_2n y34 hl_ hj_ m_ ih_ => step k y5_2n y34 hl_ hj_ _ ih_) last k y5_2n y34 le0 hj
def vc_r01_Apply (a0 : LL) (a1_0 : ByteArray) (a1_1 : Bool) (a1_2 : LL) (Q : QD) : Prop :=
  iff a1_1 (cl f_r01_Image [.v (.sl t_Bind) (V.l a0), .v .str (V.s a1_0)] [] fun r1 H2 => r1 = (.agg [.v .str ((r1.cells.headD .undef).V), .v .bool ((r1.cells.tail.headD .undef).V), .v (.sl t_Term) ((r1.cells.tail.tail.headD .undef).V)]) ∧ H2 = [] ∧ (True ∧ True ∧ True ∧ True) ∧ Q (.agg [.v .str ((r1.cells.headD .undef).V), .v .bool ((r1.cells.tail.headD .undef).V), .v (.sl t_Term) ((r1.cells.tail.tail.headD .undef).V)]) []) ((a1_2.length ≤ big → ∃ m0, lp_r01_Apply_0 Q m0 a0 a1_2 ((a1_2.length : Int)) 0 (ByteArray.mk #[]) false a1_0 false 0 (([] : List (List V)))))
theorem C_r01_Apply (a0 : LL) (a1_0 : ByteArray) (a1_1 : Bool) (a1_2 : LL) (Q : QD) (h : vc_r01_Apply a0 a1_0 a1_1 a1_2 Q) : cl f_r01_Apply [.v (.sl t_Bind) (V.l a0), .agg [.v .str (V.s a1_0), .v .bool (V.b a1_1), .v (.sl t_Term) (V.l a1_2)]] [] Q :=
  acalls2 (E := env_r01_Apply) (envOk _ _ _ _ _) 1 Tryz.func54 (by kernel_rfl) h
def env_r01_Put : Env := envA [] [(4, 14, [], [])] [12] [] []
def vc_r01_Put (a0_0 : ByteArray) (a0_1 : Bool) (a0_2 a1 : LL) (a2_0 : ByteArray) (a2_1 : Bool) (a2_2 : LL) (Q : QD) : Prop :=
  (a1.length ≤ big → iff (((a1.length : Int)) == (0 : Int)) ((True ∧ True ∧ True ∧ True) ∧ Q (.agg [.v .str (V.s a2_0), .v .bool (V.b a2_1), .v (.sl t_Term) (V.l a2_2)]) []) ((([] : List (List V))).length = 0 ∧ 0 + a0_2.length ≤ lim ∧ 0 ≤ (0 : Int) ∧ (0 : Int) < a1.length ∧ 0 ≤ (0 : Int) ∧ (0 : Int) < a1.length ∧ ((([] : List (List V))) ++ a0_2).length = 0 + a0_2.length ∧ 0 ≤ ((((a1.getD ((0 : Int)).toNat []).drop 0).headD V.none).int) ∧ ((((a1.getD ((0 : Int)).toNat []).drop 0).headD V.none).int) < (0 + a0_2.length) ∧ ((([] : List (List V))) ++ a0_2).length = 0 + a0_2.length ∧ (((((a1.getD ((0 : Int)).toNat []).drop 0).headD V.none).int)).toNat < 0 + a0_2.length ∧ 0 ≤ (1 : Int) ∧ (1 : Int) ≤ (a1.length : Int) ∧ (a1.length : Int) ≤ a1.length ∧ (∃ r1 : D, cl f_r01_Put [.agg [.v .str (((((([] : List (List V))) ++ a0_2).getD ((((((a1.getD ((0 : Int)).toNat []).drop 0).headD V.none).int)).toNat) []).drop 0).headD V.none), .v .bool ((((((([] : List (List V))) ++ a0_2).getD ((((((a1.getD ((0 : Int)).toNat []).drop 0).headD V.none).int)).toNat) []).drop 0).tail).headD V.none), .v (.sl t_Term) (((((((([] : List (List V))) ++ a0_2).getD ((((((a1.getD ((0 : Int)).toNat []).drop 0).headD V.none).int)).toNat) []).drop 0).tail).tail).headD V.none)], .v (.sl t_int) (V.l ((a1.take ((a1.length : Int)).toNat).drop (1 : Int).toNat)), .agg [.v .str (V.s a2_0), .v .bool (V.b a2_1), .v (.sl t_Term) (V.l a2_2)]] [] (fun r H' => r = (.agg [.v .str ((r1.cells.headD .undef).V), .v .bool ((r1.cells.tail.headD .undef).V), .v (.sl t_Term) ((r1.cells.tail.tail.headD .undef).V)]) ∧ H' = []) ∧ ((([] : List (List V))) ++ a0_2).length = 0 + a0_2.length ∧ 0 ≤ ((((a1.getD ((0 : Int)).toNat []).drop 0).headD V.none).int) ∧ ((((a1.getD ((0 : Int)).toNat []).drop 0).headD V.none).int) < (0 + a0_2.length) ∧ ((([] : List (List V))) ++ a0_2).length = 0 + a0_2.length ∧ (((((a1.getD ((0 : Int)).toNat []).drop 0).headD V.none).int)).toNat < 0 + a0_2.length ∧ (True ∧ True ∧ (0 + a0_2.length = (((([] : List (List V))) ++ a0_2).set ((((((a1.getD ((0 : Int)).toNat []).drop 0).headD V.none).int)).toNat) (setV (((([] : List (List V))) ++ a0_2).getD ((((((a1.getD ((0 : Int)).toNat []).drop 0).headD V.none).int)).toNat) []) 0 [(r1.cells.headD .undef).V, (r1.cells.tail.headD .undef).V, (r1.cells.tail.tail.headD .undef).V])).length) ∧ True) ∧ Q (.agg [.v .str (V.s a0_0), .v .bool (V.b false), .v (.sl t_Term) (V.l (((([] : List (List V))) ++ a0_2).set ((((((a1.getD ((0 : Int)).toNat []).drop 0).headD V.none).int)).toNat) (setV (((([] : List (List V))) ++ a0_2).getD ((((((a1.getD ((0 : Int)).toNat []).drop 0).headD V.none).int)).toNat) []) 0 [(r1.cells.headD .undef).V, (r1.cells.tail.headD .undef).V, (r1.cells.tail.tail.headD .undef).V])))]) [])))
theorem C_r01_Put (a0_0 : ByteArray) (a0_1 : Bool) (a0_2 a1 : LL) (a2_0 : ByteArray) (a2_1 : Bool) (a2_2 : LL) (Q : QD) (h : vc_r01_Put a0_0 a0_1 a0_2 a1 a2_0 a2_1 a2_2 Q) : cl f_r01_Put [.agg [.v .str (V.s a0_0), .v .bool (V.b a0_1), .v (.sl t_Term) (V.l a0_2)], .v (.sl t_int) (V.l a1), .agg [.v .str (V.s a2_0), .v .bool (V.b a2_1), .v (.sl t_Term) (V.l a2_2)]] [] Q :=
  acalls2 (E := env_r01_Put) (envOk _ _ _ _ _) 0 Tryz.func53 (by kernel_rfl) h
def env_path_Check_1 : Env := envA [] [] [] [] []
def vc_path_Check_1 (a0_0 : ByteArray) (a0_1 a0_2 : Int) (Q : QD) : Prop :=
  True ∧ Q (.v .str (V.s a0_0)) []
theorem C_path_Check_1 (a0_0 : ByteArray) (a0_1 a0_2 : Int) (Q : QD) (h : vc_path_Check_1 a0_0 a0_1 a0_2 Q) : cl f_path_Check_1 [.agg [.v .str (V.s a0_0), .v (.int .i64) (V.i a0_1), .v (.int .i64) (V.i a0_2)]] [] Q :=
  acalls2 (E := env_path_Check_1) (envOk _ _ _ _ _) 0 Tryz.func28 (by kernel_rfl) h
def env_term_IsName : Env := envA [(3000005, (.undef 1) :: ua 4 7 ([.dead 10]))] [] [] [] [5]
@[irreducible] def jp_term_IsName_0 (Q : QD) (x0 : V) : Prop :=
  joinM (evCode env_term_IsName (fnAt [1, 1, 1] Tryz.f55)) ⟨(.v .str (x0)) :: .undef :: sk 2 (un 7 (sk 8 ([]))), dd 19 ([])⟩ [] (endK env_term_IsName Tryz.f55 Q)
def je_term_IsName_0 (Q : QD) (x0 : V) : Prop :=
  iff (!(x0.str.toList == (ByteArray.mk #[]).toList)) (cl f_slices_ContainsFunc_byte [.v (.sl t_uint8) (V.l (bytesV x0.str)), .fn f_term_IsName_1 []] [] fun r1 H2 => r1 = (.v .bool (r1.V)) ∧ H2 = [] ∧ True ∧ Q (.v .bool (V.b (!r1.V.bool))) []) (True ∧ Q (.v .bool (V.b false)) [])
theorem jp_term_IsName_0_s (Q : QD) (x0 : V) : jp_term_IsName_0 Q x0 = je_term_IsName_0 Q x0 := by kernel_rfl
def vc_term_IsName (a0 : ByteArray) (a1 : Bool) (Q : QD) : Prop :=
  (a0.size ≤ big → iff (decide (((a0.size : Int)) > (24 : Int))) (True ∧ Q (.v .bool (V.b false)) []) (iff a1 (cl f_strings_TrimSuffix [.v .str (V.s a0), .v .str (V.s (ByteArray.mk #[35]))] [] fun r1 H2 => r1 = (.v .str (r1.V)) ∧ H2 = [] ∧ jp_term_IsName_0 Q r1.V) (jp_term_IsName_0 Q (V.s a0))))
theorem C_term_IsName (a0 : ByteArray) (a1 : Bool) (Q : QD) (h : vc_term_IsName a0 a1 Q) : cl f_term_IsName [.v .str (V.s a0), .v .bool (V.b a1)] [] Q :=
  acalls2 (E := env_term_IsName) (envOk _ _ _ _ _) 0 Tryz.func55 (by kernel_rfl) h
def env_slices_IndexFunc_Rank_pathCheck2 : Env := envA [(2, ua 4 3 (ua 9 10 ([.dead 16])))] [] [] [] []
def kl_slices_IndexFunc_Rank_pathCheck2_0 (Q : QD) : Post := blockK 0 (seqJ env_slices_IndexFunc_Rank_pathCheck2 (fnAt [1, 1] Tryz.f56) (endK env_slices_IndexFunc_Rank_pathCheck2 Tryz.f56 Q))
@[irreducible] def lp_slices_IndexFunc_Rank_pathCheck2_0 (Q : QD) (m0 : Nat) (x0 : LL) (x7 x8 : Int) : Prop :=
  iter (adj (env_slices_IndexFunc_Rank_pathCheck2.adj 2)) (evCode env_slices_IndexFunc_Rank_pathCheck2 (fnAt [1, 0, 1, 0, 0] Tryz.f56)) (kl_slices_IndexFunc_Rank_pathCheck2_0 Q) m0 ⟨(.v (.sl t_Rank) (V.l x0)) :: (.fn f_path_Check_2 []) :: sk 2 (un 3 ((.v (.int .i64) (V.i x7)) :: (.v (.int .i64) (V.i x8)) :: un 10 ([]))), dd 19 ([])⟩ []
def st_slices_IndexFunc_Rank_pathCheck2_0 (Q : QD) (m0 : Nat) (x0 : LL) (x7 x8 : Int) : Prop :=
  iff (decide (x8 < x7)) (0 ≤ x8 ∧ x8 < x0.length ∧ cl f_path_Check_2 [.agg [.v .str (((x0.getD x8.toNat []).drop 0).headD V.none), .v (.int .i64) ((((x0.getD x8.toNat []).drop 0).tail).headD V.none), .v (.int .i64) (((((x0.getD x8.toNat []).drop 0).tail).tail).headD V.none)]] [] fun r1 H2 => r1 = (.v .bool (r1.V)) ∧ H2 = [] ∧ iff r1.V.bool (True ∧ Q (.v (.int .i64) (V.i x8)) []) (lp_slices_IndexFunc_Rank_pathCheck2_0 Q m0 x0 x7 (IntKind.i64.wrap (x8 + (1 : Int))))) (True ∧ Q (.v (.int .i64) (V.i (-1))) [])
theorem lp_slices_IndexFunc_Rank_pathCheck2_0_s (Q : QD) (m0 : Nat) (x0 : LL) (x7 x8 : Int) : lp_slices_IndexFunc_Rank_pathCheck2_0 Q (m0 + 1) x0 x7 x8 = st_slices_IndexFunc_Rank_pathCheck2_0 Q m0 x0 x7 x8 := by kernel_rfl
theorem range_slices_IndexFunc_Rank_pathCheck2_0 (Q : QD) (x0 : LL) (n : Nat) (hb : n ≤ big) (J : Nat → Prop)
    (step : ∀ (k : Nat), k < n → J k → ∀ K : Prop, (J (k + 1) → K) → (0 ≤ (k : Int) ∧ (k : Int) < x0.length ∧ cl f_path_Check_2 [.agg [.v .str (((x0.getD k []).drop 0).headD V.none), .v (.int .i64) ((((x0.getD k []).drop 0).tail).headD V.none), .v (.int .i64) (((((x0.getD k []).drop 0).tail).tail).headD V.none)]] [] fun r1 H2 => r1 = (.v .bool (r1.V)) ∧ H2 = [] ∧ iff r1.V.bool (True ∧ Q (.v (.int .i64) (V.i (k : Int))) []) (K)))
    (last : J n → (True ∧ Q (.v (.int .i64) (V.i (-1))) []))
    (k : Nat) (le0 : k ≤ n) (hj : J k) : ∃ m0, lp_slices_IndexFunc_Rank_pathCheck2_0 Q m0 x0 (n : Int) ((k : Int)) := by
  exact rangeG0 n hb J (fun m0 i => lp_slices_IndexFunc_Rank_pathCheck2_0 Q m0 x0 (n : Int) i) (fun m0 i => lp_slices_IndexFunc_Rank_pathCheck2_0_s Q m0 x0 (n : Int) i) (fun k hl_ hj_ m_ ih_ => step k hl_ hj_ _ ih_) last k le0 hj
def vc_slices_IndexFunc_Rank_pathCheck2 (a0 : LL) (Q : QD) : Prop :=
  (a0.length ≤ big → ∃ m0, lp_slices_IndexFunc_Rank_pathCheck2_0 Q m0 a0 ((a0.length : Int)) 0)
theorem C_slices_IndexFunc_Rank_pathCheck2 (a0 : LL) (Q : QD) (h : vc_slices_IndexFunc_Rank_pathCheck2 a0 Q) : cl f_slices_IndexFunc_Rank [.v (.sl t_Rank) (V.l a0), .fn f_path_Check_2 []] [] Q :=
  acalls2 (E := env_slices_IndexFunc_Rank_pathCheck2) (envOk _ _ _ _ _) 0 Tryz.func56 (by kernel_rfl) h
def env_term_Walk : Env := envA [] [] [1] [] []
def vc_term_Walk (a0_0 : ByteArray) (a0_1 : Bool) (a0_2 : LL) (Q : QD) : Prop :=
  True ∧ Q (.fn f_term_Walk_1 [.elt t_Term ([V.s a0_0, V.b a0_1, V.l a0_2]) 0]) []
theorem C_term_Walk (a0_0 : ByteArray) (a0_1 : Bool) (a0_2 : LL) (Q : QD) (h : vc_term_Walk a0_0 a0_1 a0_2 Q) : cl f_term_Walk [.agg [.v .str (V.s a0_0), .v .bool (V.b a0_1), .v (.sl t_Term) (V.l a0_2)]] [] Q :=
  acalls2 (E := env_term_Walk) (envOk _ _ _ _ _) 0 Tryz.func57 (by kernel_rfl) h
def env_slices_IndexFunc_Rule_termextra : Env := envA [(2, ua 4 3 (ua 9 10 ([.dead 16])))] [] [] [] []
def kl_slices_IndexFunc_Rule_termextra_0 (Q : QD) : Post := blockK 0 (seqJ env_slices_IndexFunc_Rule_termextra (fnAt [1, 1] Tryz.f59) (endK env_slices_IndexFunc_Rule_termextra Tryz.f59 Q))
@[irreducible] def lp_slices_IndexFunc_Rule_termextra_0 (Q : QD) (m0 : Nat) (x0 : LL) (x7 x8 : Int) : Prop :=
  iter (adj (env_slices_IndexFunc_Rule_termextra.adj 2)) (evCode env_slices_IndexFunc_Rule_termextra (fnAt [1, 0, 1, 0, 0] Tryz.f59)) (kl_slices_IndexFunc_Rule_termextra_0 Q) m0 ⟨(.v (.sl t_Rule) (V.l x0)) :: (.fn f_term_extra []) :: sk 2 (un 3 ((.v (.int .i64) (V.i x7)) :: (.v (.int .i64) (V.i x8)) :: un 10 ([]))), dd 19 ([])⟩ []
def st_slices_IndexFunc_Rule_termextra_0 (Q : QD) (m0 : Nat) (x0 : LL) (x7 x8 : Int) : Prop :=
  iff (decide (x8 < x7)) (0 ≤ x8 ∧ x8 < x0.length ∧ cl f_term_extra [.agg [.v .str (((x0.getD x8.toNat []).drop 0).headD V.none), .v .bool ((((x0.getD x8.toNat []).drop 0).tail).headD V.none), .v (.sl t_Term) (((((x0.getD x8.toNat []).drop 0).tail).tail).headD V.none), .v .str ((((((x0.getD x8.toNat []).drop 0).tail).tail).tail).headD V.none), .v .bool (((((((x0.getD x8.toNat []).drop 0).tail).tail).tail).tail).headD V.none), .v (.sl t_Term) ((((((((x0.getD x8.toNat []).drop 0).tail).tail).tail).tail).tail).headD V.none)]] [] fun r1 H2 => r1 = (.v .bool (r1.V)) ∧ H2 = [] ∧ iff r1.V.bool (True ∧ Q (.v (.int .i64) (V.i x8)) []) (lp_slices_IndexFunc_Rule_termextra_0 Q m0 x0 x7 (IntKind.i64.wrap (x8 + (1 : Int))))) (True ∧ Q (.v (.int .i64) (V.i (-1))) [])
theorem lp_slices_IndexFunc_Rule_termextra_0_s (Q : QD) (m0 : Nat) (x0 : LL) (x7 x8 : Int) : lp_slices_IndexFunc_Rule_termextra_0 Q (m0 + 1) x0 x7 x8 = st_slices_IndexFunc_Rule_termextra_0 Q m0 x0 x7 x8 := by kernel_rfl
theorem range_slices_IndexFunc_Rule_termextra_0 (Q : QD) (x0 : LL) (n : Nat) (hb : n ≤ big) (J : Nat → Prop)
    (step : ∀ (k : Nat), k < n → J k → ∀ K : Prop, (J (k + 1) → K) → (0 ≤ (k : Int) ∧ (k : Int) < x0.length ∧ cl f_term_extra [.agg [.v .str (((x0.getD k []).drop 0).headD V.none), .v .bool ((((x0.getD k []).drop 0).tail).headD V.none), .v (.sl t_Term) (((((x0.getD k []).drop 0).tail).tail).headD V.none), .v .str ((((((x0.getD k []).drop 0).tail).tail).tail).headD V.none), .v .bool (((((((x0.getD k []).drop 0).tail).tail).tail).tail).headD V.none), .v (.sl t_Term) ((((((((x0.getD k []).drop 0).tail).tail).tail).tail).tail).headD V.none)]] [] fun r1 H2 => r1 = (.v .bool (r1.V)) ∧ H2 = [] ∧ iff r1.V.bool (True ∧ Q (.v (.int .i64) (V.i (k : Int))) []) (K)))
    (last : J n → (True ∧ Q (.v (.int .i64) (V.i (-1))) []))
    (k : Nat) (le0 : k ≤ n) (hj : J k) : ∃ m0, lp_slices_IndexFunc_Rule_termextra_0 Q m0 x0 (n : Int) ((k : Int)) := by
  exact rangeG0 n hb J (fun m0 i => lp_slices_IndexFunc_Rule_termextra_0 Q m0 x0 (n : Int) i) (fun m0 i => lp_slices_IndexFunc_Rule_termextra_0_s Q m0 x0 (n : Int) i) (fun k hl_ hj_ m_ ih_ => step k hl_ hj_ _ ih_) last k le0 hj
def vc_slices_IndexFunc_Rule_termextra (a0 : LL) (Q : QD) : Prop :=
  (a0.length ≤ big → ∃ m0, lp_slices_IndexFunc_Rule_termextra_0 Q m0 a0 ((a0.length : Int)) 0)
theorem C_slices_IndexFunc_Rule_termextra (a0 : LL) (Q : QD) (h : vc_slices_IndexFunc_Rule_termextra a0 Q) : cl f_slices_IndexFunc_Rule [.v (.sl t_Rule) (V.l a0), .fn f_term_extra []] [] Q :=
  acalls2 (E := env_slices_IndexFunc_Rule_termextra) (envOk _ _ _ _ _) 0 Tryz.func59 (by kernel_rfl) h
def env_strings_HasSuffix : Env := envA [] [] [] [] []
def vc_strings_HasSuffix (a0 a1 : ByteArray) (Q : QD) : Prop :=
  cl f_stringslite_HasSuffix [.v .str (V.s a0), .v .str (V.s a1)] [] fun r1 H2 => r1 = (.v .bool (r1.V)) ∧ H2 = [] ∧ True ∧ Q (.v .bool (r1.V)) []
theorem C_strings_HasSuffix (a0 a1 : ByteArray) (Q : QD) (h : vc_strings_HasSuffix a0 a1 Q) : cl f_strings_HasSuffix [.v .str (V.s a0), .v .str (V.s a1)] [] Q :=
  acalls2 (E := env_strings_HasSuffix) (envOk _ _ _ _ _) 0 Tryz.func58 (by kernel_rfl) h
def env_path_comparer_compare : Env := envA [(15, ua 0 3 (ua 4 3 (ua 9 75 (ua 86 28 ([.dead 4, .dead 99, .dead 112]))))), (3000006, ua 0 3 (ua 5 2 (ua 13 26 ([.dead 5])))), (3000008, ua 0 3 (ua 5 2 (ua 13 44 ([.dead 51, .dead 54])))), (3000010, ua 0 3 (ua 5 2 (ua 9 2 (ua 13 63 ([.dead 65, .dead 72])))))] [(1, 17, [], []), (6, 7, [], []), (8, 17, [], []), (17, 11, [], []), (18, 11, [], [])] [] [] [6, 8, 10]
def kl_path_comparer_compare_0 (Q : QD) : Post := blockK 0 (seqJ env_path_comparer_compare (fnAt [1, 1, 1, 1, 1, 1, 1, 1, 1, 1] Tryz.f64) (endK env_path_comparer_compare Tryz.f64 Q))
@[irreducible] def lp_path_comparer_compare_0 (Q : QD) (m0 : Nat) (x84 x85 : Int) (y7_0 y7_1 y7_2 y7_3 y8_0 y8_1 y8_2 y8_3 h0_0 h0_1 : V) (h0_2n h0_3n h0_4n : Nat) (h1 h2 h3 : LL) : Prop :=
  iter (adj (env_path_comparer_compare.adj 15)) (evCode env_path_comparer_compare (fnAt [1, 1, 1, 1, 1, 1, 1, 1, 1, 0, 1, 0, 0] Tryz.f64)) (kl_path_comparer_compare_0 Q) m0 ⟨un 3 ((.ptr (.loc 3) 0) :: un 3 ((.ptr (.loc 7) 0) :: (.ptr (.loc 8) 0) :: un 75 ((.v (.int .i64) (V.i x84)) :: (.v (.int .i64) (V.i x85)) :: un 28 ([])))), dd 3 ((.cells [.ptr (.own 0) 0]) :: dd 3 ((.cells [.v .str (y7_0), .v .bool (y7_1), .v (.sl t_Term) (y7_2), .v (.sl t_int) (y7_3)]) :: (.cells [.v .str (y8_0), .v .bool (y8_1), .v (.sl t_Term) (y8_2), .v (.sl t_int) (y8_3)]) :: dd 105 ([])))⟩ [.cells [.v (.sl t_Rank) (h0_0), .v (.sl t_path_node) (h0_1), .osl (.own 1) h0_2n, .osl (.own 2) h0_3n, .osl (.own 3) h0_4n], .row t_path_node h1, .row t_uint8 h2, .row t_uint8 h3]
@[irreducible] def jp_path_comparer_compare_2 (Q : QD) (x11 : Bool) (y4_0 : Int) (y7_0 y7_1 y7_2 y7_3 y8_0 y8_1 y8_2 y8_3 h0_0 h0_1 : V) (h0_2n h0_3n h0_4n : Nat) (h1 h2 h3 : LL) : Prop :=
  joinM (evCode env_path_comparer_compare (fnAt [1, 1, 1, 1, 1, 1, 1] Tryz.f64)) ⟨un 3 ((.ptr (.loc 3) 0) :: (.ptr (.loc 4) 0) :: un 2 ((.ptr (.loc 7) 0) :: (.ptr (.loc 8) 0) :: un 2 ((.v .bool (V.b x11)) :: .skip :: un 63 (sk 38 ([]))))), dd 3 ((.cells [.ptr (.own 0) 0]) :: (.cells [.v (.int .i64) (V.i y4_0)]) :: dd 2 ((.cells [.v .str (y7_0), .v .bool (y7_1), .v (.sl t_Term) (y7_2), .v (.sl t_int) (y7_3)]) :: (.cells [.v .str (y8_0), .v .bool (y8_1), .v (.sl t_Term) (y8_2), .v (.sl t_int) (y8_3)]) :: dd 105 ([])))⟩ [.cells [.v (.sl t_Rank) (h0_0), .v (.sl t_path_node) (h0_1), .osl (.own 1) h0_2n, .osl (.own 2) h0_3n, .osl (.own 3) h0_4n], .row t_path_node h1, .row t_uint8 h2, .row t_uint8 h3] (endK env_path_comparer_compare Tryz.f64 Q)
@[irreducible] def jp_path_comparer_compare_1 (Q : QD) (x9 x10 : V) (x11 : Bool) (y4_0 : Int) (y7_0 y7_1 y7_2 y7_3 y8_0 y8_1 y8_2 y8_3 h0_0 h0_1 : V) (h0_2n h0_3n h0_4n : Nat) (h1 h2 h3 : LL) : Prop :=
  joinM (evCode env_path_comparer_compare (fnAt [1, 1, 1, 1, 1, 1] Tryz.f64)) ⟨un 3 ((.ptr (.loc 3) 0) :: (.ptr (.loc 4) 0) :: un 2 ((.ptr (.loc 7) 0) :: (.ptr (.loc 8) 0) :: (.v .str (x9)) :: (.v .str (x10)) :: (.v .bool (V.b x11)) :: .skip :: un 44 (sk 57 ([])))), dd 3 ((.cells [.ptr (.own 0) 0]) :: (.cells [.v (.int .i64) (V.i y4_0)]) :: dd 2 ((.cells [.v .str (y7_0), .v .bool (y7_1), .v (.sl t_Term) (y7_2), .v (.sl t_int) (y7_3)]) :: (.cells [.v .str (y8_0), .v .bool (y8_1), .v (.sl t_Term) (y8_2), .v (.sl t_int) (y8_3)]) :: dd 105 ([])))⟩ [.cells [.v (.sl t_Rank) (h0_0), .v (.sl t_path_node) (h0_1), .osl (.own 1) h0_2n, .osl (.own 2) h0_3n, .osl (.own 3) h0_4n], .row t_path_node h1, .row t_uint8 h2, .row t_uint8 h3] (endK env_path_comparer_compare Tryz.f64 Q)
@[irreducible] def jp_path_comparer_compare_0 (Q : QD) (y4_0 : Int) (y7_0 y7_1 y7_2 y7_3 y8_0 y8_1 y8_2 y8_3 h0_0 h0_1 : V) (h0_2n h0_3n h0_4n : Nat) (h1 h2 h3 : LL) : Prop :=
  joinM (evCode env_path_comparer_compare (fnAt [1, 1, 1, 1] Tryz.f64)) ⟨un 3 ((.ptr (.loc 3) 0) :: (.ptr (.loc 4) 0) :: un 2 ((.ptr (.loc 7) 0) :: (.ptr (.loc 8) 0) :: sk 4 (un 26 (sk 75 ([]))))), dd 3 ((.cells [.ptr (.own 0) 0]) :: (.cells [.v (.int .i64) (V.i y4_0)]) :: dd 2 ((.cells [.v .str (y7_0), .v .bool (y7_1), .v (.sl t_Term) (y7_2), .v (.sl t_int) (y7_3)]) :: (.cells [.v .str (y8_0), .v .bool (y8_1), .v (.sl t_Term) (y8_2), .v (.sl t_int) (y8_3)]) :: dd 105 ([])))⟩ [.cells [.v (.sl t_Rank) (h0_0), .v (.sl t_path_node) (h0_1), .osl (.own 1) h0_2n, .osl (.own 2) h0_3n, .osl (.own 3) h0_4n], .row t_path_node h1, .row t_uint8 h2, .row t_uint8 h3] (endK env_path_comparer_compare Tryz.f64 Q)
def st_path_comparer_compare_0 (Q : QD) (m0 : Nat) (x84 x85 : Int) (y7_0 y7_1 y7_2 y7_3 y8_0 y8_1 y8_2 y8_3 h0_0 h0_1 : V) (h0_2n h0_3n h0_4n : Nat) (h1 h2 h3 : LL) : Prop :=
  iff (decide (x85 < x84)) (0 ≤ x85 ∧ x85 < y7_3.list.length ∧ 0 ≤ x85 ∧ x85 < y8_3.list.length ∧ cl f_path_comparer_equal [.ptr (.own 0) 0, .v (.int .i64) (((y7_3.list.getD x85.toNat []).drop 0).headD V.none), .v (.int .i64) (((y8_3.list.getD x85.toNat []).drop 0).headD V.none)] [.cells [.v (.sl t_Rank) (h0_0), .v (.sl t_path_node) (h0_1), .osl (.own 1) h0_2n, .osl (.own 2) h0_3n, .osl (.own 3) h0_4n], .row t_path_node h1, .row t_uint8 h2, .row t_uint8 h3] fun r1 H2 => r1 = (.v .bool (r1.V)) ∧ H2 = [.cells [.v (.sl t_Rank) ((((H2.headD .dead).cs).headD .undef).V), .v (.sl t_path_node) (((((H2.headD .dead).cs).tail).headD .undef).V), .osl (.own 1) ((((((H2.headD .dead).cs).tail).tail).headD .undef).len), .osl (.own 2) (((((((H2.headD .dead).cs).tail).tail).tail).headD .undef).len), .osl (.own 3) ((((((((H2.headD .dead).cs).tail).tail).tail).tail).headD .undef).len)], .row t_path_node ((H2.tail.headD .dead).xs), .row t_uint8 ((H2.tail.tail.headD .dead).xs), .row t_uint8 ((H2.tail.tail.tail.headD .dead).xs)] ∧ iff (!r1.V.bool) (0 ≤ x85 ∧ x85 < y7_3.list.length ∧ 0 ≤ x85 ∧ x85 < y8_3.list.length ∧ cl f_path_comparer_greater [.ptr (.own 0) 0, .v (.int .i64) (((y7_3.list.getD x85.toNat []).drop 0).headD V.none), .v (.int .i64) (((y8_3.list.getD x85.toNat []).drop 0).headD V.none)] [.cells [.v (.sl t_Rank) ((((H2.headD .dead).cs).headD .undef).V), .v (.sl t_path_node) (((((H2.headD .dead).cs).tail).headD .undef).V), .osl (.own 1) ((((((H2.headD .dead).cs).tail).tail).headD .undef).len), .osl (.own 2) (((((((H2.headD .dead).cs).tail).tail).tail).headD .undef).len), .osl (.own 3) ((((((((H2.headD .dead).cs).tail).tail).tail).tail).headD .undef).len)], .row t_path_node ((H2.tail.headD .dead).xs), .row t_uint8 ((H2.tail.tail.headD .dead).xs), .row t_uint8 ((H2.tail.tail.tail.headD .dead).xs)] fun r3 H4 => r3 = (.v .bool (r3.V)) ∧ H4 = [.cells [.v (.sl t_Rank) ((((H4.headD .dead).cs).headD .undef).V), .v (.sl t_path_node) (((((H4.headD .dead).cs).tail).headD .undef).V), .osl (.own 1) ((((((H4.headD .dead).cs).tail).tail).headD .undef).len), .osl (.own 2) (((((((H4.headD .dead).cs).tail).tail).tail).headD .undef).len), .osl (.own 3) ((((((((H4.headD .dead).cs).tail).tail).tail).tail).headD .undef).len)], .row t_path_node ((H4.tail.headD .dead).xs), .row t_uint8 ((H4.tail.tail.headD .dead).xs), .row t_uint8 ((H4.tail.tail.tail.headD .dead).xs)] ∧ True ∧ Q (.v .bool (r3.V)) [.cells [.v (.sl t_Rank) ((((H4.headD .dead).cs).headD .undef).V), .v (.sl t_path_node) (((((H4.headD .dead).cs).tail).headD .undef).V), .osl (.own 1) ((((((H4.headD .dead).cs).tail).tail).headD .undef).len), .osl (.own 2) (((((((H4.headD .dead).cs).tail).tail).tail).headD .undef).len), .osl (.own 3) ((((((((H4.headD .dead).cs).tail).tail).tail).tail).headD .undef).len)], .row t_path_node ((H4.tail.headD .dead).xs), .row t_uint8 ((H4.tail.tail.headD .dead).xs), .row t_uint8 ((H4.tail.tail.tail.headD .dead).xs)]) (lp_path_comparer_compare_0 Q m0 x84 (IntKind.i64.wrap (x85 + (1 : Int))) y7_0 y7_1 y7_2 y7_3 y8_0 y8_1 y8_2 y8_3 ((((H2.headD .dead).cs).headD .undef).V) (((((H2.headD .dead).cs).tail).headD .undef).V) ((((((H2.headD .dead).cs).tail).tail).headD .undef).len) (((((((H2.headD .dead).cs).tail).tail).tail).headD .undef).len) ((((((((H2.headD .dead).cs).tail).tail).tail).tail).headD .undef).len) ((H2.tail.headD .dead).xs) ((H2.tail.tail.headD .dead).xs) ((H2.tail.tail.tail.headD .dead).xs))) (True ∧ Q (.v .bool (V.b false)) [.cells [.v (.sl t_Rank) (h0_0), .v (.sl t_path_node) (h0_1), .osl (.own 1) h0_2n, .osl (.own 2) h0_3n, .osl (.own 3) h0_4n], .row t_path_node h1, .row t_uint8 h2, .row t_uint8 h3])
theorem lp_path_comparer_compare_0_s (Q : QD) (m0 : Nat) (x84 x85 : Int) (y7_0 y7_1 y7_2 y7_3 y8_0 y8_1 y8_2 y8_3 h0_0 h0_1 : V) (h0_2n h0_3n h0_4n : Nat) (h1 h2 h3 : LL) : lp_path_comparer_compare_0 Q (m0 + 1) x84 x85 y7_0 y7_1 y7_2 y7_3 y8_0 y8_1 y8_2 y8_3 h0_0 h0_1 h0_2n h0_3n h0_4n h1 h2 h3 = st_path_comparer_compare_0 Q m0 x84 x85 y7_0 y7_1 y7_2 y7_3 y8_0 y8_1 y8_2 y8_3 h0_0 h0_1 h0_2n h0_3n h0_4n h1 h2 h3 := by kernel_rfl
theorem range_path_comparer_compare_0 (Q : QD) (y7_0 y7_1 y7_2 y7_3 y8_0 y8_1 y8_2 y8_3 : V) (n : Nat) (hb : n ≤ big) (J : Nat → V → V → Nat → Nat → Nat → LL → LL → LL → Prop)
    (step : ∀ (k : Nat) (h0_0 h0_1 : V) (h0_2n h0_3n h0_4n : Nat) (h1 h2 h3 : LL), k < n → J k h0_0 h0_1 h0_2n h0_3n h0_4n h1 h2 h3 → ∀ K : V → V → Nat → Nat → Nat → LL → LL → LL → Prop, (∀ (h0_0' h0_1' : V) (h0_2n' h0_3n' h0_4n' : Nat) (h1' h2' h3' : LL), J (k + 1) h0_0' h0_1' h0_2n' h0_3n' h0_4n' h1' h2' h3' → K h0_0' h0_1' h0_2n' h0_3n' h0_4n' h1' h2' h3') → (0 ≤ (k : Int) ∧ (k : Int) < y7_3.list.length ∧ 0 ≤ (k : Int) ∧ (k : Int) < y8_3.list.length ∧ cl f_path_comparer_equal [.ptr (.own 0) 0, .v (.int .i64) (((y7_3.list.getD k []).drop 0).headD V.none), .v (.int .i64) (((y8_3.list.getD k []).drop 0).headD V.none)] [.cells [.v (.sl t_Rank) (h0_0), .v (.sl t_path_node) (h0_1), .osl (.own 1) h0_2n, .osl (.own 2) h0_3n, .osl (.own 3) h0_4n], .row t_path_node h1, .row t_uint8 h2, .row t_uint8 h3] fun r1 H2 => r1 = (.v .bool (r1.V)) ∧ H2 = [.cells [.v (.sl t_Rank) ((((H2.headD .dead).cs).headD .undef).V), .v (.sl t_path_node) (((((H2.headD .dead).cs).tail).headD .undef).V), .osl (.own 1) ((((((H2.headD .dead).cs).tail).tail).headD .undef).len), .osl (.own 2) (((((((H2.headD .dead).cs).tail).tail).tail).headD .undef).len), .osl (.own 3) ((((((((H2.headD .dead).cs).tail).tail).tail).tail).headD .undef).len)], .row t_path_node ((H2.tail.headD .dead).xs), .row t_uint8 ((H2.tail.tail.headD .dead).xs), .row t_uint8 ((H2.tail.tail.tail.headD .dead).xs)] ∧ iff (!r1.V.bool) (0 ≤ (k : Int) ∧ (k : Int) < y7_3.list.length ∧ 0 ≤ (k : Int) ∧ (k : Int) < y8_3.list.length ∧ cl f_path_comparer_greater [.ptr (.own 0) 0, .v (.int .i64) (((y7_3.list.getD k []).drop 0).headD V.none), .v (.int .i64) (((y8_3.list.getD k []).drop 0).headD V.none)] [.cells [.v (.sl t_Rank) ((((H2.headD .dead).cs).headD .undef).V), .v (.sl t_path_node) (((((H2.headD .dead).cs).tail).headD .undef).V), .osl (.own 1) ((((((H2.headD .dead).cs).tail).tail).headD .undef).len), .osl (.own 2) (((((((H2.headD .dead).cs).tail).tail).tail).headD .undef).len), .osl (.own 3) ((((((((H2.headD .dead).cs).tail).tail).tail).tail).headD .undef).len)], .row t_path_node ((H2.tail.headD .dead).xs), .row t_uint8 ((H2.tail.tail.headD .dead).xs), .row t_uint8 ((H2.tail.tail.tail.headD .dead).xs)] fun r3 H4 => r3 = (.v .bool (r3.V)) ∧ H4 = [.cells [.v (.sl t_Rank) ((((H4.headD .dead).cs).headD .undef).V), .v (.sl t_path_node) (((((H4.headD .dead).cs).tail).headD .undef).V), .osl (.own 1) ((((((H4.headD .dead).cs).tail).tail).headD .undef).len), .osl (.own 2) (((((((H4.headD .dead).cs).tail).tail).tail).headD .undef).len), .osl (.own 3) ((((((((H4.headD .dead).cs).tail).tail).tail).tail).headD .undef).len)], .row t_path_node ((H4.tail.headD .dead).xs), .row t_uint8 ((H4.tail.tail.headD .dead).xs), .row t_uint8 ((H4.tail.tail.tail.headD .dead).xs)] ∧ True ∧ Q (.v .bool (r3.V)) [.cells [.v (.sl t_Rank) ((((H4.headD .dead).cs).headD .undef).V), .v (.sl t_path_node) (((((H4.headD .dead).cs).tail).headD .undef).V), .osl (.own 1) ((((((H4.headD .dead).cs).tail).tail).headD .undef).len), .osl (.own 2) (((((((H4.headD .dead).cs).tail).tail).tail).headD .undef).len), .osl (.own 3) ((((((((H4.headD .dead).cs).tail).tail).tail).tail).headD .undef).len)], .row t_path_node ((H4.tail.headD .dead).xs), .row t_uint8 ((H4.tail.tail.headD .dead).xs), .row t_uint8 ((H4.tail.tail.tail.headD .dead).xs)]) (K ((((H2.headD .dead).cs).headD .undef).V) (((((H2.headD .dead).cs).tail).headD .undef).V) ((((((H2.headD .dead).cs).tail).tail).headD .undef).len) (((((((H2.headD .dead).cs).tail).tail).tail).headD .undef).len) ((((((((H2.headD .dead).cs).tail).tail).tail).tail).headD .undef).len) ((H2.tail.headD .dead).xs) ((H2.tail.tail.headD .dead).xs) ((H2.tail.tail.tail.headD .dead).xs))))
    (last : ∀ (h0_0 h0_1 : V) (h0_2n h0_3n h0_4n : Nat) (h1 h2 h3 : LL), J n h0_0 h0_1 h0_2n h0_3n h0_4n h1 h2 h3 → (True ∧ Q (.v .bool (V.b false)) [.cells [.v (.sl t_Rank) (h0_0), .v (.sl t_path_node) (h0_1), .osl (.own 1) h0_2n, .osl (.own 2) h0_3n, .osl (.own 3) h0_4n], .row t_path_node h1, .row t_uint8 h2, .row t_uint8 h3]))
    (k : Nat) (h0_0 h0_1 : V) (h0_2n h0_3n h0_4n : Nat) (h1 h2 h3 : LL) (le0 : k ≤ n) (hj : J k h0_0 h0_1 h0_2n h0_3n h0_4n h1 h2 h3) : ∃ m0, lp_path_comparer_compare_0 Q m0 (n : Int) ((k : Int)) y7_0 y7_1 y7_2 y7_3 y8_0 y8_1 y8_2 y8_3 h0_0 h0_1 h0_2n h0_3n h0_4n h1 h2 h3 := by
  exact rangeG8 n hb J (fun m0 i h0_0 h0_1 h0_2n h0_3n h0_4n h1 h2 h3 => lp_path_comparer_compare_0 Q m0 (n : Int) i y7_0 y7_1 y7_2 y7_3 y8_0 y8_1 y8_2 y8_3 h0_0 h0_1 h0_2n h0_3n h0_4n h1 h2 h3) (fun m0 i h0_0 h0_1 h0_2n h0_3n h0_4n h1 h2 h3 => lp_path_comparer_compare_0_s Q m0 (n : Int) i y7_0 y7_1 y7_2 y7_3 y8_0 y8_1 y8_2 y8_3 h0_0 h0_1 h0_2n h0_3n h0_4n h1 h2 h3) (fun k h0_0 h0_1 h0_2n h0_3n h0_4n h1 h2 h3 hl_ hj_ m_ ih_ => step k h0_0 h0_1 h0_2n h0_3n h0_4n h1 h2 h3 hl_ hj_ _ ih_) last k h0_0 h0_1 h0_2n h0_3n h0_4n h1 h2 h3 le0 hj
def je_path_comparer_compare_2 (Q : QD) (x11 : Bool) (y4_0 : Int) (y7_0 y7_1 y7_2 y7_3 y8_0 y8_1 y8_2 y8_3 h0_0 h0_1 : V) (h0_2n h0_3n h0_4n : Nat) (h1 h2 h3 : LL) : Prop :=
  cl f_slices_ContainsFunc_int [.v (.sl t_int) (y8_3), .fn f_path_comparer_compare_2 [.ptr (.own 0) 0, .ptr (.own 5) 0]] [.cells [.ptr (.own 1) 0], .cells [.v (.sl t_Rank) (h0_0), .v (.sl t_path_node) (h0_1), .osl (.own 2) h0_2n, .osl (.own 3) h0_3n, .osl (.own 4) h0_4n], .row t_path_node h1, .row t_uint8 h2, .row t_uint8 h3, .cells [.v (.int .i64) (V.i y4_0)]] fun r1 H2 => r1 = (.v .bool (r1.V)) ∧ H2 = [.cells [.ptr (.own 1) 0], .cells [.v (.sl t_Rank) ((((H2.tail.headD .dead).cs).headD .undef).V), .v (.sl t_path_node) (((((H2.tail.headD .dead).cs).tail).headD .undef).V), .osl (.own 2) ((((((H2.tail.headD .dead).cs).tail).tail).headD .undef).len), .osl (.own 3) (((((((H2.tail.headD .dead).cs).tail).tail).tail).headD .undef).len), .osl (.own 4) ((((((((H2.tail.headD .dead).cs).tail).tail).tail).tail).headD .undef).len)], .row t_path_node ((H2.tail.tail.headD .dead).xs), .row t_uint8 ((H2.tail.tail.tail.headD .dead).xs), .row t_uint8 ((H2.tail.tail.tail.tail.headD .dead).xs), .cells [.v (.int .i64) ((((H2.tail.tail.tail.tail.tail.headD .dead).cs).headD .undef).V)]] ∧ iff r1.V.bool (True ∧ Q (.v .bool (V.b false)) [.cells [.v (.sl t_Rank) ((((H2.tail.headD .dead).cs).headD .undef).V), .v (.sl t_path_node) (((((H2.tail.headD .dead).cs).tail).headD .undef).V), .osl (.own 1) ((((((H2.tail.headD .dead).cs).tail).tail).headD .undef).len), .osl (.own 2) (((((((H2.tail.headD .dead).cs).tail).tail).tail).headD .undef).len), .osl (.own 3) ((((((((H2.tail.headD .dead).cs).tail).tail).tail).tail).headD .undef).len)], .row t_path_node ((H2.tail.tail.headD .dead).xs), .row t_uint8 ((H2.tail.tail.tail.headD .dead).xs), .row t_uint8 ((H2.tail.tail.tail.tail.headD .dead).xs)]) (iff (!x11) (True ∧ Q (.v .bool (V.b true)) [.cells [.v (.sl t_Rank) ((((H2.tail.headD .dead).cs).headD .undef).V), .v (.sl t_path_node) (((((H2.tail.headD .dead).cs).tail).headD .undef).V), .osl (.own 1) ((((((H2.tail.headD .dead).cs).tail).tail).headD .undef).len), .osl (.own 2) (((((((H2.tail.headD .dead).cs).tail).tail).tail).headD .undef).len), .osl (.own 3) ((((((((H2.tail.headD .dead).cs).tail).tail).tail).tail).headD .undef).len)], .row t_path_node ((H2.tail.tail.headD .dead).xs), .row t_uint8 ((H2.tail.tail.tail.headD .dead).xs), .row t_uint8 ((H2.tail.tail.tail.tail.headD .dead).xs)]) ((y7_3.list.length ≤ big → ∃ m0, lp_path_comparer_compare_0 Q m0 ((y7_3.list.length : Int)) 0 y7_0 y7_1 y7_2 y7_3 y8_0 y8_1 y8_2 y8_3 ((((H2.tail.headD .dead).cs).headD .undef).V) (((((H2.tail.headD .dead).cs).tail).headD .undef).V) ((((((H2.tail.headD .dead).cs).tail).tail).headD .undef).len) (((((((H2.tail.headD .dead).cs).tail).tail).tail).headD .undef).len) ((((((((H2.tail.headD .dead).cs).tail).tail).tail).tail).headD .undef).len) ((H2.tail.tail.headD .dead).xs) ((H2.tail.tail.tail.headD .dead).xs) ((H2.tail.tail.tail.tail.headD .dead).xs))))
theorem jp_path_comparer_compare_2_s (Q : QD) (x11 : Bool) (y4_0 : Int) (y7_0 y7_1 y7_2 y7_3 y8_0 y8_1 y8_2 y8_3 h0_0 h0_1 : V) (h0_2n h0_3n h0_4n : Nat) (h1 h2 h3 : LL) : jp_path_comparer_compare_2 Q x11 y4_0 y7_0 y7_1 y7_2 y7_3 y8_0 y8_1 y8_2 y8_3 h0_0 h0_1 h0_2n h0_3n h0_4n h1 h2 h3 = je_path_comparer_compare_2 Q x11 y4_0 y7_0 y7_1 y7_2 y7_3 y8_0 y8_1 y8_2 y8_3 h0_0 h0_1 h0_2n h0_3n h0_4n h1 h2 h3 := by kernel_rfl
def je_path_comparer_compare_1 (Q : QD) (x9 x10 : V) (x11 : Bool) (y4_0 : Int) (y7_0 y7_1 y7_2 y7_3 y8_0 y8_1 y8_2 y8_3 h0_0 h0_1 : V) (h0_2n h0_3n h0_4n : Nat) (h1 h2 h3 : LL) : Prop :=
  iff (!x11) ((∃ r1 : D, cl f_path_Of [.v (.sl t_Rank) (h0_0), .v .str (x9)] [] (fun r H' => r = (.agg [.v .str ((r1.cells.headD .undef).V), .v (.int .i64) ((r1.cells.tail.headD .undef).V), .v (.int .i64) ((r1.cells.tail.tail.headD .undef).V)]) ∧ H' = []) ∧ (∃ r2 : D, cl f_path_Of [.v (.sl t_Rank) (h0_0), .v .str (x10)] [] (fun r H' => r = (.agg [.v .str ((r2.cells.headD .undef).V), .v (.int .i64) ((r2.cells.tail.headD .undef).V), .v (.int .i64) ((r2.cells.tail.tail.headD .undef).V)]) ∧ H' = []) ∧ iff (decide ((((r1.cells.tail.headD .undef).V).int) ≤ (((r2.cells.tail.headD .undef).V).int))) (True ∧ Q (.v .bool (V.b false)) [.cells [.v (.sl t_Rank) (h0_0), .v (.sl t_path_node) (h0_1), .osl (.own 1) h0_2n, .osl (.own 2) h0_3n, .osl (.own 3) h0_4n], .row t_path_node h1, .row t_uint8 h2, .row t_uint8 h3]) (jp_path_comparer_compare_2 Q x11 y4_0 y7_0 y7_1 y7_2 y7_3 y8_0 y8_1 y8_2 y8_3 h0_0 h0_1 h0_2n h0_3n h0_4n h1 h2 h3)))) (jp_path_comparer_compare_2 Q x11 y4_0 y7_0 y7_1 y7_2 y7_3 y8_0 y8_1 y8_2 y8_3 h0_0 h0_1 h0_2n h0_3n h0_4n h1 h2 h3)
theorem jp_path_comparer_compare_1_s (Q : QD) (x9 x10 : V) (x11 : Bool) (y4_0 : Int) (y7_0 y7_1 y7_2 y7_3 y8_0 y8_1 y8_2 y8_3 h0_0 h0_1 : V) (h0_2n h0_3n h0_4n : Nat) (h1 h2 h3 : LL) : jp_path_comparer_compare_1 Q x9 x10 x11 y4_0 y7_0 y7_1 y7_2 y7_3 y8_0 y8_1 y8_2 y8_3 h0_0 h0_1 h0_2n h0_3n h0_4n h1 h2 h3 = je_path_comparer_compare_1 Q x9 x10 x11 y4_0 y7_0 y7_1 y7_2 y7_3 y8_0 y8_1 y8_2 y8_3 h0_0 h0_1 h0_2n h0_3n h0_4n h1 h2 h3 := by kernel_rfl
def je_path_comparer_compare_0 (Q : QD) (y4_0 : Int) (y7_0 y7_1 y7_2 y7_3 y8_0 y8_1 y8_2 y8_3 h0_0 h0_1 : V) (h0_2n h0_3n h0_4n : Nat) (h1 h2 h3 : LL) : Prop :=
  iff (y7_0.str.toList == y8_0.str.toList) ((y7_3.list.length ≤ big → (y8_3.list.length ≤ big → jp_path_comparer_compare_1 Q y7_0 y8_0 (((y7_3.list.length : Int)) == ((y8_3.list.length : Int))) y4_0 y7_0 y7_1 y7_2 y7_3 y8_0 y8_1 y8_2 y8_3 h0_0 h0_1 h0_2n h0_3n h0_4n h1 h2 h3))) (jp_path_comparer_compare_1 Q y7_0 y8_0 false y4_0 y7_0 y7_1 y7_2 y7_3 y8_0 y8_1 y8_2 y8_3 h0_0 h0_1 h0_2n h0_3n h0_4n h1 h2 h3)
theorem jp_path_comparer_compare_0_s (Q : QD) (y4_0 : Int) (y7_0 y7_1 y7_2 y7_3 y8_0 y8_1 y8_2 y8_3 h0_0 h0_1 : V) (h0_2n h0_3n h0_4n : Nat) (h1 h2 h3 : LL) : jp_path_comparer_compare_0 Q y4_0 y7_0 y7_1 y7_2 y7_3 y8_0 y8_1 y8_2 y8_3 h0_0 h0_1 h0_2n h0_3n h0_4n h1 h2 h3 = je_path_comparer_compare_0 Q y4_0 y7_0 y7_1 y7_2 y7_3 y8_0 y8_1 y8_2 y8_3 h0_0 h0_1 h0_2n h0_3n h0_4n h1 h2 h3 := by kernel_rfl
def vc_path_comparer_compare (a1 a2 : Int) (h0_0 h0_1 : LL) (h0_2n h0_3n h0_4n : Nat) (h1 h2 h3 : LL) (Q : QD) : Prop :=
  0 ≤ a1 ∧ a1 < h0_1.length ∧ h1.length = h0_2n ∧ 0 ≤ a2 ∧ a2 < h0_2n ∧ h1.length = h0_2n ∧ a2.toNat < h0_2n ∧ cl f_slices_ContainsFunc_int [.v (.sl t_int) ((((((h0_1.getD a1.toNat []).drop 0).tail).tail).tail).headD V.none), .fn f_path_comparer_compare_1 [.ptr (.own 0) 0, .ptr (.own 5) 0]] [.cells [.ptr (.own 1) 0], .cells [.v (.sl t_Rank) (V.l h0_0), .v (.sl t_path_node) (V.l h0_1), .osl (.own 2) h0_2n, .osl (.own 3) h0_3n, .osl (.own 4) h0_4n], .row t_path_node h1, .row t_uint8 h2, .row t_uint8 h3, .cells [.v (.int .i64) (V.i a2)]] fun r1 H2 => r1 = (.v .bool (r1.V)) ∧ H2 = [.cells [.ptr (.own 1) 0], .cells [.v (.sl t_Rank) ((((H2.tail.headD .dead).cs).headD .undef).V), .v (.sl t_path_node) (((((H2.tail.headD .dead).cs).tail).headD .undef).V), .osl (.own 2) ((((((H2.tail.headD .dead).cs).tail).tail).headD .undef).len), .osl (.own 3) (((((((H2.tail.headD .dead).cs).tail).tail).tail).headD .undef).len), .osl (.own 4) ((((((((H2.tail.headD .dead).cs).tail).tail).tail).tail).headD .undef).len)], .row t_path_node ((H2.tail.tail.headD .dead).xs), .row t_uint8 ((H2.tail.tail.tail.headD .dead).xs), .row t_uint8 ((H2.tail.tail.tail.tail.headD .dead).xs), .cells [.v (.int .i64) ((((H2.tail.tail.tail.tail.tail.headD .dead).cs).headD .undef).V)]] ∧ iff r1.V.bool (True ∧ Q (.v .bool (V.b true)) [.cells [.v (.sl t_Rank) ((((H2.tail.headD .dead).cs).headD .undef).V), .v (.sl t_path_node) (((((H2.tail.headD .dead).cs).tail).headD .undef).V), .osl (.own 1) ((((((H2.tail.headD .dead).cs).tail).tail).headD .undef).len), .osl (.own 2) (((((((H2.tail.headD .dead).cs).tail).tail).tail).headD .undef).len), .osl (.own 3) ((((((((H2.tail.headD .dead).cs).tail).tail).tail).tail).headD .undef).len)], .row t_path_node ((H2.tail.tail.headD .dead).xs), .row t_uint8 ((H2.tail.tail.tail.headD .dead).xs), .row t_uint8 ((H2.tail.tail.tail.tail.headD .dead).xs)]) (iff (((((h0_1.getD a1.toNat []).drop 0).tail).headD V.none).bool) (True ∧ Q (.v .bool (V.b false)) [.cells [.v (.sl t_Rank) ((((H2.tail.headD .dead).cs).headD .undef).V), .v (.sl t_path_node) (((((H2.tail.headD .dead).cs).tail).headD .undef).V), .osl (.own 1) ((((((H2.tail.headD .dead).cs).tail).tail).headD .undef).len), .osl (.own 2) (((((((H2.tail.headD .dead).cs).tail).tail).tail).headD .undef).len), .osl (.own 3) ((((((((H2.tail.headD .dead).cs).tail).tail).tail).tail).headD .undef).len)], .row t_path_node ((H2.tail.tail.headD .dead).xs), .row t_uint8 ((H2.tail.tail.tail.headD .dead).xs), .row t_uint8 ((H2.tail.tail.tail.tail.headD .dead).xs)]) (iff (((((h1.getD a2.toNat []).drop 0).tail).headD V.none).bool) (True ∧ Q (.v .bool (V.b false)) [.cells [.v (.sl t_Rank) ((((H2.tail.headD .dead).cs).headD .undef).V), .v (.sl t_path_node) (((((H2.tail.headD .dead).cs).tail).headD .undef).V), .osl (.own 1) ((((((H2.tail.headD .dead).cs).tail).tail).headD .undef).len), .osl (.own 2) (((((((H2.tail.headD .dead).cs).tail).tail).tail).headD .undef).len), .osl (.own 3) ((((((((H2.tail.headD .dead).cs).tail).tail).tail).tail).headD .undef).len)], .row t_path_node ((H2.tail.tail.headD .dead).xs), .row t_uint8 ((H2.tail.tail.tail.headD .dead).xs), .row t_uint8 ((H2.tail.tail.tail.tail.headD .dead).xs)]) (jp_path_comparer_compare_0 Q a1 (((h0_1.getD a1.toNat []).drop 0).headD V.none) ((((h0_1.getD a1.toNat []).drop 0).tail).headD V.none) (((((h0_1.getD a1.toNat []).drop 0).tail).tail).headD V.none) ((((((h0_1.getD a1.toNat []).drop 0).tail).tail).tail).headD V.none) (((h1.getD a2.toNat []).drop 0).headD V.none) ((((h1.getD a2.toNat []).drop 0).tail).headD V.none) (((((h1.getD a2.toNat []).drop 0).tail).tail).headD V.none) ((((((h1.getD a2.toNat []).drop 0).tail).tail).tail).headD V.none) ((((H2.tail.headD .dead).cs).headD .undef).V) (((((H2.tail.headD .dead).cs).tail).headD .undef).V) ((((((H2.tail.headD .dead).cs).tail).tail).headD .undef).len) (((((((H2.tail.headD .dead).cs).tail).tail).tail).headD .undef).len) ((((((((H2.tail.headD .dead).cs).tail).tail).tail).tail).headD .undef).len) ((H2.tail.tail.headD .dead).xs) ((H2.tail.tail.tail.headD .dead).xs) ((H2.tail.tail.tail.tail.headD .dead).xs))))
theorem C_path_comparer_compare (a1 a2 : Int) (h0_0 h0_1 : LL) (h0_2n h0_3n h0_4n : Nat) (h1 h2 h3 : LL) (Q : QD) (h : vc_path_comparer_compare a1 a2 h0_0 h0_1 h0_2n h0_3n h0_4n h1 h2 h3 Q) : cl f_path_comparer_compare [.ptr (.own 0) 0, .v (.int .i64) (V.i a1), .v (.int .i64) (V.i a2)] [.cells [.v (.sl t_Rank) (V.l h0_0), .v (.sl t_path_node) (V.l h0_1), .osl (.own 1) h0_2n, .osl (.own 2) h0_3n, .osl (.own 3) h0_4n], .row t_path_node h1, .row t_uint8 h2, .row t_uint8 h3] Q :=
  acalls2 (E := env_path_comparer_compare) (envOk _ _ _ _ _) 0 Tryz.func64 (by kernel_rfl) h
def env_r01_Marked : Env := envA [] [] [] [] []
def vc_r01_Marked (a0 : ByteArray) (Q : QD) : Prop :=
  iff (!(a0.toList == (ByteArray.mk #[]).toList)) ((a0.size ≤ big → 0 ≤ (IntKind.i64.wrap (((a0.size : Int)) - (1 : Int))) ∧ (IntKind.i64.wrap (((a0.size : Int)) - (1 : Int))) < a0.size ∧ True ∧ Q (.v .bool (V.b ((((a0.data.toList.getD ((IntKind.i64.wrap (((a0.size : Int)) - (1 : Int)))).toNat 0).toNat : Int)) == (35 : Int)))) [])) (True ∧ Q (.v .bool (V.b false)) [])
theorem C_r01_Marked (a0 : ByteArray) (Q : QD) (h : vc_r01_Marked a0 Q) : cl f_r01_Marked [.v .str (V.s a0)] [] Q :=
  acalls2 (E := env_r01_Marked) (envOk _ _ _ _ _) 0 Tryz.func65 (by kernel_rfl) h
def env_r01_Letters : Env := envA [(2, ua 2 3 (ua 7 8 ([.dead 12])))] [] [] [] []
def kl_r01_Letters_0 (Q : QD) : Post := blockK 0 (seqJ env_r01_Letters (fnAt [1, 1] Tryz.f66) (endK env_r01_Letters Tryz.f66 Q))
@[irreducible] def lp_r01_Letters_0 (Q : QD) (m0 : Nat) (x0 : ByteArray) (x5 x6 : Int) : Prop :=
  iter (adj (env_r01_Letters.adj 2)) (evCode env_r01_Letters (fnAt [1, 0, 1, 0, 0] Tryz.f66)) (kl_r01_Letters_0 Q) m0 ⟨(.v .str (V.s x0)) :: .skip :: un 3 ((.v (.int .i64) (V.i x5)) :: (.v (.int .i64) (V.i x6)) :: un 8 ([])), dd 15 ([])⟩ []
def st_r01_Letters_0 (Q : QD) (m0 : Nat) (x0 : ByteArray) (x5 x6 : Int) : Prop :=
  iff (decide (x6 < x5)) (0 ≤ x6 ∧ x6 < x0.size ∧ cl f_r01_letter [.v (.int .u8) (V.i (((x0.data.toList.getD x6.toNat 0).toNat : Int)))] [] fun r1 H2 => r1 = (.v .bool (r1.V)) ∧ H2 = [] ∧ iff (!r1.V.bool) (True ∧ Q (.v .bool (V.b false)) []) (lp_r01_Letters_0 Q m0 x0 x5 (IntKind.i64.wrap (x6 + (1 : Int))))) (True ∧ Q (.v .bool (V.b true)) [])
theorem lp_r01_Letters_0_s (Q : QD) (m0 : Nat) (x0 : ByteArray) (x5 x6 : Int) : lp_r01_Letters_0 Q (m0 + 1) x0 x5 x6 = st_r01_Letters_0 Q m0 x0 x5 x6 := by kernel_rfl
theorem range_r01_Letters_0 (Q : QD) (x0 : ByteArray) (n : Nat) (hb : n ≤ big) (J : Nat → Prop)
    (step : ∀ (k : Nat), k < n → J k → ∀ K : Prop, (J (k + 1) → K) → (0 ≤ (k : Int) ∧ (k : Int) < x0.size ∧ cl f_r01_letter [.v (.int .u8) (V.i (((x0.data.toList.getD k 0).toNat : Int)))] [] fun r1 H2 => r1 = (.v .bool (r1.V)) ∧ H2 = [] ∧ iff (!r1.V.bool) (True ∧ Q (.v .bool (V.b false)) []) (K)))
    (last : J n → (True ∧ Q (.v .bool (V.b true)) []))
    (k : Nat) (le0 : k ≤ n) (hj : J k) : ∃ m0, lp_r01_Letters_0 Q m0 x0 (n : Int) ((k : Int)) := by
  exact rangeG0 n hb J (fun m0 i => lp_r01_Letters_0 Q m0 x0 (n : Int) i) (fun m0 i => lp_r01_Letters_0_s Q m0 x0 (n : Int) i) (fun k hl_ hj_ m_ ih_ => step k hl_ hj_ _ ih_) last k le0 hj
def vc_r01_Letters (a0 : ByteArray) (Q : QD) : Prop :=
  (a0.size ≤ big → ∃ m0, lp_r01_Letters_0 Q m0 a0 ((a0.size : Int)) 0)
theorem C_r01_Letters (a0 : ByteArray) (Q : QD) (h : vc_r01_Letters a0 Q) : cl f_r01_Letters [.v .str (V.s a0)] [] Q :=
  acalls2 (E := env_r01_Letters) (envOk _ _ _ _ _) 0 Tryz.func66 (by kernel_rfl) h
def env_r01_CompareInts : Env := envA [] [] [] [] []
def vc_r01_CompareInts (a0 a1 : Int) (Q : QD) : Prop :=
  iff (decide (a0 < a1)) (True ∧ Q (.v (.int .i64) (V.i (-1))) []) (iff (decide (a0 > a1)) (True ∧ Q (.v (.int .i64) (V.i 1)) []) (True ∧ Q (.v (.int .i64) (V.i 0)) []))
theorem C_r01_CompareInts (a0 a1 : Int) (Q : QD) (h : vc_r01_CompareInts a0 a1 Q) : cl f_r01_CompareInts [.v (.int .i64) (V.i a0), .v (.int .i64) (V.i a1)] [] Q :=
  acalls2 (E := env_r01_CompareInts) (envOk _ _ _ _ _) 0 Tryz.func67 (by kernel_rfl) h
def env_term_Check : Env := envA [] [] [] [] []
def vc_term_Check (a0_0 : ByteArray) (a0_1 : Bool) (a0_2 : LL) (Q : QD) : Prop :=
  cl f_term_formed [.agg [.v .str (V.s a0_0), .v .bool (V.b a0_1), .v (.sl t_Term) (V.l a0_2)]] [] fun r1 H2 => r1 = (.v .bool (r1.V)) ∧ H2 = [] ∧ iff (!r1.V.bool) (True ∧ Q (.v (.int .i64) (V.i 4)) []) (cl f_term_fits [.agg [.v .str (V.s a0_0), .v .bool (V.b a0_1), .v (.sl t_Term) (V.l a0_2)]] [] fun r3 H4 => r3 = (.v .bool (r3.V)) ∧ H4 = [] ∧ iff (!r3.V.bool) (True ∧ Q (.v (.int .i64) (V.i 3)) []) (True ∧ Q (.v (.int .i64) (V.i 0)) []))
theorem C_term_Check (a0_0 : ByteArray) (a0_1 : Bool) (a0_2 : LL) (Q : QD) (h : vc_term_Check a0_0 a0_1 a0_2 Q) : cl f_term_Check [.agg [.v .str (V.s a0_0), .v .bool (V.b a0_1), .v (.sl t_Term) (V.l a0_2)]] [] Q :=
  acalls2 (E := env_term_Check) (envOk _ _ _ _ _) 0 Tryz.func69 (by kernel_rfl) h
def env_r01_At : Env := envA [(2, ua 0 2 ((.undef 5) :: (.undef 7) :: ua 11 19 ([.dead 20]))), (3000006, ua 0 2 ((.undef 5) :: ua 11 19 ([.dead 20])))] [] [] [] [6]
def kl_r01_At_0 (Q : QD) : Post := blockK 0 (seqJ env_r01_At (fnAt [1, 1] Tryz.f70) (endK env_r01_At Tryz.f70 Q))
@[irreducible] def jp_r01_At_0 (Q : QD) (m0 : Nat) (x7 : V) (x8 : LL) (x9 x10 : Int) (y2_0 y2_1 y2_2 : V) (y4_0 : ByteArray) (y4_1 : Bool) : Prop :=
  joinM (evCode env_r01_At (fnAt [1, 0, 1, 0, 0, 1, 1, 0, 0, 1, 1] Tryz.f70)) ⟨un 2 ((.ptr (.loc 2) 0) :: .skip :: (.ptr (.loc 4) 0) :: .undef :: .skip :: (.v (.int .i64) (x7)) :: (.v (.sl t_int) (V.l x8)) :: (.v (.int .i64) (V.i x9)) :: (.v (.int .i64) (V.i x10)) :: un 19 ([.skip])), dd 2 ((.cells [.v .str (y2_0), .v .bool (y2_1), .v (.sl t_Term) (y2_2)]) :: .dead :: (.cells [.v .str (V.s y4_0), .v .bool (V.b y4_1), .nil]) :: dd 26 ([]))⟩ [] (blockK 1 (seqJ env_r01_At (fnAt [1, 0, 1, 0, 0, 1, 1, 1] Tryz.f70) (loopK (adj (env_r01_At.adj 2)) (iter (adj (env_r01_At.adj 2)) (evCode env_r01_At (fnAt [1, 0, 1, 0, 0] Tryz.f70)) (kl_r01_At_0 Q) m0) (kl_r01_At_0 Q))))
@[irreducible] def lp_r01_At_0 (Q : QD) (m0 : Nat) (x8 : LL) (x9 x10 : Int) (y2_0 y2_1 y2_2 : V) (y4_0 : ByteArray) (y4_1 : Bool) : Prop :=
  iter (adj (env_r01_At.adj 2)) (evCode env_r01_At (fnAt [1, 0, 1, 0, 0] Tryz.f70)) (kl_r01_At_0 Q) m0 ⟨un 2 ((.ptr (.loc 2) 0) :: .skip :: (.ptr (.loc 4) 0) :: .undef :: .skip :: .undef :: (.v (.sl t_int) (V.l x8)) :: (.v (.int .i64) (V.i x9)) :: (.v (.int .i64) (V.i x10)) :: un 19 ([.skip])), dd 2 ((.cells [.v .str (y2_0), .v .bool (y2_1), .v (.sl t_Term) (y2_2)]) :: .dead :: (.cells [.v .str (V.s y4_0), .v .bool (V.b y4_1), .nil]) :: dd 26 ([]))⟩ []
def je_r01_At_0 (Q : QD) (m0 : Nat) (x7 : V) (x8 : LL) (x9 x10 : Int) (y2_0 y2_1 y2_2 : V) (y4_0 : ByteArray) (y4_1 : Bool) : Prop :=
  0 ≤ x7.int ∧ x7.int < y2_2.list.length ∧ lp_r01_At_0 Q m0 x8 x9 (IntKind.i64.wrap (x10 + (1 : Int))) (((y2_2.list.getD x7.int.toNat []).drop 0).headD V.none) ((((y2_2.list.getD x7.int.toNat []).drop 0).tail).headD V.none) (((((y2_2.list.getD x7.int.toNat []).drop 0).tail).tail).headD V.none) y4_0 y4_1
theorem jp_r01_At_0_s (Q : QD) (m0 : Nat) (x7 : V) (x8 : LL) (x9 x10 : Int) (y2_0 y2_1 y2_2 : V) (y4_0 : ByteArray) (y4_1 : Bool) : jp_r01_At_0 Q m0 x7 x8 x9 x10 y2_0 y2_1 y2_2 y4_0 y4_1 = je_r01_At_0 Q m0 x7 x8 x9 x10 y2_0 y2_1 y2_2 y4_0 y4_1 := by kernel_rfl
def st_r01_At_0 (Q : QD) (m0 : Nat) (x8 : LL) (x9 x10 : Int) (y2_0 y2_1 y2_2 : V) (y4_0 : ByteArray) (y4_1 : Bool) : Prop :=
  iff (decide (x10 < x9)) (0 ≤ x10 ∧ x10 < x8.length ∧ iff (decide (((((x8.getD x10.toNat []).drop 0).headD V.none).int) < (0 : Int))) (((True ∧ True ∧ True ∧ True) ∧ True ∧ True) ∧ Q (.tup [.agg [.v .str (V.s (ByteArray.mk #[])), .v .bool (V.b false), .nil], .v .bool (V.b false)]) []) ((y2_2.list.length ≤ big → iff (decide (((((x8.getD x10.toNat []).drop 0).headD V.none).int) ≥ ((y2_2.list.length : Int)))) (((True ∧ True ∧ True ∧ True) ∧ True ∧ True) ∧ Q (.tup [.agg [.v .str (V.s (ByteArray.mk #[])), .v .bool (V.b false), .nil], .v .bool (V.b false)]) []) (jp_r01_At_0 Q m0 (((x8.getD x10.toNat []).drop 0).headD V.none) x8 x9 x10 y2_0 y2_1 y2_2 y4_0 y4_1)))) (((True ∧ True ∧ True ∧ True) ∧ True ∧ True) ∧ Q (.tup [.agg [.v .str (y2_0), .v .bool (y2_1), .v (.sl t_Term) (y2_2)], .v .bool (V.b true)]) [])
theorem lp_r01_At_0_s (Q : QD) (m0 : Nat) (x8 : LL) (x9 x10 : Int) (y2_0 y2_1 y2_2 : V) (y4_0 : ByteArray) (y4_1 : Bool) : lp_r01_At_0 Q (m0 + 1) x8 x9 x10 y2_0 y2_1 y2_2 y4_0 y4_1 = st_r01_At_0 Q m0 x8 x9 x10 y2_0 y2_1 y2_2 y4_0 y4_1 := by kernel_rfl
theorem range_r01_At_0 (Q : QD) (x8 : LL) (y4_0 : ByteArray) (y4_1 : Bool) (n : Nat) (hb : n ≤ big) (J : Nat → V → V → V → Prop)
    (step : ∀ (k : Nat) (y2_0 y2_1 y2_2 : V), k < n → J k y2_0 y2_1 y2_2 → ∀ m0 : Nat, (∀ (y2_0' y2_1' y2_2' : V), J (k + 1) y2_0' y2_1' y2_2' → lp_r01_At_0 Q m0 x8 (n : Int) (IntKind.i64.wrap ((k : Int) + (1 : Int))) y2_0' y2_1' y2_2' y4_0 y4_1) → (0 ≤ (k : Int) ∧ (k : Int) < x8.length ∧ iff (decide (((((x8.getD k []).drop 0).headD V.none).int) < (0 : Int))) (((True ∧ True ∧ True ∧ True) ∧ True ∧ True) ∧ Q (.tup [.agg [.v .str (V.s (ByteArray.mk #[])), .v .bool (V.b false), .nil], .v .bool (V.b false)]) []) ((y2_2.list.length ≤ big → iff (decide (((((x8.getD k []).drop 0).headD V.none).int) ≥ ((y2_2.list.length : Int)))) (((True ∧ True ∧ True ∧ True) ∧ True ∧ True) ∧ Q (.tup [.agg [.v .str (V.s (ByteArray.mk #[])), .v .bool (V.b false), .nil], .v .bool (V.b false)]) []) (jp_r01_At_0 Q m0 (((x8.getD k []).drop 0).headD V.none) x8 (n : Int) (k : Int) y2_0 y2_1 y2_2 y4_0 y4_1)))))
    (last : ∀ (y2_0 y2_1 y2_2 : V), J n y2_0 y2_1 y2_2 → (((True ∧ True ∧ True ∧ True) ∧ True ∧ True) ∧ Q (.tup [.agg [.v .str (y2_0), .v .bool (y2_1), .v (.sl t_Term) (y2_2)], .v .bool (V.b true)]) []))
    (k : Nat) (y2_0 y2_1 y2_2 : V) (le0 : k ≤ n) (hj : J k y2_0 y2_1 y2_2) : ∃ m0, lp_r01_At_0 Q m0 x8 (n : Int) ((k : Int)) y2_0 y2_1 y2_2 y4_0 y4_1 := by
  exact rangeG3 n hb J (fun m0 i y2_0 y2_1 y2_2 => lp_r01_At_0 Q m0 x8 (n : Int) i y2_0 y2_1 y2_2 y4_0 y4_1) (fun m0 i y2_0 y2_1 y2_2 => lp_r01_At_0_s Q m0 x8 (n : Int) i y2_0 y2_1 y2_2 y4_0 y4_1) (fun k y2_0 y2_1 y2_2 hl_ hj_ m_ ih_ => step k y2_0 y2_1 y2_2 hl_ hj_ m_ ih_) last k y2_0 y2_1 y2_2 le0 hj
def vc_r01_At (a0_0 : ByteArray) (a0_1 : Bool) (a0_2 a1 : LL) (Q : QD) : Prop :=
  (a1.length ≤ big → ∃ m0, lp_r01_At_0 Q m0 a1 ((a1.length : Int)) 0 (V.s a0_0) (V.b a0_1) (V.l a0_2) (ByteArray.mk #[]) false)
theorem C_r01_At (a0_0 : ByteArray) (a0_1 : Bool) (a0_2 a1 : LL) (Q : QD) (h : vc_r01_At a0_0 a0_1 a0_2 a1 Q) : cl f_r01_At [.agg [.v .str (V.s a0_0), .v .bool (V.b a0_1), .v (.sl t_Term) (V.l a0_2)], .v (.sl t_int) (V.l a1)] [] Q :=
  acalls2 (E := env_r01_At) (envOk _ _ _ _ _) 0 Tryz.func70 (by kernel_rfl) h
def env_r03_Match : Env := envA [] [] [] [] []
def vc_r03_Match (a0_0 : ByteArray) (a0_1 : Bool) (a0_2 : LL) (a1_0 : ByteArray) (a1_1 : Bool) (a1_2 : LL) (Q : QD) : Prop :=
  cl f_r03_match [.v (.sl t_Bind) (V.l ([])), .agg [.v .str (V.s a0_0), .v .bool (V.b a0_1), .v (.sl t_Term) (V.l a0_2)], .agg [.v .str (V.s a1_0), .v .bool (V.b a1_1), .v (.sl t_Term) (V.l a1_2)]] [] fun r1 H2 => r1 = (.tup [.v (.sl t_Bind) ((r1.parts.headD .undef).V), .v .bool ((r1.parts.tail.headD .undef).V)]) ∧ H2 = [] ∧ (True ∧ True ∧ True) ∧ Q (.tup [.v (.sl t_Bind) ((r1.parts.headD .undef).V), .v .bool ((r1.parts.tail.headD .undef).V)]) []
theorem C_r03_Match (a0_0 : ByteArray) (a0_1 : Bool) (a0_2 : LL) (a1_0 : ByteArray) (a1_1 : Bool) (a1_2 : LL) (Q : QD) (h : vc_r03_Match a0_0 a0_1 a0_2 a1_0 a1_1 a1_2 Q) : cl f_r03_Match [.agg [.v .str (V.s a0_0), .v .bool (V.b a0_1), .v (.sl t_Term) (V.l a0_2)], .agg [.v .str (V.s a1_0), .v .bool (V.b a1_1), .v (.sl t_Term) (V.l a1_2)]] [] Q :=
  acalls2 (E := env_r03_Match) (envOk _ _ _ _ _) 0 Tryz.func71 (by kernel_rfl) h
def env_r01_Image : Env := envA [(2, (.undef 0) :: (.undef 6) :: ua 10 10 ([.dead 6]))] [] [] [] []
def kl_r01_Image_0 (Q : QD) : Post := blockK 0 (seqJ env_r01_Image (fnAt [1, 1] Tryz.f72) (endK env_r01_Image Tryz.f72 Q))
@[irreducible] def lp_r01_Image_0 (Q : QD) (m0 : Nat) (x1 : ByteArray) (x7 : LL) (x8 x9 : Int) (y4_0 : ByteArray) (y4_1 : Bool) : Prop :=
  iter (adj (env_r01_Image.adj 2)) (evCode env_r01_Image (fnAt [1, 0, 1, 0, 0] Tryz.f72)) (kl_r01_Image_0 Q) m0 ⟨.undef :: (.v .str (V.s x1)) :: sk 2 ((.ptr (.loc 4) 0) :: .skip :: .undef :: (.v (.sl t_Bind) (V.l x7)) :: (.v (.int .i64) (V.i x8)) :: (.v (.int .i64) (V.i x9)) :: un 10 (sk 2 ([]))), dd 4 ((.cells [.v .str (V.s y4_0), .v .bool (V.b y4_1), .nil]) :: dd 17 ([]))⟩ []
def st_r01_Image_0 (Q : QD) (m0 : Nat) (x1 : ByteArray) (x7 : LL) (x8 x9 : Int) (y4_0 : ByteArray) (y4_1 : Bool) : Prop :=
  iff (decide (x9 < x8)) (0 ≤ x9 ∧ x9 < x7.length ∧ iff (((((x7.getD x9.toNat []).drop 0).headD V.none).str).toList == x1.toList) ((True ∧ True ∧ True ∧ True) ∧ Q (.agg [.v .str ((((x7.getD x9.toNat []).drop 0).tail).headD V.none), .v .bool (((((x7.getD x9.toNat []).drop 0).tail).tail).headD V.none), .v (.sl t_Term) ((((((x7.getD x9.toNat []).drop 0).tail).tail).tail).headD V.none)]) []) (lp_r01_Image_0 Q m0 x1 x7 x8 (IntKind.i64.wrap (x9 + (1 : Int))) y4_0 y4_1)) ((True ∧ True ∧ True ∧ True) ∧ Q (.agg [.v .str (V.s x1), .v .bool (V.b true), .nil]) [])
theorem lp_r01_Image_0_s (Q : QD) (m0 : Nat) (x1 : ByteArray) (x7 : LL) (x8 x9 : Int) (y4_0 : ByteArray) (y4_1 : Bool) : lp_r01_Image_0 Q (m0 + 1) x1 x7 x8 x9 y4_0 y4_1 = st_r01_Image_0 Q m0 x1 x7 x8 x9 y4_0 y4_1 := by kernel_rfl
theorem range_r01_Image_0 (Q : QD) (x1 : ByteArray) (x7 : LL) (y4_0 : ByteArray) (y4_1 : Bool) (n : Nat) (hb : n ≤ big) (J : Nat → Prop)
    (step : ∀ (k : Nat), k < n → J k → ∀ K : Prop, (J (k + 1) → K) → (0 ≤ (k : Int) ∧ (k : Int) < x7.length ∧ iff (((((x7.getD k []).drop 0).headD V.none).str).toList == x1.toList) ((True ∧ True ∧ True ∧ True) ∧ Q (.agg [.v .str ((((x7.getD k []).drop 0).tail).headD V.none), .v .bool (((((x7.getD k []).drop 0).tail).tail).headD V.none), .v (.sl t_Term) ((((((x7.getD k []).drop 0).tail).tail).tail).headD V.none)]) []) (K)))
    (last : J n → ((True ∧ True ∧ True ∧ True) ∧ Q (.agg [.v .str (V.s x1), .v .bool (V.b true), .nil]) []))
    (k : Nat) (le0 : k ≤ n) (hj : J k) : ∃ m0, lp_r01_Image_0 Q m0 x1 x7 (n : Int) ((k : Int)) y4_0 y4_1 := by
  exact rangeG0 n hb J (fun m0 i => lp_r01_Image_0 Q m0 x1 x7 (n : Int) i y4_0 y4_1) (fun m0 i => lp_r01_Image_0_s Q m0 x1 x7 (n : Int) i y4_0 y4_1) (fun k hl_ hj_ m_ ih_ => step k hl_ hj_ _ ih_) last k le0 hj
def vc_r01_Image (a0 : LL) (a1 : ByteArray) (Q : QD) : Prop :=
  (a0.length ≤ big → ∃ m0, lp_r01_Image_0 Q m0 a1 a0 ((a0.length : Int)) 0 (ByteArray.mk #[]) false)
theorem C_r01_Image (a0 : LL) (a1 : ByteArray) (Q : QD) (h : vc_r01_Image a0 a1 Q) : cl f_r01_Image [.v (.sl t_Bind) (V.l a0), .v .str (V.s a1)] [] Q :=
  acalls2 (E := env_r01_Image) (envOk _ _ _ _ _) 0 Tryz.func72 (by kernel_rfl) h
def env_strings_TrimSuffix : Env := envA [] [] [] [] []
def vc_strings_TrimSuffix (a0 a1 : ByteArray) (Q : QD) : Prop :=
  cl f_stringslite_TrimSuffix [.v .str (V.s a0), .v .str (V.s a1)] [] fun r1 H2 => r1 = (.v .str (r1.V)) ∧ H2 = [] ∧ True ∧ Q (.v .str (r1.V)) []
theorem C_strings_TrimSuffix (a0 a1 : ByteArray) (Q : QD) (h : vc_strings_TrimSuffix a0 a1 Q) : cl f_strings_TrimSuffix [.v .str (V.s a0), .v .str (V.s a1)] [] Q :=
  acalls2 (E := env_strings_TrimSuffix) (envOk _ _ _ _ _) 0 Tryz.func73 (by kernel_rfl) h
def env_slices_ContainsFunc_byte_termIsName1 : Env := envA [] [] [] [] []
def vc_slices_ContainsFunc_byte_termIsName1 (a0 : LL) (Q : QD) : Prop :=
  cl f_slices_IndexFunc_byte [.v (.sl t_uint8) (V.l a0), .fn f_term_IsName_1 []] [] fun r1 H2 => r1 = (.v (.int .i64) (r1.V)) ∧ H2 = [] ∧ True ∧ Q (.v .bool (V.b (decide (r1.V.int ≥ (0 : Int))))) []
theorem C_slices_ContainsFunc_byte_termIsName1 (a0 : LL) (Q : QD) (h : vc_slices_ContainsFunc_byte_termIsName1 a0 Q) : cl f_slices_ContainsFunc_byte [.v (.sl t_uint8) (V.l a0), .fn f_term_IsName_1 []] [] Q :=
  acalls2 (E := env_slices_ContainsFunc_byte_termIsName1) (envOk _ _ _ _ _) 0 Tryz.func74 (by kernel_rfl) h
def env_path_Check_2 : Env := envA [] [] [] [] []
def vc_path_Check_2 (a0_0 : ByteArray) (a0_1 a0_2 : Int) (Q : QD) : Prop :=
  iff (decide (a0_1 < (0 : Int))) (True ∧ Q (.v .bool (V.b true)) []) (iff (decide (a0_1 > (1000 : Int))) (True ∧ Q (.v .bool (V.b true)) []) (True ∧ Q (.v .bool (V.b (a0_2 != (0 : Int)))) []))
theorem C_path_Check_2 (a0_0 : ByteArray) (a0_1 a0_2 : Int) (Q : QD) (h : vc_path_Check_2 a0_0 a0_1 a0_2 Q) : cl f_path_Check_2 [.agg [.v .str (V.s a0_0), .v (.int .i64) (V.i a0_1), .v (.int .i64) (V.i a0_2)]] [] Q :=
  acalls2 (E := env_path_Check_2) (envOk _ _ _ _ _) 0 Tryz.func30 (by kernel_rfl) h
def env_term_extra : Env := envA [] [] [] [] []
def vc_term_extra (a0_0 : ByteArray) (a0_1 : Bool) (a0_2 : LL) (a0_3 : ByteArray) (a0_4 : Bool) (a0_5 : LL) (Q : QD) : Prop :=
  cl f_term_VarsOf [.v (.sl t_Term) (V.l ([[V.s a0_0, V.b a0_1, V.l a0_2]]))] [] fun r1 H2 => r1 = (.v (.sl t_string) (r1.V)) ∧ H2 = [] ∧ iff a0_1 (True ∧ Q (.v .bool (V.b true)) []) (cl f_term_VarsOf [.v (.sl t_Term) (V.l ([[V.s a0_3, V.b a0_4, V.l a0_5]]))] [] fun r3 H4 => r3 = (.v (.sl t_string) (r3.V)) ∧ H4 = [] ∧ cl f_slices_ContainsFunc_string [.v (.sl t_string) (r3.V), .fn f_term_extra_1 [.ptr (.own 0) 0]] [.cells [.v (.sl t_string) (r1.V)]] fun r5 H6 => r5 = (.v .bool (r5.V)) ∧ H6 = [.cells [.v (.sl t_string) ((((H6.headD .dead).cs).headD .undef).V)]] ∧ True ∧ Q (.v .bool (r5.V)) [])
theorem C_term_extra (a0_0 : ByteArray) (a0_1 : Bool) (a0_2 : LL) (a0_3 : ByteArray) (a0_4 : Bool) (a0_5 : LL) (Q : QD) (h : vc_term_extra a0_0 a0_1 a0_2 a0_3 a0_4 a0_5 Q) : cl f_term_extra [.agg [.v .str (V.s a0_0), .v .bool (V.b a0_1), .v (.sl t_Term) (V.l a0_2), .v .str (V.s a0_3), .v .bool (V.b a0_4), .v (.sl t_Term) (V.l a0_5)]] [] Q :=
  acalls2 (E := env_term_extra) (envOk _ _ _ _ _) 0 Tryz.func35 (by kernel_rfl) h
def env_stringslite_HasSuffix : Env := envA [] [] [] [] []
def vc_stringslite_HasSuffix (a0 a1 : ByteArray) (Q : QD) : Prop :=
  (a0.size ≤ big → (a1.size ≤ big → iff (decide (((a0.size : Int)) ≥ ((a1.size : Int)))) ((a0.size ≤ big → (a1.size ≤ big → 0 ≤ (IntKind.i64.wrap (((a0.size : Int)) - ((a1.size : Int)))) ∧ (IntKind.i64.wrap (((a0.size : Int)) - ((a1.size : Int)))) ≤ (a0.size : Int) ∧ (a0.size : Int) ≤ a0.size ∧ True ∧ Q (.v .bool (V.b ((a0.extract (IntKind.i64.wrap (((a0.size : Int)) - ((a1.size : Int)))).toNat ((a0.size : Int)).toNat).toList == a1.toList))) []))) (True ∧ Q (.v .bool (V.b false)) [])))
theorem C_stringslite_HasSuffix (a0 a1 : ByteArray) (Q : QD) (h : vc_stringslite_HasSuffix a0 a1 Q) : cl f_stringslite_HasSuffix [.v .str (V.s a0), .v .str (V.s a1)] [] Q :=
  acalls2 (E := env_stringslite_HasSuffix) (envOk _ _ _ _ _) 0 Tryz.func79 (by kernel_rfl) h
def env_slices_ContainsFunc_int_pathcomparercompare1 : Env := envA [] [] [] [] []
def vc_slices_ContainsFunc_int_pathcomparercompare1 (a0 h1_0 h1_1 : LL) (h1_2n h1_3n h1_4n : Nat) (h2 h3 h4 : LL) (h5_0 : Int) (Q : QD) : Prop :=
  cl f_slices_IndexFunc_int [.v (.sl t_int) (V.l a0), .fn f_path_comparer_compare_1 [.ptr (.own 0) 0, .ptr (.own 5) 0]] [.cells [.ptr (.own 1) 0], .cells [.v (.sl t_Rank) (V.l h1_0), .v (.sl t_path_node) (V.l h1_1), .osl (.own 2) h1_2n, .osl (.own 3) h1_3n, .osl (.own 4) h1_4n], .row t_path_node h2, .row t_uint8 h3, .row t_uint8 h4, .cells [.v (.int .i64) (V.i h5_0)]] fun r1 H2 => r1 = (.v (.int .i64) (r1.V)) ∧ H2 = [.cells [.ptr (.own 1) 0], .cells [.v (.sl t_Rank) ((((H2.tail.headD .dead).cs).headD .undef).V), .v (.sl t_path_node) (((((H2.tail.headD .dead).cs).tail).headD .undef).V), .osl (.own 2) ((((((H2.tail.headD .dead).cs).tail).tail).headD .undef).len), .osl (.own 3) (((((((H2.tail.headD .dead).cs).tail).tail).tail).headD .undef).len), .osl (.own 4) ((((((((H2.tail.headD .dead).cs).tail).tail).tail).tail).headD .undef).len)], .row t_path_node ((H2.tail.tail.headD .dead).xs), .row t_uint8 ((H2.tail.tail.tail.headD .dead).xs), .row t_uint8 ((H2.tail.tail.tail.tail.headD .dead).xs), .cells [.v (.int .i64) ((((H2.tail.tail.tail.tail.tail.headD .dead).cs).headD .undef).V)]] ∧ True ∧ Q (.v .bool (V.b (decide (r1.V.int ≥ (0 : Int))))) [.cells [.ptr (.own 1) 0], .cells [.v (.sl t_Rank) ((((H2.tail.headD .dead).cs).headD .undef).V), .v (.sl t_path_node) (((((H2.tail.headD .dead).cs).tail).headD .undef).V), .osl (.own 2) ((((((H2.tail.headD .dead).cs).tail).tail).headD .undef).len), .osl (.own 3) (((((((H2.tail.headD .dead).cs).tail).tail).tail).headD .undef).len), .osl (.own 4) ((((((((H2.tail.headD .dead).cs).tail).tail).tail).tail).headD .undef).len)], .row t_path_node ((H2.tail.tail.headD .dead).xs), .row t_uint8 ((H2.tail.tail.tail.headD .dead).xs), .row t_uint8 ((H2.tail.tail.tail.tail.headD .dead).xs), .cells [.v (.int .i64) ((((H2.tail.tail.tail.tail.tail.headD .dead).cs).headD .undef).V)]]
theorem C_slices_ContainsFunc_int_pathcomparercompare1 (a0 h1_0 h1_1 : LL) (h1_2n h1_3n h1_4n : Nat) (h2 h3 h4 : LL) (h5_0 : Int) (Q : QD) (h : vc_slices_ContainsFunc_int_pathcomparercompare1 a0 h1_0 h1_1 h1_2n h1_3n h1_4n h2 h3 h4 h5_0 Q) : cl f_slices_ContainsFunc_int [.v (.sl t_int) (V.l a0), .fn f_path_comparer_compare_1 [.ptr (.own 0) 0, .ptr (.own 5) 0]] [.cells [.ptr (.own 1) 0], .cells [.v (.sl t_Rank) (V.l h1_0), .v (.sl t_path_node) (V.l h1_1), .osl (.own 2) h1_2n, .osl (.own 3) h1_3n, .osl (.own 4) h1_4n], .row t_path_node h2, .row t_uint8 h3, .row t_uint8 h4, .cells [.v (.int .i64) (V.i h5_0)]] Q :=
  acalls2 (E := env_slices_ContainsFunc_int_pathcomparercompare1) (envOk _ _ _ _ _) 0 Tryz.func83 (by kernel_rfl) h
def env_path_Of : Env := envA [] [] [] [] []
def vc_path_Of (a0 : LL) (a1 : ByteArray) (Q : QD) : Prop :=
  cl f_slices_BinarySearchFunc_Rank_string [.v (.sl t_Rank) (V.l a0), .v .str (V.s a1), .fn f_path_Of_1 []] [] fun r1 H2 => r1 = (.tup [.v (.int .i64) ((r1.parts.headD .undef).V), .v .bool ((r1.parts.tail.headD .undef).V)]) ∧ H2 = [] ∧ iff (!(((r1.parts.tail.headD .undef).V).bool)) ((True ∧ True ∧ True ∧ True) ∧ Q (.agg [.v .str (V.s (ByteArray.mk #[])), .v (.int .i64) (V.i 0), .v (.int .i64) (V.i 0)]) []) (0 ≤ (((r1.parts.headD .undef).V).int) ∧ (((r1.parts.headD .undef).V).int) < a0.length ∧ (True ∧ True ∧ True ∧ True) ∧ Q (.agg [.v .str (((a0.getD ((((r1.parts.headD .undef).V).int)).toNat []).drop 0).headD V.none), .v (.int .i64) ((((a0.getD ((((r1.parts.headD .undef).V).int)).toNat []).drop 0).tail).headD V.none), .v (.int .i64) (((((a0.getD ((((r1.parts.headD .undef).V).int)).toNat []).drop 0).tail).tail).headD V.none)]) [])
theorem C_path_Of (a0 : LL) (a1 : ByteArray) (Q : QD) (h : vc_path_Of a0 a1 Q) : cl f_path_Of [.v (.sl t_Rank) (V.l a0), .v .str (V.s a1)] [] Q :=
  acalls2 (E := env_path_Of) (envOk _ _ _ _ _) 0 Tryz.func86 (by kernel_rfl) h
def env_slices_ContainsFunc_int_pathcomparercompare2 : Env := envA [] [] [] [] []
def vc_slices_ContainsFunc_int_pathcomparercompare2 (a0 h1_0 h1_1 : LL) (h1_2n h1_3n h1_4n : Nat) (h2 h3 h4 : LL) (h5_0 : Int) (Q : QD) : Prop :=
  cl f_slices_IndexFunc_int [.v (.sl t_int) (V.l a0), .fn f_path_comparer_compare_2 [.ptr (.own 0) 0, .ptr (.own 5) 0]] [.cells [.ptr (.own 1) 0], .cells [.v (.sl t_Rank) (V.l h1_0), .v (.sl t_path_node) (V.l h1_1), .osl (.own 2) h1_2n, .osl (.own 3) h1_3n, .osl (.own 4) h1_4n], .row t_path_node h2, .row t_uint8 h3, .row t_uint8 h4, .cells [.v (.int .i64) (V.i h5_0)]] fun r1 H2 => r1 = (.v (.int .i64) (r1.V)) ∧ H2 = [.cells [.ptr (.own 1) 0], .cells [.v (.sl t_Rank) ((((H2.tail.headD .dead).cs).headD .undef).V), .v (.sl t_path_node) (((((H2.tail.headD .dead).cs).tail).headD .undef).V), .osl (.own 2) ((((((H2.tail.headD .dead).cs).tail).tail).headD .undef).len), .osl (.own 3) (((((((H2.tail.headD .dead).cs).tail).tail).tail).headD .undef).len), .osl (.own 4) ((((((((H2.tail.headD .dead).cs).tail).tail).tail).tail).headD .undef).len)], .row t_path_node ((H2.tail.tail.headD .dead).xs), .row t_uint8 ((H2.tail.tail.tail.headD .dead).xs), .row t_uint8 ((H2.tail.tail.tail.tail.headD .dead).xs), .cells [.v (.int .i64) ((((H2.tail.tail.tail.tail.tail.headD .dead).cs).headD .undef).V)]] ∧ True ∧ Q (.v .bool (V.b (decide (r1.V.int ≥ (0 : Int))))) [.cells [.ptr (.own 1) 0], .cells [.v (.sl t_Rank) ((((H2.tail.headD .dead).cs).headD .undef).V), .v (.sl t_path_node) (((((H2.tail.headD .dead).cs).tail).headD .undef).V), .osl (.own 2) ((((((H2.tail.headD .dead).cs).tail).tail).headD .undef).len), .osl (.own 3) (((((((H2.tail.headD .dead).cs).tail).tail).tail).headD .undef).len), .osl (.own 4) ((((((((H2.tail.headD .dead).cs).tail).tail).tail).tail).headD .undef).len)], .row t_path_node ((H2.tail.tail.headD .dead).xs), .row t_uint8 ((H2.tail.tail.tail.headD .dead).xs), .row t_uint8 ((H2.tail.tail.tail.tail.headD .dead).xs), .cells [.v (.int .i64) ((((H2.tail.tail.tail.tail.tail.headD .dead).cs).headD .undef).V)]]
theorem C_slices_ContainsFunc_int_pathcomparercompare2 (a0 h1_0 h1_1 : LL) (h1_2n h1_3n h1_4n : Nat) (h2 h3 h4 : LL) (h5_0 : Int) (Q : QD) (h : vc_slices_ContainsFunc_int_pathcomparercompare2 a0 h1_0 h1_1 h1_2n h1_3n h1_4n h2 h3 h4 h5_0 Q) : cl f_slices_ContainsFunc_int [.v (.sl t_int) (V.l a0), .fn f_path_comparer_compare_2 [.ptr (.own 0) 0, .ptr (.own 5) 0]] [.cells [.ptr (.own 1) 0], .cells [.v (.sl t_Rank) (V.l h1_0), .v (.sl t_path_node) (V.l h1_1), .osl (.own 2) h1_2n, .osl (.own 3) h1_3n, .osl (.own 4) h1_4n], .row t_path_node h2, .row t_uint8 h3, .row t_uint8 h4, .cells [.v (.int .i64) (V.i h5_0)]] Q :=
  acalls2 (E := env_slices_ContainsFunc_int_pathcomparercompare2) (envOk _ _ _ _ _) 0 Tryz.func83 (by kernel_rfl) h
def env_path_comparer_equal : Env := envA [(6, ua 1 2 ((.undef 6) :: ua 12 78 ([.dead 73, .dead 89]))), (3000005, ua 1 2 ((.undef 6) :: ua 12 56 ([.dead 62, .dead 65]))), (3000008, ua 1 2 ((.undef 6) :: (.undef 10) :: ua 12 78 ([.dead 73]))), (3000012, ua 1 2 ((.undef 6) :: ua 8 95 (da 8 2 ([.dead 62, .dead 65, .dead 73, .dead 89]))))] [(3, 17, [], []), (8, 11, [], [])] [] [] [5, 8, 12]
def kl_path_comparer_equal_0 (Q : QD) : Post := blockK 0 (seqJ env_path_comparer_equal (fnAt [1, 1, 0, 1, 0, 1, 1, 1] Tryz.f85) (seqJ env_path_comparer_equal (fnAt [1, 1, 1] Tryz.f85) (endK env_path_comparer_equal Tryz.f85 Q)))
@[irreducible] def jp_path_comparer_equal_1 (Q : QD) (m0 : Nat) (x7 x11 : Int) (y8_0 y8_1 y8_2 y8_3 y9_0 y9_1 y9_2 y9_3 h0_0 h0_1 : V) (h0_2n h0_3n h0_4n : Nat) (h1 h2 h3 : LL) : Prop :=
  joinM (evCode env_path_comparer_equal (fnAt [1, 1, 0, 1, 0, 1, 1, 0, 1, 0, 0, 1] Tryz.f85)) ⟨(.ptr (.own 0) 0) :: un 2 (sk 3 (.undef :: (.v (.int .i64) (V.i x7)) :: (.ptr (.loc 8) 0) :: (.ptr (.loc 9) 0) :: .undef :: (.v (.int .i64) (V.i x11)) :: un 78 (sk 21 ([])))), dd 8 ((.cells [.v .str (y8_0), .v .bool (y8_1), .v (.sl t_Term) (y8_2), .v (.sl t_int) (y8_3)]) :: (.cells [.v .str (y9_0), .v .bool (y9_1), .v (.sl t_Term) (y9_2), .v (.sl t_int) (y9_3)]) :: dd 101 ([]))⟩ [.cells [.v (.sl t_Rank) (h0_0), .v (.sl t_path_node) (h0_1), .osl (.own 1) h0_2n, .osl (.own 2) h0_3n, .osl (.own 3) h0_4n], .row t_path_node h1, .row t_uint8 h2, .row t_uint8 h3] (loopK (adj (env_path_comparer_equal.adj 6)) (iter (adj (env_path_comparer_equal.adj 6)) (evCode env_path_comparer_equal (fnAt [1, 1, 0, 1, 0, 1, 1, 0, 1, 0, 0] Tryz.f85)) (kl_path_comparer_equal_0 Q) m0) (kl_path_comparer_equal_0 Q))
@[irreducible] def jp_path_comparer_equal_2 (Q : QD) (x7 : Int) (h0_0 h0_1 : V) (h0_2n h0_3n h0_4n : Nat) (h1 h2 h3 : LL) : Prop :=
  joinM (evCode env_path_comparer_equal (fnAt [1, 1, 1] Tryz.f85)) ⟨(.ptr (.own 0) 0) :: un 2 (sk 3 (.undef :: (.v (.int .i64) (V.i x7)) :: un 95 (sk 8 ([])))), dd 111 ([])⟩ [.cells [.v (.sl t_Rank) (h0_0), .v (.sl t_path_node) (h0_1), .osl (.own 1) h0_2n, .osl (.own 2) h0_3n, .osl (.own 3) h0_4n], .row t_path_node h1, .row t_uint8 h2, .row t_uint8 h3] (endK env_path_comparer_equal Tryz.f85 Q)
@[irreducible] def lp_path_comparer_equal_0 (Q : QD) (m0 : Nat) (x7 : Int) (x10 : V) (x11 : Int) (y8_0 y8_1 y8_2 y8_3 y9_0 y9_1 y9_2 y9_3 h0_0 h0_1 : V) (h0_2n h0_3n h0_4n : Nat) (h1 h2 h3 : LL) : Prop :=
  iter (adj (env_path_comparer_equal.adj 6)) (evCode env_path_comparer_equal (fnAt [1, 1, 0, 1, 0, 1, 1, 0, 1, 0, 0] Tryz.f85)) (kl_path_comparer_equal_0 Q) m0 ⟨(.ptr (.own 0) 0) :: un 2 (sk 3 (.undef :: (.v (.int .i64) (V.i x7)) :: (.ptr (.loc 8) 0) :: (.ptr (.loc 9) 0) :: (.v .bool (x10)) :: (.v (.int .i64) (V.i x11)) :: un 78 (sk 21 ([])))), dd 8 ((.cells [.v .str (y8_0), .v .bool (y8_1), .v (.sl t_Term) (y8_2), .v (.sl t_int) (y8_3)]) :: (.cells [.v .str (y9_0), .v .bool (y9_1), .v (.sl t_Term) (y9_2), .v (.sl t_int) (y9_3)]) :: dd 101 ([]))⟩ [.cells [.v (.sl t_Rank) (h0_0), .v (.sl t_path_node) (h0_1), .osl (.own 1) h0_2n, .osl (.own 2) h0_3n, .osl (.own 3) h0_4n], .row t_path_node h1, .row t_uint8 h2, .row t_uint8 h3]
@[irreducible] def jp_path_comparer_equal_0 (Q : QD) (x7 : Int) (x10 : Bool) (y8_0 y8_1 y8_2 y8_3 y9_0 y9_1 y9_2 y9_3 : V) (h0_0 h0_1 : LL) (h0_2n h0_3n h0_4n : Nat) (h1 h2 h3 : LL) : Prop :=
  joinM (evCode env_path_comparer_equal (fnAt [1, 1, 0, 1, 0, 1, 1] Tryz.f85)) ⟨(.ptr (.own 0) 0) :: un 2 (sk 3 (.undef :: (.v (.int .i64) (V.i x7)) :: (.ptr (.loc 8) 0) :: (.ptr (.loc 9) 0) :: (.v .bool (V.b x10)) :: .skip :: un 56 (sk 43 ([])))), dd 8 ((.cells [.v .str (y8_0), .v .bool (y8_1), .v (.sl t_Term) (y8_2), .v (.sl t_int) (y8_3)]) :: (.cells [.v .str (y9_0), .v .bool (y9_1), .v (.sl t_Term) (y9_2), .v (.sl t_int) (y9_3)]) :: dd 101 ([]))⟩ [.cells [.v (.sl t_Rank) (V.l h0_0), .v (.sl t_path_node) (V.l h0_1), .osl (.own 1) h0_2n, .osl (.own 2) h0_3n, .osl (.own 3) h0_4n], .row t_path_node h1, .row t_uint8 h2, .row t_uint8 h3] (seqJ env_path_comparer_equal (fnAt [1, 1, 1] Tryz.f85) (endK env_path_comparer_equal Tryz.f85 Q))
def je_path_comparer_equal_1 (Q : QD) (m0 : Nat) (x7 x11 : Int) (y8_0 y8_1 y8_2 y8_3 y9_0 y9_1 y9_2 y9_3 h0_0 h0_1 : V) (h0_2n h0_3n h0_4n : Nat) (h1 h2 h3 : LL) : Prop :=
  0 ≤ x11 ∧ x11 < y8_3.list.length ∧ 0 ≤ x11 ∧ x11 < y9_3.list.length ∧ cl f_path_comparer_equal [.ptr (.own 0) 0, .v (.int .i64) (((y8_3.list.getD x11.toNat []).drop 0).headD V.none), .v (.int .i64) (((y9_3.list.getD x11.toNat []).drop 0).headD V.none)] [.cells [.v (.sl t_Rank) (h0_0), .v (.sl t_path_node) (h0_1), .osl (.own 1) h0_2n, .osl (.own 2) h0_3n, .osl (.own 3) h0_4n], .row t_path_node h1, .row t_uint8 h2, .row t_uint8 h3] fun r1 H2 => r1 = (.v .bool (r1.V)) ∧ H2 = [.cells [.v (.sl t_Rank) ((((H2.headD .dead).cs).headD .undef).V), .v (.sl t_path_node) (((((H2.headD .dead).cs).tail).headD .undef).V), .osl (.own 1) ((((((H2.headD .dead).cs).tail).tail).headD .undef).len), .osl (.own 2) (((((((H2.headD .dead).cs).tail).tail).tail).headD .undef).len), .osl (.own 3) ((((((((H2.headD .dead).cs).tail).tail).tail).tail).headD .undef).len)], .row t_path_node ((H2.tail.headD .dead).xs), .row t_uint8 ((H2.tail.tail.headD .dead).xs), .row t_uint8 ((H2.tail.tail.tail.headD .dead).xs)] ∧ lp_path_comparer_equal_0 Q m0 x7 r1.V (IntKind.i64.wrap (x11 + (1 : Int))) y8_0 y8_1 y8_2 y8_3 y9_0 y9_1 y9_2 y9_3 ((((H2.headD .dead).cs).headD .undef).V) (((((H2.headD .dead).cs).tail).headD .undef).V) ((((((H2.headD .dead).cs).tail).tail).headD .undef).len) (((((((H2.headD .dead).cs).tail).tail).tail).headD .undef).len) ((((((((H2.headD .dead).cs).tail).tail).tail).tail).headD .undef).len) ((H2.tail.headD .dead).xs) ((H2.tail.tail.headD .dead).xs) ((H2.tail.tail.tail.headD .dead).xs)
theorem jp_path_comparer_equal_1_s (Q : QD) (m0 : Nat) (x7 x11 : Int) (y8_0 y8_1 y8_2 y8_3 y9_0 y9_1 y9_2 y9_3 h0_0 h0_1 : V) (h0_2n h0_3n h0_4n : Nat) (h1 h2 h3 : LL) : jp_path_comparer_equal_1 Q m0 x7 x11 y8_0 y8_1 y8_2 y8_3 y9_0 y9_1 y9_2 y9_3 h0_0 h0_1 h0_2n h0_3n h0_4n h1 h2 h3 = je_path_comparer_equal_1 Q m0 x7 x11 y8_0 y8_1 y8_2 y8_3 y9_0 y9_1 y9_2 y9_3 h0_0 h0_1 h0_2n h0_3n h0_4n h1 h2 h3 := by kernel_rfl
def je_path_comparer_equal_2 (Q : QD) (x7 : Int) (h0_0 h0_1 : V) (h0_2n h0_3n h0_4n : Nat) (h1 h2 h3 : LL) : Prop :=
  h3.length = h0_4n ∧ 0 ≤ x7 ∧ x7 < h0_4n ∧ h3.length = h0_4n ∧ x7.toNat < h0_4n ∧ True ∧ Q (.v .bool (V.b (((((h3.getD x7.toNat []).drop 0).headD V.none).int) == (1 : Int)))) [.cells [.v (.sl t_Rank) (h0_0), .v (.sl t_path_node) (h0_1), .osl (.own 1) h0_2n, .osl (.own 2) h0_3n, .osl (.own 3) h0_4n], .row t_path_node h1, .row t_uint8 h2, .row t_uint8 h3]
theorem jp_path_comparer_equal_2_s (Q : QD) (x7 : Int) (h0_0 h0_1 : V) (h0_2n h0_3n h0_4n : Nat) (h1 h2 h3 : LL) : jp_path_comparer_equal_2 Q x7 h0_0 h0_1 h0_2n h0_3n h0_4n h1 h2 h3 = je_path_comparer_equal_2 Q x7 h0_0 h0_1 h0_2n h0_3n h0_4n h1 h2 h3 := by kernel_rfl
def st_path_comparer_equal_0 (Q : QD) (m0 : Nat) (x7 : Int) (x10 : V) (x11 : Int) (y8_0 y8_1 y8_2 y8_3 y9_0 y9_1 y9_2 y9_3 h0_0 h0_1 : V) (h0_2n h0_3n h0_4n : Nat) (h1 h2 h3 : LL) : Prop :=
  iff x10.bool ((y8_3.list.length ≤ big → iff (decide (x11 < ((y8_3.list.length : Int)))) (jp_path_comparer_equal_1 Q m0 x7 x11 y8_0 y8_1 y8_2 y8_3 y9_0 y9_1 y9_2 y9_3 h0_0 h0_1 h0_2n h0_3n h0_4n h1 h2 h3) (h3.length = h0_4n ∧ 0 ≤ x7 ∧ x7 < h0_4n ∧ h3.length = h0_4n ∧ x7.toNat < h0_4n ∧ iff x10.bool ((h3.set x7.toNat (setV (h3.getD x7.toNat []) 0 [V.i 2])).length = h0_4n ∧ 0 ≤ x7 ∧ x7 < h0_4n ∧ (h3.set x7.toNat (setV (h3.getD x7.toNat []) 0 [V.i 2])).length = h0_4n ∧ x7.toNat < h0_4n ∧ jp_path_comparer_equal_2 Q x7 h0_0 h0_1 h0_2n h0_3n h0_4n h1 h2 ((h3.set x7.toNat (setV (h3.getD x7.toNat []) 0 [V.i 2])).set x7.toNat (setV ((h3.set x7.toNat (setV (h3.getD x7.toNat []) 0 [V.i 2])).getD x7.toNat []) 0 [V.i 1]))) (jp_path_comparer_equal_2 Q x7 h0_0 h0_1 h0_2n h0_3n h0_4n h1 h2 (h3.set x7.toNat (setV (h3.getD x7.toNat []) 0 [V.i 2])))))) (h3.length = h0_4n ∧ 0 ≤ x7 ∧ x7 < h0_4n ∧ h3.length = h0_4n ∧ x7.toNat < h0_4n ∧ iff x10.bool ((h3.set x7.toNat (setV (h3.getD x7.toNat []) 0 [V.i 2])).length = h0_4n ∧ 0 ≤ x7 ∧ x7 < h0_4n ∧ (h3.set x7.toNat (setV (h3.getD x7.toNat []) 0 [V.i 2])).length = h0_4n ∧ x7.toNat < h0_4n ∧ jp_path_comparer_equal_2 Q x7 h0_0 h0_1 h0_2n h0_3n h0_4n h1 h2 ((h3.set x7.toNat (setV (h3.getD x7.toNat []) 0 [V.i 2])).set x7.toNat (setV ((h3.set x7.toNat (setV (h3.getD x7.toNat []) 0 [V.i 2])).getD x7.toNat []) 0 [V.i 1]))) (jp_path_comparer_equal_2 Q x7 h0_0 h0_1 h0_2n h0_3n h0_4n h1 h2 (h3.set x7.toNat (setV (h3.getD x7.toNat []) 0 [V.i 2]))))
theorem lp_path_comparer_equal_0_s (Q : QD) (m0 : Nat) (x7 : Int) (x10 : V) (x11 : Int) (y8_0 y8_1 y8_2 y8_3 y9_0 y9_1 y9_2 y9_3 h0_0 h0_1 : V) (h0_2n h0_3n h0_4n : Nat) (h1 h2 h3 : LL) : lp_path_comparer_equal_0 Q (m0 + 1) x7 x10 x11 y8_0 y8_1 y8_2 y8_3 y9_0 y9_1 y9_2 y9_3 h0_0 h0_1 h0_2n h0_3n h0_4n h1 h2 h3 = st_path_comparer_equal_0 Q m0 x7 x10 x11 y8_0 y8_1 y8_2 y8_3 y9_0 y9_1 y9_2 y9_3 h0_0 h0_1 h0_2n h0_3n h0_4n h1 h2 h3 := by kernel_rfl
theorem rule_path_comparer_equal_0 (Q : QD) : RuleG19 (lp_path_comparer_equal_0 Q) (st_path_comparer_equal_0 Q) := ruleG19 _ _ (lp_path_comparer_equal_0_s Q)
def je_path_comparer_equal_0 (Q : QD) (x7 : Int) (x10 : Bool) (y8_0 y8_1 y8_2 y8_3 y9_0 y9_1 y9_2 y9_3 : V) (h0_0 h0_1 : LL) (h0_2n h0_3n h0_4n : Nat) (h1 h2 h3 : LL) : Prop :=
  ∃ m0, lp_path_comparer_equal_0 Q m0 x7 (V.b x10) 0 y8_0 y8_1 y8_2 y8_3 y9_0 y9_1 y9_2 y9_3 (V.l h0_0) (V.l h0_1) h0_2n h0_3n h0_4n h1 h2 h3
theorem jp_path_comparer_equal_0_s (Q : QD) (x7 : Int) (x10 : Bool) (y8_0 y8_1 y8_2 y8_3 y9_0 y9_1 y9_2 y9_3 : V) (h0_0 h0_1 : LL) (h0_2n h0_3n h0_4n : Nat) (h1 h2 h3 : LL) : jp_path_comparer_equal_0 Q x7 x10 y8_0 y8_1 y8_2 y8_3 y9_0 y9_1 y9_2 y9_3 h0_0 h0_1 h0_2n h0_3n h0_4n h1 h2 h3 = je_path_comparer_equal_0 Q x7 x10 y8_0 y8_1 y8_2 y8_3 y9_0 y9_1 y9_2 y9_3 h0_0 h0_1 h0_2n h0_3n h0_4n h1 h2 h3 := by kernel_rfl
def vc_path_comparer_equal (a1 a2 : Int) (h0_0 h0_1 : LL) (h0_2n h0_3n h0_4n : Nat) (h1 h2 h3 : LL) (Q : QD) : Prop :=
  h1.length = h0_2n ∧ (h0_2n ≤ big → h3.length = h0_4n ∧ 0 ≤ (IntKind.i64.wrap ((IntKind.i64.wrap (a1 * (((h0_2n : Nat) : Int)))) + a2)) ∧ (IntKind.i64.wrap ((IntKind.i64.wrap (a1 * (((h0_2n : Nat) : Int)))) + a2)) < h0_4n ∧ h3.length = h0_4n ∧ ((IntKind.i64.wrap ((IntKind.i64.wrap (a1 * (((h0_2n : Nat) : Int)))) + a2))).toNat < h0_4n ∧ iff (((((h3.getD (((IntKind.i64.wrap ((IntKind.i64.wrap (a1 * (((h0_2n : Nat) : Int)))) + a2))).toNat) []).drop 0).headD V.none).int) == (0 : Int)) (0 ≤ a1 ∧ a1 < h0_1.length ∧ h1.length = h0_2n ∧ 0 ≤ a2 ∧ a2 < h0_2n ∧ h1.length = h0_2n ∧ a2.toNat < h0_2n ∧ iff ((((((h0_1.getD a1.toNat []).drop 0).tail).headD V.none).bool) == (((((h1.getD a2.toNat []).drop 0).tail).headD V.none).bool)) (iff (((((h0_1.getD a1.toNat []).drop 0).headD V.none).str).toList == ((((h1.getD a2.toNat []).drop 0).headD V.none).str).toList) (((((((((h0_1.getD a1.toNat []).drop 0).tail).tail).tail).headD V.none).list).length ≤ big → ((((((((h1.getD a2.toNat []).drop 0).tail).tail).tail).headD V.none).list).length ≤ big → jp_path_comparer_equal_0 Q (IntKind.i64.wrap ((IntKind.i64.wrap (a1 * (((h0_2n : Nat) : Int)))) + a2)) ((((((((((h0_1.getD a1.toNat []).drop 0).tail).tail).tail).headD V.none).list).length : Int)) == (((((((((h1.getD a2.toNat []).drop 0).tail).tail).tail).headD V.none).list).length : Int))) (((h0_1.getD a1.toNat []).drop 0).headD V.none) ((((h0_1.getD a1.toNat []).drop 0).tail).headD V.none) (((((h0_1.getD a1.toNat []).drop 0).tail).tail).headD V.none) ((((((h0_1.getD a1.toNat []).drop 0).tail).tail).tail).headD V.none) (((h1.getD a2.toNat []).drop 0).headD V.none) ((((h1.getD a2.toNat []).drop 0).tail).headD V.none) (((((h1.getD a2.toNat []).drop 0).tail).tail).headD V.none) ((((((h1.getD a2.toNat []).drop 0).tail).tail).tail).headD V.none) h0_0 h0_1 h0_2n h0_3n h0_4n h1 h2 h3))) (jp_path_comparer_equal_0 Q (IntKind.i64.wrap ((IntKind.i64.wrap (a1 * (((h0_2n : Nat) : Int)))) + a2)) false (((h0_1.getD a1.toNat []).drop 0).headD V.none) ((((h0_1.getD a1.toNat []).drop 0).tail).headD V.none) (((((h0_1.getD a1.toNat []).drop 0).tail).tail).headD V.none) ((((((h0_1.getD a1.toNat []).drop 0).tail).tail).tail).headD V.none) (((h1.getD a2.toNat []).drop 0).headD V.none) ((((h1.getD a2.toNat []).drop 0).tail).headD V.none) (((((h1.getD a2.toNat []).drop 0).tail).tail).headD V.none) ((((((h1.getD a2.toNat []).drop 0).tail).tail).tail).headD V.none) h0_0 h0_1 h0_2n h0_3n h0_4n h1 h2 h3)) (jp_path_comparer_equal_0 Q (IntKind.i64.wrap ((IntKind.i64.wrap (a1 * (((h0_2n : Nat) : Int)))) + a2)) false (((h0_1.getD a1.toNat []).drop 0).headD V.none) ((((h0_1.getD a1.toNat []).drop 0).tail).headD V.none) (((((h0_1.getD a1.toNat []).drop 0).tail).tail).headD V.none) ((((((h0_1.getD a1.toNat []).drop 0).tail).tail).tail).headD V.none) (((h1.getD a2.toNat []).drop 0).headD V.none) ((((h1.getD a2.toNat []).drop 0).tail).headD V.none) (((((h1.getD a2.toNat []).drop 0).tail).tail).headD V.none) ((((((h1.getD a2.toNat []).drop 0).tail).tail).tail).headD V.none) h0_0 h0_1 h0_2n h0_3n h0_4n h1 h2 h3)) (jp_path_comparer_equal_2 Q (IntKind.i64.wrap ((IntKind.i64.wrap (a1 * (((h0_2n : Nat) : Int)))) + a2)) (V.l h0_0) (V.l h0_1) h0_2n h0_3n h0_4n h1 h2 h3))
theorem C_path_comparer_equal (a1 a2 : Int) (h0_0 h0_1 : LL) (h0_2n h0_3n h0_4n : Nat) (h1 h2 h3 : LL) (Q : QD) (h : vc_path_comparer_equal a1 a2 h0_0 h0_1 h0_2n h0_3n h0_4n h1 h2 h3 Q) : cl f_path_comparer_equal [.ptr (.own 0) 0, .v (.int .i64) (V.i a1), .v (.int .i64) (V.i a2)] [.cells [.v (.sl t_Rank) (V.l h0_0), .v (.sl t_path_node) (V.l h0_1), .osl (.own 1) h0_2n, .osl (.own 2) h0_3n, .osl (.own 3) h0_4n], .row t_path_node h1, .row t_uint8 h2, .row t_uint8 h3] Q :=
  acalls2 (E := env_path_comparer_equal) (envOk _ _ _ _ _) 0 Tryz.func85 (by kernel_rfl) h
def env_r01_letter : Env := envA [] [] [] [] []
def vc_r01_letter (a0 : Int) (Q : QD) : Prop :=
  iff (decide (a0 ≥ (65 : Int))) (iff (decide (a0 ≤ (90 : Int))) (True ∧ Q (.v .bool (V.b true)) []) (iff (decide (a0 ≥ (97 : Int))) (iff (decide (a0 ≤ (122 : Int))) (True ∧ Q (.v .bool (V.b true)) []) (iff (decide (a0 ≥ (48 : Int))) (iff (decide (a0 ≤ (57 : Int))) (True ∧ Q (.v .bool (V.b true)) []) (iff (a0 == (95 : Int)) (True ∧ Q (.v .bool (V.b true)) []) (True ∧ Q (.v .bool (V.b (a0 == (39 : Int)))) []))) (iff (a0 == (95 : Int)) (True ∧ Q (.v .bool (V.b true)) []) (True ∧ Q (.v .bool (V.b (a0 == (39 : Int)))) [])))) (iff (decide (a0 ≥ (48 : Int))) (iff (decide (a0 ≤ (57 : Int))) (True ∧ Q (.v .bool (V.b true)) []) (iff (a0 == (95 : Int)) (True ∧ Q (.v .bool (V.b true)) []) (True ∧ Q (.v .bool (V.b (a0 == (39 : Int)))) []))) (iff (a0 == (95 : Int)) (True ∧ Q (.v .bool (V.b true)) []) (True ∧ Q (.v .bool (V.b (a0 == (39 : Int)))) []))))) (iff (decide (a0 ≥ (97 : Int))) (iff (decide (a0 ≤ (122 : Int))) (True ∧ Q (.v .bool (V.b true)) []) (iff (decide (a0 ≥ (48 : Int))) (iff (decide (a0 ≤ (57 : Int))) (True ∧ Q (.v .bool (V.b true)) []) (iff (a0 == (95 : Int)) (True ∧ Q (.v .bool (V.b true)) []) (True ∧ Q (.v .bool (V.b (a0 == (39 : Int)))) []))) (iff (a0 == (95 : Int)) (True ∧ Q (.v .bool (V.b true)) []) (True ∧ Q (.v .bool (V.b (a0 == (39 : Int)))) [])))) (iff (decide (a0 ≥ (48 : Int))) (iff (decide (a0 ≤ (57 : Int))) (True ∧ Q (.v .bool (V.b true)) []) (iff (a0 == (95 : Int)) (True ∧ Q (.v .bool (V.b true)) []) (True ∧ Q (.v .bool (V.b (a0 == (39 : Int)))) []))) (iff (a0 == (95 : Int)) (True ∧ Q (.v .bool (V.b true)) []) (True ∧ Q (.v .bool (V.b (a0 == (39 : Int)))) []))))
theorem C_r01_letter (a0 : Int) (Q : QD) (h : vc_r01_letter a0 Q) : cl f_r01_letter [.v (.int .u8) (V.i a0)] [] Q :=
  acalls2 (E := env_r01_letter) (envOk _ _ _ _ _) 0 Tryz.func88 (by kernel_rfl) h
def env_term_formed : Env := envA [] [] [] [] []
def vc_term_formed (a0_0 : ByteArray) (a0_1 : Bool) (a0_2 : LL) (Q : QD) : Prop :=
  iff a0_1 ((a0_2.length ≤ big → iff (((a0_2.length : Int)) == (0 : Int)) (cl f_term_IsName [.v .str (V.s a0_0), .v .bool (V.b false)] [] fun r1 H2 => r1 = (.v .bool (r1.V)) ∧ H2 = [] ∧ True ∧ Q (.v .bool (r1.V)) []) (True ∧ Q (.v .bool (V.b false)) []))) ((a0_2.length ≤ big → iff (decide (((a0_2.length : Int)) ≤ (8 : Int))) (cl f_term_IsName [.v .str (V.s a0_0), .v .bool (V.b true)] [] fun r3 H4 => r3 = (.v .bool (r3.V)) ∧ H4 = [] ∧ iff r3.V.bool (cl f_slices_ContainsFunc_Term [.v (.sl t_Term) (V.l a0_2), .fn f_term_formed_1 []] [] fun r5 H6 => r5 = (.v .bool (r5.V)) ∧ H6 = [] ∧ True ∧ Q (.v .bool (V.b (!r5.V.bool))) []) (True ∧ Q (.v .bool (V.b false)) [])) (True ∧ Q (.v .bool (V.b false)) [])))
theorem C_term_formed (a0_0 : ByteArray) (a0_1 : Bool) (a0_2 : LL) (Q : QD) (h : vc_term_formed a0_0 a0_1 a0_2 Q) : cl f_term_formed [.agg [.v .str (V.s a0_0), .v .bool (V.b a0_1), .v (.sl t_Term) (V.l a0_2)]] [] Q :=
  acalls2 (E := env_term_formed) (envOk _ _ _ _ _) 0 Tryz.func90 (by kernel_rfl) h
end Go.Proofs.YtehchnjnbbnkbaaGreat
set_option linter.unusedVariables false
set_option maxRecDepth 100000
namespace Go.Proofs.YtehchnjnbbnkbaaGreat
open Go.Abs
def env_term_fits : Env := envA [] [] [] [] []
def vc_term_fits (a0_0 : ByteArray) (a0_1 : Bool) (a0_2 : LL) (Q : QD) : Prop :=
  cl f_term_Size [.agg [.v .str (V.s a0_0), .v .bool (V.b a0_1), .v (.sl t_Term) (V.l a0_2)]] [] fun r1 H2 => r1 = (.v (.int .i64) (r1.V)) ∧ H2 = [] ∧ iff (decide (r1.V.int ≤ (4000 : Int))) (cl f_term_Depth [.agg [.v .str (V.s a0_0), .v .bool (V.b a0_1), .v (.sl t_Term) (V.l a0_2)]] [] fun r3 H4 => r3 = (.v (.int .i64) (r3.V)) ∧ H4 = [] ∧ True ∧ Q (.v .bool (V.b (decide (r3.V.int ≤ (200 : Int))))) []) (True ∧ Q (.v .bool (V.b false)) [])
theorem C_term_fits (a0_0 : ByteArray) (a0_1 : Bool) (a0_2 : LL) (Q : QD) (h : vc_term_fits a0_0 a0_1 a0_2 Q) : cl f_term_fits [.agg [.v .str (V.s a0_0), .v .bool (V.b a0_1), .v (.sl t_Term) (V.l a0_2)]] [] Q :=
  acalls2 (E := env_term_fits) (envOk _ _ _ _ _) 0 Tryz.func91 (by kernel_rfl) h
def env_r03_match : Env := envA [(8, ua 1 2 (ua 6 7 (ua 29 20 (ua 51 21 ([.dead 65]))))), (3000007, ua 1 2 (ua 6 2 (ua 11 2 (ua 29 18 ([.dead 41, .dead 44])))))] [(3, 6, [0], []), (10, 16, [], [])] [] [] [7]
def kl_r03_match_0 (Q : QD) : Post := blockK 0 (seqJ env_r03_match (fnAt [1, 1, 1, 1] Tryz.f92) (endK env_r03_match Tryz.f92 Q))
@[irreducible] def lp_r03_match_0 (Q : QD) (m0 : Nat) (x0 : V) (x49 x50 : Int) (y4_0 : ByteArray) (y4_1 : Bool) (y4_2 : LL) (y5_0 : ByteArray) (y5_1 : Bool) (y5_2 : LL) : Prop :=
  iter (adj (env_r03_match.adj 8)) (evCode env_r03_match (fnAt [1, 1, 1, 0, 1, 0, 0] Tryz.f92)) (kl_r03_match_0 Q) m0 ⟨(.v (.sl t_Bind) (x0)) :: un 2 (.skip :: (.ptr (.loc 4) 0) :: (.ptr (.loc 5) 0) :: un 7 (sk 16 (un 20 ((.v (.int .i64) (V.i x49)) :: (.v (.int .i64) (V.i x50)) :: un 21 ([.skip]))))), dd 4 ((.cells [.v .str (V.s y4_0), .v .bool (V.b y4_1), .v (.sl t_Term) (V.l y4_2)]) :: (.cells [.v .str (V.s y5_0), .v .bool (V.b y5_1), .v (.sl t_Term) (V.l y5_2)]) :: dd 67 ([]))⟩ []
@[irreducible] def jp_r03_match_0 (Q : QD) (x0 : LL) (y4_0 : ByteArray) (y4_1 : Bool) (y4_2 : LL) (y5_0 : ByteArray) (y5_1 : Bool) (y5_2 : LL) : Prop :=
  joinM (evCode env_r03_match (fnAt [1, 1, 1] Tryz.f92)) ⟨(.v (.sl t_Bind) (V.l x0)) :: un 2 (.skip :: (.ptr (.loc 4) 0) :: (.ptr (.loc 5) 0) :: un 2 (sk 3 (un 2 (sk 16 (un 18 (sk 26 ([]))))))), dd 4 ((.cells [.v .str (V.s y4_0), .v .bool (V.b y4_1), .v (.sl t_Term) (V.l y4_2)]) :: (.cells [.v .str (V.s y5_0), .v .bool (V.b y5_1), .v (.sl t_Term) (V.l y5_2)]) :: dd 67 ([]))⟩ [] (endK env_r03_match Tryz.f92 Q)
def st_r03_match_0 (Q : QD) (m0 : Nat) (x0 : V) (x49 x50 : Int) (y4_0 : ByteArray) (y4_1 : Bool) (y4_2 : LL) (y5_0 : ByteArray) (y5_1 : Bool) (y5_2 : LL) : Prop :=
  iff (decide (x50 < x49)) (0 ≤ x50 ∧ x50 < y4_2.length ∧ 0 ≤ x50 ∧ x50 < y5_2.length ∧ (∃ r1 : D, cl f_r03_match [.v (.sl t_Bind) (x0), .agg [.v .str (((y4_2.getD x50.toNat []).drop 0).headD V.none), .v .bool ((((y4_2.getD x50.toNat []).drop 0).tail).headD V.none), .v (.sl t_Term) (((((y4_2.getD x50.toNat []).drop 0).tail).tail).headD V.none)], .agg [.v .str (((y5_2.getD x50.toNat []).drop 0).headD V.none), .v .bool ((((y5_2.getD x50.toNat []).drop 0).tail).headD V.none), .v (.sl t_Term) (((((y5_2.getD x50.toNat []).drop 0).tail).tail).headD V.none)]] [] (fun r H' => r = (.tup [.v (.sl t_Bind) ((r1.parts.headD .undef).V), .v .bool ((r1.parts.tail.headD .undef).V)]) ∧ H' = []) ∧ iff (!(((r1.parts.tail.headD .undef).V).bool)) ((True ∧ True ∧ True) ∧ Q (.tup [.nil, .v .bool (V.b false)]) []) (lp_r03_match_0 Q m0 ((r1.parts.headD .undef).V) x49 (IntKind.i64.wrap (x50 + (1 : Int))) y4_0 y4_1 y4_2 y5_0 y5_1 y5_2))) ((True ∧ True ∧ True) ∧ Q (.tup [.v (.sl t_Bind) (x0), .v .bool (V.b true)]) [])
theorem lp_r03_match_0_s (Q : QD) (m0 : Nat) (x0 : V) (x49 x50 : Int) (y4_0 : ByteArray) (y4_1 : Bool) (y4_2 : LL) (y5_0 : ByteArray) (y5_1 : Bool) (y5_2 : LL) : lp_r03_match_0 Q (m0 + 1) x0 x49 x50 y4_0 y4_1 y4_2 y5_0 y5_1 y5_2 = st_r03_match_0 Q m0 x0 x49 x50 y4_0 y4_1 y4_2 y5_0 y5_1 y5_2 := by kernel_rfl
theorem range_r03_match_0 (Q : QD) (y4_0 : ByteArray) (y4_1 : Bool) (y4_2 : LL) (y5_0 : ByteArray) (y5_1 : Bool) (y5_2 : LL) (n : Nat) (hb : n ≤ big) (J : Nat → V → Prop)
    (step : ∀ (k : Nat) (x0 : V), k < n → J k x0 → ∀ K : V → Prop, (∀ (x0' : V), J (k + 1) x0' → K x0') → (0 ≤ (k : Int) ∧ (k : Int) < y4_2.length ∧ 0 ≤ (k : Int) ∧ (k : Int) < y5_2.length ∧ (∃ r1 : D, cl f_r03_match [.v (.sl t_Bind) (x0), .agg [.v .str (((y4_2.getD k []).drop 0).headD V.none), .v .bool ((((y4_2.getD k []).drop 0).tail).headD V.none), .v (.sl t_Term) (((((y4_2.getD k []).drop 0).tail).tail).headD V.none)], .agg [.v .str (((y5_2.getD k []).drop 0).headD V.none), .v .bool ((((y5_2.getD k []).drop 0).tail).headD V.none), .v (.sl t_Term) (((((y5_2.getD k []).drop 0).tail).tail).headD V.none)]] [] (fun r H' => r = (.tup [.v (.sl t_Bind) ((r1.parts.headD .undef).V), .v .bool ((r1.parts.tail.headD .undef).V)]) ∧ H' = []) ∧ iff (!(((r1.parts.tail.headD .undef).V).bool)) ((True ∧ True ∧ True) ∧ Q (.tup [.nil, .v .bool (V.b false)]) []) (K ((r1.parts.headD .undef).V)))))
    (last : ∀ (x0 : V), J n x0 → ((True ∧ True ∧ True) ∧ Q (.tup [.v (.sl t_Bind) (x0), .v .bool (V.b true)]) []))
    (k : Nat) (x0 : V) (le0 : k ≤ n) (hj : J k x0) : ∃ m0, lp_r03_match_0 Q m0 x0 (n : Int) ((k : Int)) y4_0 y4_1 y4_2 y5_0 y5_1 y5_2 := by
  exact rangeG1 n hb J (fun m0 i x0 => lp_r03_match_0 Q m0 x0 (n : Int) i y4_0 y4_1 y4_2 y5_0 y5_1 y5_2) (fun m0 i x0 => lp_r03_match_0_s Q m0 x0 (n : Int) i y4_0 y4_1 y4_2 y5_0 y5_1 y5_2) (fun k x0 hl_ hj_ m_ ih_ => step k x0 hl_ hj_ _ ih_) last k x0 le0 hj
def je_r03_match_0 (Q : QD) (x0 : LL) (y4_0 : ByteArray) (y4_1 : Bool) (y4_2 : LL) (y5_0 : ByteArray) (y5_1 : Bool) (y5_2 : LL) : Prop :=
  (y5_2.length ≤ big → ∃ m0, lp_r03_match_0 Q m0 (V.l x0) ((y5_2.length : Int)) 0 y4_0 y4_1 y4_2 y5_0 y5_1 y5_2)
theorem jp_r03_match_0_s (Q : QD) (x0 : LL) (y4_0 : ByteArray) (y4_1 : Bool) (y4_2 : LL) (y5_0 : ByteArray) (y5_1 : Bool) (y5_2 : LL) : jp_r03_match_0 Q x0 y4_0 y4_1 y4_2 y5_0 y5_1 y5_2 = je_r03_match_0 Q x0 y4_0 y4_1 y4_2 y5_0 y5_1 y5_2 := by kernel_rfl
def vc_r03_match (a0 : LL) (a1_0 : ByteArray) (a1_1 : Bool) (a1_2 : LL) (a2_0 : ByteArray) (a2_1 : Bool) (a2_2 : LL) (Q : QD) : Prop :=
  iff a1_1 (cl f_r03_Bound [.v (.sl t_Bind) (V.l a0), .v .str (V.s a1_0)] [] fun r1 H2 => r1 = (.v .bool (r1.V)) ∧ H2 = [] ∧ iff r1.V.bool ((∃ r3 : D, cl f_r01_Image [.v (.sl t_Bind) (V.l a0), .v .str (V.s a1_0)] [] (fun r H' => r = (.agg [.v .str ((r3.cells.headD .undef).V), .v .bool ((r3.cells.tail.headD .undef).V), .v (.sl t_Term) ((r3.cells.tail.tail.headD .undef).V)]) ∧ H' = []) ∧ cl f_r01_Equal [.agg [.v .str ((r3.cells.headD .undef).V), .v .bool ((r3.cells.tail.headD .undef).V), .v (.sl t_Term) ((r3.cells.tail.tail.headD .undef).V)], .agg [.v .str (V.s a2_0), .v .bool (V.b a2_1), .v (.sl t_Term) (V.l a2_2)]] [] fun r4 H5 => r4 = (.v .bool (r4.V)) ∧ H5 = [] ∧ (True ∧ True ∧ True) ∧ Q (.tup [.v (.sl t_Bind) (V.l a0), .v .bool (r4.V)]) [])) (cl f_r03_with [.v (.sl t_Bind) (V.l a0), .v .str (V.s a1_0), .agg [.v .str (V.s a2_0), .v .bool (V.b a2_1), .v (.sl t_Term) (V.l a2_2)]] [] fun r6 H7 => r6 = (.v (.sl t_Bind) (r6.V)) ∧ H7 = [] ∧ (True ∧ True ∧ True) ∧ Q (.tup [.v (.sl t_Bind) (r6.V), .v .bool (V.b true)]) [])) (iff a2_1 ((True ∧ True ∧ True) ∧ Q (.tup [.nil, .v .bool (V.b false)]) []) (iff (!(a2_0.toList == a1_0.toList)) ((True ∧ True ∧ True) ∧ Q (.tup [.nil, .v .bool (V.b false)]) []) ((a2_2.length ≤ big → (a1_2.length ≤ big → iff (((a2_2.length : Int)) != ((a1_2.length : Int))) ((True ∧ True ∧ True) ∧ Q (.tup [.nil, .v .bool (V.b false)]) []) (jp_r03_match_0 Q a0 a1_0 a1_1 a1_2 a2_0 a2_1 a2_2))))))
theorem C_r03_match (a0 : LL) (a1_0 : ByteArray) (a1_1 : Bool) (a1_2 : LL) (a2_0 : ByteArray) (a2_1 : Bool) (a2_2 : LL) (Q : QD) (h : vc_r03_match a0 a1_0 a1_1 a1_2 a2_0 a2_1 a2_2 Q) : cl f_r03_match [.v (.sl t_Bind) (V.l a0), .agg [.v .str (V.s a1_0), .v .bool (V.b a1_1), .v (.sl t_Term) (V.l a1_2)], .agg [.v .str (V.s a2_0), .v .bool (V.b a2_1), .v (.sl t_Term) (V.l a2_2)]] [] Q :=
  acalls2 (E := env_r03_match) (envOk _ _ _ _ _) 0 Tryz.func92 (by kernel_rfl) h
def env_stringslite_TrimSuffix : Env := envA [] [] [] [] []
def vc_stringslite_TrimSuffix (a0 a1 : ByteArray) (Q : QD) : Prop :=
  cl f_stringslite_HasSuffix [.v .str (V.s a0), .v .str (V.s a1)] [] fun r1 H2 => r1 = (.v .bool (r1.V)) ∧ H2 = [] ∧ iff r1.V.bool ((a0.size ≤ big → (a1.size ≤ big → 0 ≤ (0 : Int) ∧ (0 : Int) ≤ (IntKind.i64.wrap (((a0.size : Int)) - ((a1.size : Int)))) ∧ (IntKind.i64.wrap (((a0.size : Int)) - ((a1.size : Int)))) ≤ a0.size ∧ True ∧ Q (.v .str (V.s (a0.extract (0 : Int).toNat ((IntKind.i64.wrap (((a0.size : Int)) - ((a1.size : Int))))).toNat))) []))) (True ∧ Q (.v .str (V.s a0)) [])
theorem C_stringslite_TrimSuffix (a0 a1 : ByteArray) (Q : QD) (h : vc_stringslite_TrimSuffix a0 a1 Q) : cl f_stringslite_TrimSuffix [.v .str (V.s a0), .v .str (V.s a1)] [] Q :=
  acalls2 (E := env_stringslite_TrimSuffix) (envOk _ _ _ _ _) 0 Tryz.func93 (by kernel_rfl) h
def env_slices_IndexFunc_byte_termIsName1 : Env := envA [(2, ua 4 3 (ua 9 10 ([.dead 16])))] [] [] [] []
def kl_slices_IndexFunc_byte_termIsName1_0 (Q : QD) : Post := blockK 0 (seqJ env_slices_IndexFunc_byte_termIsName1 (fnAt [1, 1] Tryz.f94) (endK env_slices_IndexFunc_byte_termIsName1 Tryz.f94 Q))
@[irreducible] def lp_slices_IndexFunc_byte_termIsName1_0 (Q : QD) (m0 : Nat) (x0 : LL) (x7 x8 : Int) : Prop :=
  iter (adj (env_slices_IndexFunc_byte_termIsName1.adj 2)) (evCode env_slices_IndexFunc_byte_termIsName1 (fnAt [1, 0, 1, 0, 0] Tryz.f94)) (kl_slices_IndexFunc_byte_termIsName1_0 Q) m0 ⟨(.v (.sl t_uint8) (V.l x0)) :: (.fn f_term_IsName_1 []) :: sk 2 (un 3 ((.v (.int .i64) (V.i x7)) :: (.v (.int .i64) (V.i x8)) :: un 10 ([]))), dd 19 ([])⟩ []
def st_slices_IndexFunc_byte_termIsName1_0 (Q : QD) (m0 : Nat) (x0 : LL) (x7 x8 : Int) : Prop :=
  iff (decide (x8 < x7)) (0 ≤ x8 ∧ x8 < x0.length ∧ cl f_term_IsName_1 [.v (.int .u8) (((x0.getD x8.toNat []).drop 0).headD V.none)] [] fun r1 H2 => r1 = (.v .bool (r1.V)) ∧ H2 = [] ∧ iff r1.V.bool (True ∧ Q (.v (.int .i64) (V.i x8)) []) (lp_slices_IndexFunc_byte_termIsName1_0 Q m0 x0 x7 (IntKind.i64.wrap (x8 + (1 : Int))))) (True ∧ Q (.v (.int .i64) (V.i (-1))) [])
theorem lp_slices_IndexFunc_byte_termIsName1_0_s (Q : QD) (m0 : Nat) (x0 : LL) (x7 x8 : Int) : lp_slices_IndexFunc_byte_termIsName1_0 Q (m0 + 1) x0 x7 x8 = st_slices_IndexFunc_byte_termIsName1_0 Q m0 x0 x7 x8 := by kernel_rfl
theorem range_slices_IndexFunc_byte_termIsName1_0 (Q : QD) (x0 : LL) (n : Nat) (hb : n ≤ big) (J : Nat → Prop)
    (step : ∀ (k : Nat), k < n → J k → ∀ K : Prop, (J (k + 1) → K) → (0 ≤ (k : Int) ∧ (k : Int) < x0.length ∧ cl f_term_IsName_1 [.v (.int .u8) (((x0.getD k []).drop 0).headD V.none)] [] fun r1 H2 => r1 = (.v .bool (r1.V)) ∧ H2 = [] ∧ iff r1.V.bool (True ∧ Q (.v (.int .i64) (V.i (k : Int))) []) (K)))
    (last : J n → (True ∧ Q (.v (.int .i64) (V.i (-1))) []))
    (k : Nat) (le0 : k ≤ n) (hj : J k) : ∃ m0, lp_slices_IndexFunc_byte_termIsName1_0 Q m0 x0 (n : Int) ((k : Int)) := by
  exact rangeG0 n hb J (fun m0 i => lp_slices_IndexFunc_byte_termIsName1_0 Q m0 x0 (n : Int) i) (fun m0 i => lp_slices_IndexFunc_byte_termIsName1_0_s Q m0 x0 (n : Int) i) (fun k hl_ hj_ m_ ih_ => step k hl_ hj_ _ ih_) last k le0 hj
def vc_slices_IndexFunc_byte_termIsName1 (a0 : LL) (Q : QD) : Prop :=
  (a0.length ≤ big → ∃ m0, lp_slices_IndexFunc_byte_termIsName1_0 Q m0 a0 ((a0.length : Int)) 0)
theorem C_slices_IndexFunc_byte_termIsName1 (a0 : LL) (Q : QD) (h : vc_slices_IndexFunc_byte_termIsName1 a0 Q) : cl f_slices_IndexFunc_byte [.v (.sl t_uint8) (V.l a0), .fn f_term_IsName_1 []] [] Q :=
  acalls2 (E := env_slices_IndexFunc_byte_termIsName1) (envOk _ _ _ _ _) 0 Tryz.func94 (by kernel_rfl) h
def env_term_VarsOf : Env := envA [(3, (.undef 0) :: (.undef 5) :: (.undef 7) :: (.undef 10) :: ua 14 5 (ua 21 6 ([.dead 5, .dead 7, .dead 18]))), (7, (.undef 0) :: (.undef 5) :: (.undef 7) :: (.undef 10) :: ua 14 4 (ua 21 6 ([.dead 5]))), (12, (.undef 0) :: ua 2 2 ((.undef 5) :: (.undef 7) :: ua 9 10 (ua 21 7 (ua 29 8 ((.dead 3) :: da 35 2 ([.ownT 8 40 t_string]))))))] [] [] [] []
def kl_term_VarsOf_0 (Q : QD) : Post := blockK 0 (seqJ env_term_VarsOf (fnAt [1, 1, 1] Tryz.f60) (endK env_term_VarsOf Tryz.f60 Q))
def kl_term_VarsOf_2 (Q : QD) : Post := blockK 4 (seqJ env_term_VarsOf (fnAt [1, 1, 1, 1, 1] Tryz.f60) (endK env_term_VarsOf Tryz.f60 Q))
@[irreducible] def rg_term_VarsOf_1 (Q : QD) (m0 : Nat) (zx11 : LL) (zx12 zx13 : Int) (zx18_0 : List V) (zy10 : LL) (q1 : LL) (rows : LL) : Prop :=
  rangeR (evCode env_term_VarsOf (fnAt [1, 1, 0, 1, 0, 0, 1, 1, 0, 0, 1, 1, 0, 0] Tryz.f60)) (evCode env_term_VarsOf (fnAt [1, 1, 0, 1, 0, 0, 1, 1, 0, 0, 1, 1, 0, 1] Tryz.f60)) [19, 20] (rowA 77) [.cells [.mp (.own 1)], .map mt_9_4 zy10] (.undef :: .skip :: .nil :: (.ptr (.own 0) 0) :: .skip :: .undef :: .skip :: .undef :: sk 2 (.undef :: (.v (.sl t_Term) (V.l zx11)) :: (.v (.int .i64) (V.i zx12)) :: (.v (.int .i64) (V.i zx13)) :: un 4 ((.fn f_term_Walk_1 [.elt t_Term zx18_0 0]) :: sk 2 (un 6 (sk 13 ([])))))) (dd 41 []) (outR env_term_VarsOf [.loc 3, .loc 10] ⟨.undef :: .skip :: .nil :: (.ptr (.loc 3) 0) :: .skip :: .undef :: .skip :: .undef :: sk 2 (.undef :: (.v (.sl t_Term) (V.l zx11)) :: (.v (.int .i64) (V.i zx12)) :: (.v (.int .i64) (V.i zx13)) :: un 4 ((.fn f_term_Walk_1 [.elt t_Term zx18_0 0]) :: sk 2 (un 6 (sk 13 ([]))))), dd 3 ((.cells [.mp (.loc 10)]) :: dd 6 ((.map mt_9_4 zy10) :: dd 30 ([])))⟩ [] (blockK 2 (blockK 1 (seqJ env_term_VarsOf (fnAt [1, 1, 0, 1, 0, 0, 1, 1, 1] Tryz.f60) (loopK (adj (env_term_VarsOf.adj 3)) (iter (adj (env_term_VarsOf.adj 3)) (evCode env_term_VarsOf (fnAt [1, 1, 0, 1, 0, 0] Tryz.f60)) (kl_term_VarsOf_0 Q) m0) (kl_term_VarsOf_0 Q)))))) rows [.cells [.mp (.own 1)], .map mt_9_4 q1]
@[irreducible] def lp_term_VarsOf_2 (Q : QD) (m2 : Nat) (x8n : Nat) (y10 : LL) (y28n : Nat) (y28s : List Nat) (y40 : LL) : Prop :=
  iter (adj (env_term_VarsOf.adj 12)) (evCode env_term_VarsOf (fnAt [1, 1, 1, 1, 0, 1, 0, 0] Tryz.f60)) (kl_term_VarsOf_2 Q) m2 ⟨.undef :: .skip :: un 2 (.skip :: .undef :: .skip :: .undef :: (.osl (.loc 40) x8n) :: un 10 (sk 2 (un 7 ((.ptr (.loc 28) 0) :: un 8 (sk 3 ([])))))), dd 10 ((.map mt_9_4 y10) :: dd 17 ((.iter mt_9_4 (.mp (.loc 10)) y28n y28s) :: dd 11 ([.row t_string y40])))⟩ []
@[irreducible] def lp_term_VarsOf_0 (Q : QD) (m0 : Nat) (x11 : LL) (x12 x13 : Int) (y10 : LL) : Prop :=
  iter (adj (env_term_VarsOf.adj 3)) (evCode env_term_VarsOf (fnAt [1, 1, 0, 1, 0, 0] Tryz.f60)) (kl_term_VarsOf_0 Q) m0 ⟨.undef :: .skip :: .nil :: (.ptr (.loc 3) 0) :: .skip :: .undef :: .skip :: .undef :: sk 2 (.undef :: (.v (.sl t_Term) (V.l x11)) :: (.v (.int .i64) (V.i x12)) :: (.v (.int .i64) (V.i x13)) :: un 5 (sk 2 (un 6 (sk 13 ([]))))), dd 3 ((.cells [.mp (.loc 10)]) :: dd 6 ((.map mt_9_4 y10) :: dd 30 ([])))⟩ []
theorem rgn_term_VarsOf_1 (Q : QD) (m0 : Nat) (zx11 : LL) (zx12 zx13 : Int) (zx18_0 : List V) (zy10 : LL) (q1 : LL) : rg_term_VarsOf_1 Q m0 zx11 zx12 zx13 zx18_0 zy10 q1 [] = (lp_term_VarsOf_0 Q m0 zx11 zx12 (IntKind.i64.wrap (zx13 + (1 : Int))) q1) := by kernel_rfl
theorem rgc_term_VarsOf_1 (Q : QD) (m0 : Nat) (zx11 : LL) (zx12 zx13 : Int) (zx18_0 : List V) (zy10 : LL) (q1 : LL) (r : List V) (rs : LL) : rg_term_VarsOf_1 Q m0 zx11 zx12 zx13 zx18_0 zy10 q1 (r :: rs) = (iff ((r.tail.headD V.none).bool) (rg_term_VarsOf_1 Q m0 zx11 zx12 zx13 zx18_0 zy10 (mset [.str] [r.headD V.none] [V.b true] q1) rs) (rg_term_VarsOf_1 Q m0 zx11 zx12 zx13 zx18_0 zy10 q1 rs)) := by kernel_rfl
theorem each_term_VarsOf_1 (Q : QD) (m0 : Nat) (zx11 : LL) (zx12 zx13 : Int) (zx18_0 : List V) (zy10 : LL) (J : LL → LL → Prop)
    (step : ∀ (r : List V) (rs : LL) (q1 : LL), J (r :: rs) q1 → ∀ K : LL → Prop, (∀ (q1' : LL), J rs q1' → K q1') → (iff ((r.tail.headD V.none).bool) (K (mset [.str] [r.headD V.none] [V.b true] q1)) (K q1)))
    (last : ∀ (q1 : LL), J [] q1 → (lp_term_VarsOf_0 Q m0 zx11 zx12 (IntKind.i64.wrap (zx13 + (1 : Int))) q1))
    : ∀ (rows : LL) (q1 : LL), J rows q1 → rg_term_VarsOf_1 Q m0 zx11 zx12 zx13 zx18_0 zy10 q1 rows := by
  intro rows
  induction rows with
  | nil => intro q1 h; rw [rgn_term_VarsOf_1]; exact last q1 h
  | cons r rs ih => intro q1 h; rw [rgc_term_VarsOf_1]; exact step r rs q1 h (fun q1 => rg_term_VarsOf_1 Q m0 zx11 zx12 zx13 zx18_0 zy10 q1 rs) ih
def st_term_VarsOf_2 (Q : QD) (m2 : Nat) (x8n : Nat) (y10 : LL) (y28n : Nat) (y28s : List Nat) (y40 : LL) : Prop :=
  y10.length = y28n ∧ ((∀ j : Nat, j < y28n → j ∈ y28s) → cl f_slices_Sort_string [.osl (.own 0) x8n] [.row t_string y40] fun r2 H3 => r2 = (.tup []) ∧ H3 = [.row t_string ((H3.headD .dead).xs)] ∧ (x8n = ((H3.headD .dead).xs).length) ∧ Q (.v (.sl t_string) (V.l ((H3.headD .dead).xs))) []) ∧ (∀ j1 : Nat, j1 < y28n → j1 ∉ y28s → y28s.length < y28n → y10.length = y28n ∧ y40.length = x8n ∧ x8n + ([[(y10.getD j1 []).headD V.none]]).length ≤ lim ∧ lp_term_VarsOf_2 Q m2 (x8n + ([[(y10.getD j1 []).headD V.none]]).length) y10 y28n (j1 :: y28s) (y40 ++ ([[(y10.getD j1 []).headD V.none]])))
theorem lp_term_VarsOf_2_s (Q : QD) (m2 : Nat) (x8n : Nat) (y10 : LL) (y28n : Nat) (y28s : List Nat) (y40 : LL) : lp_term_VarsOf_2 Q (m2 + 1) x8n y10 y28n y28s y40 = st_term_VarsOf_2 Q m2 x8n y10 y28n y28s y40 := by kernel_rfl
theorem rule_term_VarsOf_2 (Q : QD) : RuleG5 (lp_term_VarsOf_2 Q) (st_term_VarsOf_2 Q) := ruleG5 _ _ (lp_term_VarsOf_2_s Q)
def st_term_VarsOf_0 (Q : QD) (m0 : Nat) (x11 : LL) (x12 x13 : Int) (y10 : LL) : Prop :=
  iff (decide (x13 < x12)) (0 ≤ x13 ∧ x13 < x11.length ∧ cl f_term_Walk [.agg [.v .str (((x11.getD x13.toNat []).drop 0).headD V.none), .v .bool ((((x11.getD x13.toNat []).drop 0).tail).headD V.none), .v (.sl t_Term) (((((x11.getD x13.toNat []).drop 0).tail).tail).headD V.none)]] [] fun r1 H2 => r1 = (.fn f_term_Walk_1 [.elt t_Term ((r1.capsOf.headD .undef).eltOf) 0]) ∧ H2 = [] ∧ ∃ rows : LL, itA 77 [.elt t_Term ((r1.capsOf.headD .undef).eltOf) 0] rows ∧ rg_term_VarsOf_1 Q m0 x11 x12 x13 ((r1.capsOf.headD .undef).eltOf) y10 y10 rows) (∃ m2, lp_term_VarsOf_2 Q m2 0 y10 y10.length (([] : List Nat)) (([] : List (List V))))
theorem lp_term_VarsOf_0_s (Q : QD) (m0 : Nat) (x11 : LL) (x12 x13 : Int) (y10 : LL) : lp_term_VarsOf_0 Q (m0 + 1) x11 x12 x13 y10 = st_term_VarsOf_0 Q m0 x11 x12 x13 y10 := by kernel_rfl
theorem rule_term_VarsOf_0 (Q : QD) : RuleG4 (lp_term_VarsOf_0 Q) (st_term_VarsOf_0 Q) := ruleG4 _ _ (lp_term_VarsOf_0_s Q)
def vc_term_VarsOf (a0 : LL) (Q : QD) : Prop :=
  (a0.length ≤ big → ∃ m0, lp_term_VarsOf_0 Q m0 a0 ((a0.length : Int)) 0 (([] : List (List V))))
theorem C_term_VarsOf (a0 : LL) (Q : QD) (h : vc_term_VarsOf a0 Q) : cl f_term_VarsOf [.v (.sl t_Term) (V.l a0)] [] Q :=
  acalls2 (E := env_term_VarsOf) (envOk _ _ _ _ _) 1 Tryz.func60 (by kernel_rfl) h
def env_slices_ContainsFunc_string_termextra1 : Env := envA [] [] [] [] []
def vc_slices_ContainsFunc_string_termextra1 (a0 h0_0 : LL) (Q : QD) : Prop :=
  cl f_slices_IndexFunc_string [.v (.sl t_string) (V.l a0), .fn f_term_extra_1 [.ptr (.own 0) 0]] [.cells [.v (.sl t_string) (V.l h0_0)]] fun r1 H2 => r1 = (.v (.int .i64) (r1.V)) ∧ H2 = [.cells [.v (.sl t_string) ((((H2.headD .dead).cs).headD .undef).V)]] ∧ True ∧ Q (.v .bool (V.b (decide (r1.V.int ≥ (0 : Int))))) [.cells [.v (.sl t_string) ((((H2.headD .dead).cs).headD .undef).V)]]
theorem C_slices_ContainsFunc_string_termextra1 (a0 h0_0 : LL) (Q : QD) (h : vc_slices_ContainsFunc_string_termextra1 a0 h0_0 Q) : cl f_slices_ContainsFunc_string [.v (.sl t_string) (V.l a0), .fn f_term_extra_1 [.ptr (.own 0) 0]] [.cells [.v (.sl t_string) (V.l h0_0)]] Q :=
  acalls2 (E := env_slices_ContainsFunc_string_termextra1) (envOk _ _ _ _ _) 0 Tryz.func61 (by kernel_rfl) h
def env_slices_IndexFunc_int_pathcomparercompare1 : Env := envA [(2, ua 4 3 (ua 9 10 ([.dead 16])))] [] [] [] []
def kl_slices_IndexFunc_int_pathcomparercompare1_0 (Q : QD) : Post := blockK 0 (seqJ env_slices_IndexFunc_int_pathcomparercompare1 (fnAt [1, 1] Tryz.f98) (endK env_slices_IndexFunc_int_pathcomparercompare1 Tryz.f98 Q))
@[irreducible] def lp_slices_IndexFunc_int_pathcomparercompare1_0 (Q : QD) (m0 : Nat) (x0 : LL) (x7 x8 : Int) (h1_0 h1_1 : V) (h1_2n h1_3n h1_4n : Nat) (h2 h3 h4 : LL) (h5_0 : V) : Prop :=
  iter (adj (env_slices_IndexFunc_int_pathcomparercompare1.adj 2)) (evCode env_slices_IndexFunc_int_pathcomparercompare1 (fnAt [1, 0, 1, 0, 0] Tryz.f98)) (kl_slices_IndexFunc_int_pathcomparercompare1_0 Q) m0 ⟨(.v (.sl t_int) (V.l x0)) :: (.fn f_path_comparer_compare_1 [.ptr (.own 0) 0, .ptr (.own 5) 0]) :: sk 2 (un 3 ((.v (.int .i64) (V.i x7)) :: (.v (.int .i64) (V.i x8)) :: un 10 ([]))), dd 19 ([])⟩ [.cells [.ptr (.own 1) 0], .cells [.v (.sl t_Rank) (h1_0), .v (.sl t_path_node) (h1_1), .osl (.own 2) h1_2n, .osl (.own 3) h1_3n, .osl (.own 4) h1_4n], .row t_path_node h2, .row t_uint8 h3, .row t_uint8 h4, .cells [.v (.int .i64) (h5_0)]]
def st_slices_IndexFunc_int_pathcomparercompare1_0 (Q : QD) (m0 : Nat) (x0 : LL) (x7 x8 : Int) (h1_0 h1_1 : V) (h1_2n h1_3n h1_4n : Nat) (h2 h3 h4 : LL) (h5_0 : V) : Prop :=
  iff (decide (x8 < x7)) (0 ≤ x8 ∧ x8 < x0.length ∧ cl f_path_comparer_compare_1 [.v (.int .i64) (((x0.getD x8.toNat []).drop 0).headD V.none), .ptr (.own 0) 0, .ptr (.own 5) 0] [.cells [.ptr (.own 1) 0], .cells [.v (.sl t_Rank) (h1_0), .v (.sl t_path_node) (h1_1), .osl (.own 2) h1_2n, .osl (.own 3) h1_3n, .osl (.own 4) h1_4n], .row t_path_node h2, .row t_uint8 h3, .row t_uint8 h4, .cells [.v (.int .i64) (h5_0)]] fun r1 H2 => r1 = (.v .bool (r1.V)) ∧ H2 = [.cells [.ptr (.own 1) 0], .cells [.v (.sl t_Rank) ((((H2.tail.headD .dead).cs).headD .undef).V), .v (.sl t_path_node) (((((H2.tail.headD .dead).cs).tail).headD .undef).V), .osl (.own 2) ((((((H2.tail.headD .dead).cs).tail).tail).headD .undef).len), .osl (.own 3) (((((((H2.tail.headD .dead).cs).tail).tail).tail).headD .undef).len), .osl (.own 4) ((((((((H2.tail.headD .dead).cs).tail).tail).tail).tail).headD .undef).len)], .row t_path_node ((H2.tail.tail.headD .dead).xs), .row t_uint8 ((H2.tail.tail.tail.headD .dead).xs), .row t_uint8 ((H2.tail.tail.tail.tail.headD .dead).xs), .cells [.v (.int .i64) ((((H2.tail.tail.tail.tail.tail.headD .dead).cs).headD .undef).V)]] ∧ iff r1.V.bool (True ∧ Q (.v (.int .i64) (V.i x8)) [.cells [.ptr (.own 1) 0], .cells [.v (.sl t_Rank) ((((H2.tail.headD .dead).cs).headD .undef).V), .v (.sl t_path_node) (((((H2.tail.headD .dead).cs).tail).headD .undef).V), .osl (.own 2) ((((((H2.tail.headD .dead).cs).tail).tail).headD .undef).len), .osl (.own 3) (((((((H2.tail.headD .dead).cs).tail).tail).tail).headD .undef).len), .osl (.own 4) ((((((((H2.tail.headD .dead).cs).tail).tail).tail).tail).headD .undef).len)], .row t_path_node ((H2.tail.tail.headD .dead).xs), .row t_uint8 ((H2.tail.tail.tail.headD .dead).xs), .row t_uint8 ((H2.tail.tail.tail.tail.headD .dead).xs), .cells [.v (.int .i64) ((((H2.tail.tail.tail.tail.tail.headD .dead).cs).headD .undef).V)]]) (lp_slices_IndexFunc_int_pathcomparercompare1_0 Q m0 x0 x7 (IntKind.i64.wrap (x8 + (1 : Int))) ((((H2.tail.headD .dead).cs).headD .undef).V) (((((H2.tail.headD .dead).cs).tail).headD .undef).V) ((((((H2.tail.headD .dead).cs).tail).tail).headD .undef).len) (((((((H2.tail.headD .dead).cs).tail).tail).tail).headD .undef).len) ((((((((H2.tail.headD .dead).cs).tail).tail).tail).tail).headD .undef).len) ((H2.tail.tail.headD .dead).xs) ((H2.tail.tail.tail.headD .dead).xs) ((H2.tail.tail.tail.tail.headD .dead).xs) ((((H2.tail.tail.tail.tail.tail.headD .dead).cs).headD .undef).V))) (True ∧ Q (.v (.int .i64) (V.i (-1))) [.cells [.ptr (.own 1) 0], .cells [.v (.sl t_Rank) (h1_0), .v (.sl t_path_node) (h1_1), .osl (.own 2) h1_2n, .osl (.own 3) h1_3n, .osl (.own 4) h1_4n], .row t_path_node h2, .row t_uint8 h3, .row t_uint8 h4, .cells [.v (.int .i64) (h5_0)]])
theorem lp_slices_IndexFunc_int_pathcomparercompare1_0_s (Q : QD) (m0 : Nat) (x0 : LL) (x7 x8 : Int) (h1_0 h1_1 : V) (h1_2n h1_3n h1_4n : Nat) (h2 h3 h4 : LL) (h5_0 : V) : lp_slices_IndexFunc_int_pathcomparercompare1_0 Q (m0 + 1) x0 x7 x8 h1_0 h1_1 h1_2n h1_3n h1_4n h2 h3 h4 h5_0 = st_slices_IndexFunc_int_pathcomparercompare1_0 Q m0 x0 x7 x8 h1_0 h1_1 h1_2n h1_3n h1_4n h2 h3 h4 h5_0 := by kernel_rfl
theorem range_slices_IndexFunc_int_pathcomparercompare1_0 (Q : QD) (x0 : LL) (n : Nat) (hb : n ≤ big) (J : Nat → V → V → Nat → Nat → Nat → LL → LL → LL → V → Prop)
    (step : ∀ (k : Nat) (h1_0 h1_1 : V) (h1_2n h1_3n h1_4n : Nat) (h2 h3 h4 : LL) (h5_0 : V), k < n → J k h1_0 h1_1 h1_2n h1_3n h1_4n h2 h3 h4 h5_0 → ∀ K : V → V → Nat → Nat → Nat → LL → LL → LL → V → Prop, (∀ (h1_0' h1_1' : V) (h1_2n' h1_3n' h1_4n' : Nat) (h2' h3' h4' : LL) (h5_0' : V), J (k + 1) h1_0' h1_1' h1_2n' h1_3n' h1_4n' h2' h3' h4' h5_0' → K h1_0' h1_1' h1_2n' h1_3n' h1_4n' h2' h3' h4' h5_0') → (0 ≤ (k : Int) ∧ (k : Int) < x0.length ∧ cl f_path_comparer_compare_1 [.v (.int .i64) (((x0.getD k []).drop 0).headD V.none), .ptr (.own 0) 0, .ptr (.own 5) 0] [.cells [.ptr (.own 1) 0], .cells [.v (.sl t_Rank) (h1_0), .v (.sl t_path_node) (h1_1), .osl (.own 2) h1_2n, .osl (.own 3) h1_3n, .osl (.own 4) h1_4n], .row t_path_node h2, .row t_uint8 h3, .row t_uint8 h4, .cells [.v (.int .i64) (h5_0)]] fun r1 H2 => r1 = (.v .bool (r1.V)) ∧ H2 = [.cells [.ptr (.own 1) 0], .cells [.v (.sl t_Rank) ((((H2.tail.headD .dead).cs).headD .undef).V), .v (.sl t_path_node) (((((H2.tail.headD .dead).cs).tail).headD .undef).V), .osl (.own 2) ((((((H2.tail.headD .dead).cs).tail).tail).headD .undef).len), .osl (.own 3) (((((((H2.tail.headD .dead).cs).tail).tail).tail).headD .undef).len), .osl (.own 4) ((((((((H2.tail.headD .dead).cs).tail).tail).tail).tail).headD .undef).len)], .row t_path_node ((H2.tail.tail.headD .dead).xs), .row t_uint8 ((H2.tail.tail.tail.headD .dead).xs), .row t_uint8 ((H2.tail.tail.tail.tail.headD .dead).xs), .cells [.v (.int .i64) ((((H2.tail.tail.tail.tail.tail.headD .dead).cs).headD .undef).V)]] ∧ iff r1.V.bool (True ∧ Q (.v (.int .i64) (V.i (k : Int))) [.cells [.ptr (.own 1) 0], .cells [.v (.sl t_Rank) ((((H2.tail.headD .dead).cs).headD .undef).V), .v (.sl t_path_node) (((((H2.tail.headD .dead).cs).tail).headD .undef).V), .osl (.own 2) ((((((H2.tail.headD .dead).cs).tail).tail).headD .undef).len), .osl (.own 3) (((((((H2.tail.headD .dead).cs).tail).tail).tail).headD .undef).len), .osl (.own 4) ((((((((H2.tail.headD .dead).cs).tail).tail).tail).tail).headD .undef).len)], .row t_path_node ((H2.tail.tail.headD .dead).xs), .row t_uint8 ((H2.tail.tail.tail.headD .dead).xs), .row t_uint8 ((H2.tail.tail.tail.tail.headD .dead).xs), .cells [.v (.int .i64) ((((H2.tail.tail.tail.tail.tail.headD .dead).cs).headD .undef).V)]]) (K ((((H2.tail.headD .dead).cs).headD .undef).V) (((((H2.tail.headD .dead).cs).tail).headD .undef).V) ((((((H2.tail.headD .dead).cs).tail).tail).headD .undef).len) (((((((H2.tail.headD .dead).cs).tail).tail).tail).headD .undef).len) ((((((((H2.tail.headD .dead).cs).tail).tail).tail).tail).headD .undef).len) ((H2.tail.tail.headD .dead).xs) ((H2.tail.tail.tail.headD .dead).xs) ((H2.tail.tail.tail.tail.headD .dead).xs) ((((H2.tail.tail.tail.tail.tail.headD .dead).cs).headD .undef).V))))
    (last : ∀ (h1_0 h1_1 : V) (h1_2n h1_3n h1_4n : Nat) (h2 h3 h4 : LL) (h5_0 : V), J n h1_0 h1_1 h1_2n h1_3n h1_4n h2 h3 h4 h5_0 → (True ∧ Q (.v (.int .i64) (V.i (-1))) [.cells [.ptr (.own 1) 0], .cells [.v (.sl t_Rank) (h1_0), .v (.sl t_path_node) (h1_1), .osl (.own 2) h1_2n, .osl (.own 3) h1_3n, .osl (.own 4) h1_4n], .row t_path_node h2, .row t_uint8 h3, .row t_uint8 h4, .cells [.v (.int .i64) (h5_0)]]))
    (k : Nat) (h1_0 h1_1 : V) (h1_2n h1_3n h1_4n : Nat) (h2 h3 h4 : LL) (h5_0 : V) (le0 : k ≤ n) (hj : J k h1_0 h1_1 h1_2n h1_3n h1_4n h2 h3 h4 h5_0) : ∃ m0, lp_slices_IndexFunc_int_pathcomparercompare1_0 Q m0 x0 (n : Int) ((k : Int)) h1_0 h1_1 h1_2n h1_3n h1_4n h2 h3 h4 h5_0 := by
  exact rangeG9 n hb J (fun m0 i h1_0 h1_1 h1_2n h1_3n h1_4n h2 h3 h4 h5_0 => lp_slices_IndexFunc_int_pathcomparercompare1_0 Q m0 x0 (n : Int) i h1_0 h1_1 h1_2n h1_3n h1_4n h2 h3 h4 h5_0) (fun m0 i h1_0 h1_1 h1_2n h1_3n h1_4n h2 h3 h4 h5_0 => lp_slices_IndexFunc_int_pathcomparercompare1_0_s Q m0 x0 (n : Int) i h1_0 h1_1 h1_2n h1_3n h1_4n h2 h3 h4 h5_0) (fun k h1_0 h1_1 h1_2n h1_3n h1_4n h2 h3 h4 h5_0 hl_ hj_ m_ ih_ => step k h1_0 h1_1 h1_2n h1_3n h1_4n h2 h3 h4 h5_0 hl_ hj_ _ ih_) last k h1_0 h1_1 h1_2n h1_3n h1_4n h2 h3 h4 h5_0 le0 hj
def vc_slices_IndexFunc_int_pathcomparercompare1 (a0 h1_0 h1_1 : LL) (h1_2n h1_3n h1_4n : Nat) (h2 h3 h4 : LL) (h5_0 : Int) (Q : QD) : Prop :=
  (a0.length ≤ big → ∃ m0, lp_slices_IndexFunc_int_pathcomparercompare1_0 Q m0 a0 ((a0.length : Int)) 0 (V.l h1_0) (V.l h1_1) h1_2n h1_3n h1_4n h2 h3 h4 (V.i h5_0))
theorem C_slices_IndexFunc_int_pathcomparercompare1 (a0 h1_0 h1_1 : LL) (h1_2n h1_3n h1_4n : Nat) (h2 h3 h4 : LL) (h5_0 : Int) (Q : QD) (h : vc_slices_IndexFunc_int_pathcomparercompare1 a0 h1_0 h1_1 h1_2n h1_3n h1_4n h2 h3 h4 h5_0 Q) : cl f_slices_IndexFunc_int [.v (.sl t_int) (V.l a0), .fn f_path_comparer_compare_1 [.ptr (.own 0) 0, .ptr (.own 5) 0]] [.cells [.ptr (.own 1) 0], .cells [.v (.sl t_Rank) (V.l h1_0), .v (.sl t_path_node) (V.l h1_1), .osl (.own 2) h1_2n, .osl (.own 3) h1_3n, .osl (.own 4) h1_4n], .row t_path_node h2, .row t_uint8 h3, .row t_uint8 h4, .cells [.v (.int .i64) (V.i h5_0)]] Q :=
  acalls2 (E := env_slices_IndexFunc_int_pathcomparercompare1) (envOk _ _ _ _ _) 0 Tryz.func98 (by kernel_rfl) h
def env_slices_BinarySearchFunc_Rank_string_pathOf1 : Env := envA [(3, ua 6 2 (ua 11 24 ([.dead 30])))] [] [] [] []
def kl_slices_BinarySearchFunc_Rank_string_pathOf1_0 (Q : QD) : Post := blockK 0 (seqJ env_slices_BinarySearchFunc_Rank_string_pathOf1 (fnAt [1, 1, 1, 1] Tryz.f99) (endK env_slices_BinarySearchFunc_Rank_string_pathOf1 Tryz.f99 Q))
@[irreducible] def lp_slices_BinarySearchFunc_Rank_string_pathOf1_0 (Q : QD) (m0 : Nat) (x0 : LL) (x1 : ByteArray) (x8 x9 x10 : Int) : Prop :=
  iter (adj (env_slices_BinarySearchFunc_Rank_string_pathOf1.adj 3)) (evCode env_slices_BinarySearchFunc_Rank_string_pathOf1 (fnAt [1, 1, 1, 0, 0, 0] Tryz.f99)) (kl_slices_BinarySearchFunc_Rank_string_pathOf1_0 Q) m0 ⟨(.v (.sl t_Rank) (V.l x0)) :: (.v .str (V.s x1)) :: (.fn f_path_Of_1 []) :: sk 3 (un 2 ((.v (.int .i64) (V.i x8)) :: (.v (.int .i64) (V.i x9)) :: (.v (.int .i64) (V.i x10)) :: un 24 (sk 14 ([])))), dd 49 ([])⟩ []
def st_slices_BinarySearchFunc_Rank_string_pathOf1_0 (Q : QD) (m0 : Nat) (x0 : LL) (x1 : ByteArray) (x8 x9 x10 : Int) : Prop :=
  iff (decide (x9 < x10)) (0 ≤ (1 : Int) ∧ 0 ≤ (IntKind.i64.wrap ((IntKind.u64.wrap (IntKind.i64.wrap (x9 + x10))).fdiv (2 ^ (min ((1 : Int)).toNat IntKind.u64.bits)))) ∧ (IntKind.i64.wrap ((IntKind.u64.wrap (IntKind.i64.wrap (x9 + x10))).fdiv (2 ^ (min ((1 : Int)).toNat IntKind.u64.bits)))) < x0.length ∧ cl f_path_Of_1 [.agg [.v .str (((x0.getD ((IntKind.i64.wrap ((IntKind.u64.wrap (IntKind.i64.wrap (x9 + x10))).fdiv (2 ^ (min ((1 : Int)).toNat IntKind.u64.bits))))).toNat []).drop 0).headD V.none), .v (.int .i64) ((((x0.getD ((IntKind.i64.wrap ((IntKind.u64.wrap (IntKind.i64.wrap (x9 + x10))).fdiv (2 ^ (min ((1 : Int)).toNat IntKind.u64.bits))))).toNat []).drop 0).tail).headD V.none), .v (.int .i64) (((((x0.getD ((IntKind.i64.wrap ((IntKind.u64.wrap (IntKind.i64.wrap (x9 + x10))).fdiv (2 ^ (min ((1 : Int)).toNat IntKind.u64.bits))))).toNat []).drop 0).tail).tail).headD V.none)], .v .str (V.s x1)] [] fun r1 H2 => r1 = (.v (.int .i64) (r1.V)) ∧ H2 = [] ∧ iff (decide (r1.V.int < (0 : Int))) (lp_slices_BinarySearchFunc_Rank_string_pathOf1_0 Q m0 x0 x1 x8 (IntKind.i64.wrap ((IntKind.i64.wrap ((IntKind.u64.wrap (IntKind.i64.wrap (x9 + x10))).fdiv (2 ^ (min ((1 : Int)).toNat IntKind.u64.bits)))) + (1 : Int))) x10) (lp_slices_BinarySearchFunc_Rank_string_pathOf1_0 Q m0 x0 x1 x8 x9 (IntKind.i64.wrap ((IntKind.u64.wrap (IntKind.i64.wrap (x9 + x10))).fdiv (2 ^ (min ((1 : Int)).toNat IntKind.u64.bits)))))) (iff (decide (x9 < x8)) (0 ≤ x9 ∧ x9 < x0.length ∧ cl f_path_Of_1 [.agg [.v .str (((x0.getD x9.toNat []).drop 0).headD V.none), .v (.int .i64) ((((x0.getD x9.toNat []).drop 0).tail).headD V.none), .v (.int .i64) (((((x0.getD x9.toNat []).drop 0).tail).tail).headD V.none)], .v .str (V.s x1)] [] fun r3 H4 => r3 = (.v (.int .i64) (r3.V)) ∧ H4 = [] ∧ (True ∧ True ∧ True) ∧ Q (.tup [.v (.int .i64) (V.i x9), .v .bool (V.b (r3.V.int == (0 : Int)))]) []) ((True ∧ True ∧ True) ∧ Q (.tup [.v (.int .i64) (V.i x9), .v .bool (V.b false)]) []))
theorem lp_slices_BinarySearchFunc_Rank_string_pathOf1_0_s (Q : QD) (m0 : Nat) (x0 : LL) (x1 : ByteArray) (x8 x9 x10 : Int) : lp_slices_BinarySearchFunc_Rank_string_pathOf1_0 Q (m0 + 1) x0 x1 x8 x9 x10 = st_slices_BinarySearchFunc_Rank_string_pathOf1_0 Q m0 x0 x1 x8 x9 x10 := by kernel_rfl
theorem rule_slices_BinarySearchFunc_Rank_string_pathOf1_0 (Q : QD) : RuleG5 (lp_slices_BinarySearchFunc_Rank_string_pathOf1_0 Q) (st_slices_BinarySearchFunc_Rank_string_pathOf1_0 Q) := ruleG5 _ _ (lp_slices_BinarySearchFunc_Rank_string_pathOf1_0_s Q)
def vc_slices_BinarySearchFunc_Rank_string_pathOf1 (a0 : LL) (a1 : ByteArray) (Q : QD) : Prop :=
  (a0.length ≤ big → ∃ m0, lp_slices_BinarySearchFunc_Rank_string_pathOf1_0 Q m0 a0 a1 ((a0.length : Int)) 0 ((a0.length : Int)))
theorem C_slices_BinarySearchFunc_Rank_string_pathOf1 (a0 : LL) (a1 : ByteArray) (Q : QD) (h : vc_slices_BinarySearchFunc_Rank_string_pathOf1 a0 a1 Q) : cl f_slices_BinarySearchFunc_Rank_string [.v (.sl t_Rank) (V.l a0), .v .str (V.s a1), .fn f_path_Of_1 []] [] Q :=
  acalls2 (E := env_slices_BinarySearchFunc_Rank_string_pathOf1) (envOk _ _ _ _ _) 0 Tryz.func99 (by kernel_rfl) h
def env_slices_IndexFunc_int_pathcomparercompare2 : Env := envA [(2, ua 4 3 (ua 9 10 ([.dead 16])))] [] [] [] []
def kl_slices_IndexFunc_int_pathcomparercompare2_0 (Q : QD) : Post := blockK 0 (seqJ env_slices_IndexFunc_int_pathcomparercompare2 (fnAt [1, 1] Tryz.f98) (endK env_slices_IndexFunc_int_pathcomparercompare2 Tryz.f98 Q))
@[irreducible] def lp_slices_IndexFunc_int_pathcomparercompare2_0 (Q : QD) (m0 : Nat) (x0 : LL) (x7 x8 : Int) (h1_0 h1_1 : V) (h1_2n h1_3n h1_4n : Nat) (h2 h3 h4 : LL) (h5_0 : V) : Prop :=
  iter (adj (env_slices_IndexFunc_int_pathcomparercompare2.adj 2)) (evCode env_slices_IndexFunc_int_pathcomparercompare2 (fnAt [1, 0, 1, 0, 0] Tryz.f98)) (kl_slices_IndexFunc_int_pathcomparercompare2_0 Q) m0 ⟨(.v (.sl t_int) (V.l x0)) :: (.fn f_path_comparer_compare_2 [.ptr (.own 0) 0, .ptr (.own 5) 0]) :: sk 2 (un 3 ((.v (.int .i64) (V.i x7)) :: (.v (.int .i64) (V.i x8)) :: un 10 ([]))), dd 19 ([])⟩ [.cells [.ptr (.own 1) 0], .cells [.v (.sl t_Rank) (h1_0), .v (.sl t_path_node) (h1_1), .osl (.own 2) h1_2n, .osl (.own 3) h1_3n, .osl (.own 4) h1_4n], .row t_path_node h2, .row t_uint8 h3, .row t_uint8 h4, .cells [.v (.int .i64) (h5_0)]]
def st_slices_IndexFunc_int_pathcomparercompare2_0 (Q : QD) (m0 : Nat) (x0 : LL) (x7 x8 : Int) (h1_0 h1_1 : V) (h1_2n h1_3n h1_4n : Nat) (h2 h3 h4 : LL) (h5_0 : V) : Prop :=
  iff (decide (x8 < x7)) (0 ≤ x8 ∧ x8 < x0.length ∧ cl f_path_comparer_compare_2 [.v (.int .i64) (((x0.getD x8.toNat []).drop 0).headD V.none), .ptr (.own 0) 0, .ptr (.own 5) 0] [.cells [.ptr (.own 1) 0], .cells [.v (.sl t_Rank) (h1_0), .v (.sl t_path_node) (h1_1), .osl (.own 2) h1_2n, .osl (.own 3) h1_3n, .osl (.own 4) h1_4n], .row t_path_node h2, .row t_uint8 h3, .row t_uint8 h4, .cells [.v (.int .i64) (h5_0)]] fun r1 H2 => r1 = (.v .bool (r1.V)) ∧ H2 = [.cells [.ptr (.own 1) 0], .cells [.v (.sl t_Rank) ((((H2.tail.headD .dead).cs).headD .undef).V), .v (.sl t_path_node) (((((H2.tail.headD .dead).cs).tail).headD .undef).V), .osl (.own 2) ((((((H2.tail.headD .dead).cs).tail).tail).headD .undef).len), .osl (.own 3) (((((((H2.tail.headD .dead).cs).tail).tail).tail).headD .undef).len), .osl (.own 4) ((((((((H2.tail.headD .dead).cs).tail).tail).tail).tail).headD .undef).len)], .row t_path_node ((H2.tail.tail.headD .dead).xs), .row t_uint8 ((H2.tail.tail.tail.headD .dead).xs), .row t_uint8 ((H2.tail.tail.tail.tail.headD .dead).xs), .cells [.v (.int .i64) ((((H2.tail.tail.tail.tail.tail.headD .dead).cs).headD .undef).V)]] ∧ iff r1.V.bool (True ∧ Q (.v (.int .i64) (V.i x8)) [.cells [.ptr (.own 1) 0], .cells [.v (.sl t_Rank) ((((H2.tail.headD .dead).cs).headD .undef).V), .v (.sl t_path_node) (((((H2.tail.headD .dead).cs).tail).headD .undef).V), .osl (.own 2) ((((((H2.tail.headD .dead).cs).tail).tail).headD .undef).len), .osl (.own 3) (((((((H2.tail.headD .dead).cs).tail).tail).tail).headD .undef).len), .osl (.own 4) ((((((((H2.tail.headD .dead).cs).tail).tail).tail).tail).headD .undef).len)], .row t_path_node ((H2.tail.tail.headD .dead).xs), .row t_uint8 ((H2.tail.tail.tail.headD .dead).xs), .row t_uint8 ((H2.tail.tail.tail.tail.headD .dead).xs), .cells [.v (.int .i64) ((((H2.tail.tail.tail.tail.tail.headD .dead).cs).headD .undef).V)]]) (lp_slices_IndexFunc_int_pathcomparercompare2_0 Q m0 x0 x7 (IntKind.i64.wrap (x8 + (1 : Int))) ((((H2.tail.headD .dead).cs).headD .undef).V) (((((H2.tail.headD .dead).cs).tail).headD .undef).V) ((((((H2.tail.headD .dead).cs).tail).tail).headD .undef).len) (((((((H2.tail.headD .dead).cs).tail).tail).tail).headD .undef).len) ((((((((H2.tail.headD .dead).cs).tail).tail).tail).tail).headD .undef).len) ((H2.tail.tail.headD .dead).xs) ((H2.tail.tail.tail.headD .dead).xs) ((H2.tail.tail.tail.tail.headD .dead).xs) ((((H2.tail.tail.tail.tail.tail.headD .dead).cs).headD .undef).V))) (True ∧ Q (.v (.int .i64) (V.i (-1))) [.cells [.ptr (.own 1) 0], .cells [.v (.sl t_Rank) (h1_0), .v (.sl t_path_node) (h1_1), .osl (.own 2) h1_2n, .osl (.own 3) h1_3n, .osl (.own 4) h1_4n], .row t_path_node h2, .row t_uint8 h3, .row t_uint8 h4, .cells [.v (.int .i64) (h5_0)]])
theorem lp_slices_IndexFunc_int_pathcomparercompare2_0_s (Q : QD) (m0 : Nat) (x0 : LL) (x7 x8 : Int) (h1_0 h1_1 : V) (h1_2n h1_3n h1_4n : Nat) (h2 h3 h4 : LL) (h5_0 : V) : lp_slices_IndexFunc_int_pathcomparercompare2_0 Q (m0 + 1) x0 x7 x8 h1_0 h1_1 h1_2n h1_3n h1_4n h2 h3 h4 h5_0 = st_slices_IndexFunc_int_pathcomparercompare2_0 Q m0 x0 x7 x8 h1_0 h1_1 h1_2n h1_3n h1_4n h2 h3 h4 h5_0 := by kernel_rfl
theorem range_slices_IndexFunc_int_pathcomparercompare2_0 (Q : QD) (x0 : LL) (n : Nat) (hb : n ≤ big) (J : Nat → V → V → Nat → Nat → Nat → LL → LL → LL → V → Prop)
    (step : ∀ (k : Nat) (h1_0 h1_1 : V) (h1_2n h1_3n h1_4n : Nat) (h2 h3 h4 : LL) (h5_0 : V), k < n → J k h1_0 h1_1 h1_2n h1_3n h1_4n h2 h3 h4 h5_0 → ∀ K : V → V → Nat → Nat → Nat → LL → LL → LL → V → Prop, (∀ (h1_0' h1_1' : V) (h1_2n' h1_3n' h1_4n' : Nat) (h2' h3' h4' : LL) (h5_0' : V), J (k + 1) h1_0' h1_1' h1_2n' h1_3n' h1_4n' h2' h3' h4' h5_0' → K h1_0' h1_1' h1_2n' h1_3n' h1_4n' h2' h3' h4' h5_0') → (0 ≤ (k : Int) ∧ (k : Int) < x0.length ∧ cl f_path_comparer_compare_2 [.v (.int .i64) (((x0.getD k []).drop 0).headD V.none), .ptr (.own 0) 0, .ptr (.own 5) 0] [.cells [.ptr (.own 1) 0], .cells [.v (.sl t_Rank) (h1_0), .v (.sl t_path_node) (h1_1), .osl (.own 2) h1_2n, .osl (.own 3) h1_3n, .osl (.own 4) h1_4n], .row t_path_node h2, .row t_uint8 h3, .row t_uint8 h4, .cells [.v (.int .i64) (h5_0)]] fun r1 H2 => r1 = (.v .bool (r1.V)) ∧ H2 = [.cells [.ptr (.own 1) 0], .cells [.v (.sl t_Rank) ((((H2.tail.headD .dead).cs).headD .undef).V), .v (.sl t_path_node) (((((H2.tail.headD .dead).cs).tail).headD .undef).V), .osl (.own 2) ((((((H2.tail.headD .dead).cs).tail).tail).headD .undef).len), .osl (.own 3) (((((((H2.tail.headD .dead).cs).tail).tail).tail).headD .undef).len), .osl (.own 4) ((((((((H2.tail.headD .dead).cs).tail).tail).tail).tail).headD .undef).len)], .row t_path_node ((H2.tail.tail.headD .dead).xs), .row t_uint8 ((H2.tail.tail.tail.headD .dead).xs), .row t_uint8 ((H2.tail.tail.tail.tail.headD .dead).xs), .cells [.v (.int .i64) ((((H2.tail.tail.tail.tail.tail.headD .dead).cs).headD .undef).V)]] ∧ iff r1.V.bool (True ∧ Q (.v (.int .i64) (V.i (k : Int))) [.cells [.ptr (.own 1) 0], .cells [.v (.sl t_Rank) ((((H2.tail.headD .dead).cs).headD .undef).V), .v (.sl t_path_node) (((((H2.tail.headD .dead).cs).tail).headD .undef).V), .osl (.own 2) ((((((H2.tail.headD .dead).cs).tail).tail).headD .undef).len), .osl (.own 3) (((((((H2.tail.headD .dead).cs).tail).tail).tail).headD .undef).len), .osl (.own 4) ((((((((H2.tail.headD .dead).cs).tail).tail).tail).tail).headD .undef).len)], .row t_path_node ((H2.tail.tail.headD .dead).xs), .row t_uint8 ((H2.tail.tail.tail.headD .dead).xs), .row t_uint8 ((H2.tail.tail.tail.tail.headD .dead).xs), .cells [.v (.int .i64) ((((H2.tail.tail.tail.tail.tail.headD .dead).cs).headD .undef).V)]]) (K ((((H2.tail.headD .dead).cs).headD .undef).V) (((((H2.tail.headD .dead).cs).tail).headD .undef).V) ((((((H2.tail.headD .dead).cs).tail).tail).headD .undef).len) (((((((H2.tail.headD .dead).cs).tail).tail).tail).headD .undef).len) ((((((((H2.tail.headD .dead).cs).tail).tail).tail).tail).headD .undef).len) ((H2.tail.tail.headD .dead).xs) ((H2.tail.tail.tail.headD .dead).xs) ((H2.tail.tail.tail.tail.headD .dead).xs) ((((H2.tail.tail.tail.tail.tail.headD .dead).cs).headD .undef).V))))
    (last : ∀ (h1_0 h1_1 : V) (h1_2n h1_3n h1_4n : Nat) (h2 h3 h4 : LL) (h5_0 : V), J n h1_0 h1_1 h1_2n h1_3n h1_4n h2 h3 h4 h5_0 → (True ∧ Q (.v (.int .i64) (V.i (-1))) [.cells [.ptr (.own 1) 0], .cells [.v (.sl t_Rank) (h1_0), .v (.sl t_path_node) (h1_1), .osl (.own 2) h1_2n, .osl (.own 3) h1_3n, .osl (.own 4) h1_4n], .row t_path_node h2, .row t_uint8 h3, .row t_uint8 h4, .cells [.v (.int .i64) (h5_0)]]))
    (k : Nat) (h1_0 h1_1 : V) (h1_2n h1_3n h1_4n : Nat) (h2 h3 h4 : LL) (h5_0 : V) (le0 : k ≤ n) (hj : J k h1_0 h1_1 h1_2n h1_3n h1_4n h2 h3 h4 h5_0) : ∃ m0, lp_slices_IndexFunc_int_pathcomparercompare2_0 Q m0 x0 (n : Int) ((k : Int)) h1_0 h1_1 h1_2n h1_3n h1_4n h2 h3 h4 h5_0 := by
  exact rangeG9 n hb J (fun m0 i h1_0 h1_1 h1_2n h1_3n h1_4n h2 h3 h4 h5_0 => lp_slices_IndexFunc_int_pathcomparercompare2_0 Q m0 x0 (n : Int) i h1_0 h1_1 h1_2n h1_3n h1_4n h2 h3 h4 h5_0) (fun m0 i h1_0 h1_1 h1_2n h1_3n h1_4n h2 h3 h4 h5_0 => lp_slices_IndexFunc_int_pathcomparercompare2_0_s Q m0 x0 (n : Int) i h1_0 h1_1 h1_2n h1_3n h1_4n h2 h3 h4 h5_0) (fun k h1_0 h1_1 h1_2n h1_3n h1_4n h2 h3 h4 h5_0 hl_ hj_ m_ ih_ => step k h1_0 h1_1 h1_2n h1_3n h1_4n h2 h3 h4 h5_0 hl_ hj_ _ ih_) last k h1_0 h1_1 h1_2n h1_3n h1_4n h2 h3 h4 h5_0 le0 hj
def vc_slices_IndexFunc_int_pathcomparercompare2 (a0 h1_0 h1_1 : LL) (h1_2n h1_3n h1_4n : Nat) (h2 h3 h4 : LL) (h5_0 : Int) (Q : QD) : Prop :=
  (a0.length ≤ big → ∃ m0, lp_slices_IndexFunc_int_pathcomparercompare2_0 Q m0 a0 ((a0.length : Int)) 0 (V.l h1_0) (V.l h1_1) h1_2n h1_3n h1_4n h2 h3 h4 (V.i h5_0))
theorem C_slices_IndexFunc_int_pathcomparercompare2 (a0 h1_0 h1_1 : LL) (h1_2n h1_3n h1_4n : Nat) (h2 h3 h4 : LL) (h5_0 : Int) (Q : QD) (h : vc_slices_IndexFunc_int_pathcomparercompare2 a0 h1_0 h1_1 h1_2n h1_3n h1_4n h2 h3 h4 h5_0 Q) : cl f_slices_IndexFunc_int [.v (.sl t_int) (V.l a0), .fn f_path_comparer_compare_2 [.ptr (.own 0) 0, .ptr (.own 5) 0]] [.cells [.ptr (.own 1) 0], .cells [.v (.sl t_Rank) (V.l h1_0), .v (.sl t_path_node) (V.l h1_1), .osl (.own 2) h1_2n, .osl (.own 3) h1_3n, .osl (.own 4) h1_4n], .row t_path_node h2, .row t_uint8 h3, .row t_uint8 h4, .cells [.v (.int .i64) (V.i h5_0)]] Q :=
  acalls2 (E := env_slices_IndexFunc_int_pathcomparercompare2) (envOk _ _ _ _ _) 0 Tryz.func98 (by kernel_rfl) h
def env_slices_ContainsFunc_Term_termformed1 : Env := envA [] [] [] [] []
def vc_slices_ContainsFunc_Term_termformed1 (a0 : LL) (Q : QD) : Prop :=
  cl f_slices_IndexFunc_Term [.v (.sl t_Term) (V.l a0), .fn f_term_formed_1 []] [] fun r1 H2 => r1 = (.v (.int .i64) (r1.V)) ∧ H2 = [] ∧ True ∧ Q (.v .bool (V.b (decide (r1.V.int ≥ (0 : Int))))) []
theorem C_slices_ContainsFunc_Term_termformed1 (a0 : LL) (Q : QD) (h : vc_slices_ContainsFunc_Term_termformed1 a0 Q) : cl f_slices_ContainsFunc_Term [.v (.sl t_Term) (V.l a0), .fn f_term_formed_1 []] [] Q :=
  acalls2 (E := env_slices_ContainsFunc_Term_termformed1) (envOk _ _ _ _ _) 0 Tryz.func102 (by kernel_rfl) h
def env_term_Size : Env := envA [(3, ua 0 3 (ua 5 2 (ua 10 8 ([.dead 1, .dead 5, .dead 15]))))] [] [] [] []
def kl_term_Size_0 (Q : QD) : Post := blockK 0 (seqJ env_term_Size (fnAt [1, 1, 1] Tryz.f104) (endK env_term_Size Tryz.f104 Q))
@[irreducible] def lp_term_Size_0 (Q : QD) (m0 : Nat) (x3 : Int) (x7 : LL) (x8 x9 : Int) : Prop :=
  iter (adj (env_term_Size.adj 3)) (evCode env_term_Size (fnAt [1, 1, 0, 1, 0, 0] Tryz.f104)) (kl_term_Size_0 Q) m0 ⟨un 3 ((.v (.int .i64) (V.i x3)) :: .skip :: un 2 ((.v (.sl t_Term) (V.l x7)) :: (.v (.int .i64) (V.i x8)) :: (.v (.int .i64) (V.i x9)) :: un 8 ([.skip]))), dd 19 ([])⟩ []
def st_term_Size_0 (Q : QD) (m0 : Nat) (x3 : Int) (x7 : LL) (x8 x9 : Int) : Prop :=
  iff (decide (x9 < x8)) (0 ≤ x9 ∧ x9 < x7.length ∧ cl f_term_Size [.agg [.v .str (((x7.getD x9.toNat []).drop 0).headD V.none), .v .bool ((((x7.getD x9.toNat []).drop 0).tail).headD V.none), .v (.sl t_Term) (((((x7.getD x9.toNat []).drop 0).tail).tail).headD V.none)]] [] fun r1 H2 => r1 = (.v (.int .i64) (r1.V)) ∧ H2 = [] ∧ lp_term_Size_0 Q m0 (IntKind.i64.wrap (x3 + r1.V.int)) x7 x8 (IntKind.i64.wrap (x9 + (1 : Int)))) (True ∧ Q (.v (.int .i64) (V.i x3)) [])
theorem lp_term_Size_0_s (Q : QD) (m0 : Nat) (x3 : Int) (x7 : LL) (x8 x9 : Int) : lp_term_Size_0 Q (m0 + 1) x3 x7 x8 x9 = st_term_Size_0 Q m0 x3 x7 x8 x9 := by kernel_rfl
theorem range_term_Size_0 (Q : QD) (x7 : LL) (n : Nat) (hb : n ≤ big) (J : Nat → Int → Prop)
    (step : ∀ (k : Nat) (x3 : Int), k < n → J k x3 → ∀ K : Int → Prop, (∀ (x3' : Int), J (k + 1) x3' → K x3') → (0 ≤ (k : Int) ∧ (k : Int) < x7.length ∧ cl f_term_Size [.agg [.v .str (((x7.getD k []).drop 0).headD V.none), .v .bool ((((x7.getD k []).drop 0).tail).headD V.none), .v (.sl t_Term) (((((x7.getD k []).drop 0).tail).tail).headD V.none)]] [] fun r1 H2 => r1 = (.v (.int .i64) (r1.V)) ∧ H2 = [] ∧ K (IntKind.i64.wrap (x3 + r1.V.int))))
    (last : ∀ (x3 : Int), J n x3 → (True ∧ Q (.v (.int .i64) (V.i x3)) []))
    (k : Nat) (x3 : Int) (le0 : k ≤ n) (hj : J k x3) : ∃ m0, lp_term_Size_0 Q m0 x3 x7 (n : Int) ((k : Int)) := by
  exact rangeG1 n hb J (fun m0 i x3 => lp_term_Size_0 Q m0 x3 x7 (n : Int) i) (fun m0 i x3 => lp_term_Size_0_s Q m0 x3 x7 (n : Int) i) (fun k x3 hl_ hj_ m_ ih_ => step k x3 hl_ hj_ _ ih_) last k x3 le0 hj
def vc_term_Size (a0_0 : ByteArray) (a0_1 : Bool) (a0_2 : LL) (Q : QD) : Prop :=
  (a0_2.length ≤ big → ∃ m0, lp_term_Size_0 Q m0 1 a0_2 ((a0_2.length : Int)) 0)
theorem C_term_Size (a0_0 : ByteArray) (a0_1 : Bool) (a0_2 : LL) (Q : QD) (h : vc_term_Size a0_0 a0_1 a0_2 Q) : cl f_term_Size [.agg [.v .str (V.s a0_0), .v .bool (V.b a0_1), .v (.sl t_Term) (V.l a0_2)]] [] Q :=
  acalls2 (E := env_term_Size) (envOk _ _ _ _ _) 0 Tryz.func104 (by kernel_rfl) h
def env_term_Depth : Env := envA [(3, ua 0 3 (ua 5 2 (ua 10 8 ((.dead 1) :: (.dead 5) :: da 15 2 ([])))))] [] [] [] []
def kl_term_Depth_0 (Q : QD) : Post := blockK 0 (seqJ env_term_Depth (fnAt [1, 1, 1] Tryz.f105) (endK env_term_Depth Tryz.f105 Q))
@[irreducible] def lp_term_Depth_0 (Q : QD) (m0 : Nat) (x3 : Int) (x7 : LL) (x8 x9 : Int) : Prop :=
  iter (adj (env_term_Depth.adj 3)) (evCode env_term_Depth (fnAt [1, 1, 0, 1, 0, 0] Tryz.f105)) (kl_term_Depth_0 Q) m0 ⟨un 3 ((.v (.int .i64) (V.i x3)) :: .skip :: un 2 ((.v (.sl t_Term) (V.l x7)) :: (.v (.int .i64) (V.i x8)) :: (.v (.int .i64) (V.i x9)) :: un 8 (sk 2 ([])))), dd 20 ([])⟩ []
def st_term_Depth_0 (Q : QD) (m0 : Nat) (x3 : Int) (x7 : LL) (x8 x9 : Int) : Prop :=
  iff (decide (x9 < x8)) (0 ≤ x9 ∧ x9 < x7.length ∧ cl f_term_Depth [.agg [.v .str (((x7.getD x9.toNat []).drop 0).headD V.none), .v .bool ((((x7.getD x9.toNat []).drop 0).tail).headD V.none), .v (.sl t_Term) (((((x7.getD x9.toNat []).drop 0).tail).tail).headD V.none)]] [] fun r1 H2 => r1 = (.v (.int .i64) (r1.V)) ∧ H2 = [] ∧ lp_term_Depth_0 Q m0 (if r1.V.int > x3 then r1.V.int else x3) x7 x8 (IntKind.i64.wrap (x9 + (1 : Int)))) (True ∧ Q (.v (.int .i64) (V.i (IntKind.i64.wrap (x3 + (1 : Int))))) [])
theorem lp_term_Depth_0_s (Q : QD) (m0 : Nat) (x3 : Int) (x7 : LL) (x8 x9 : Int) : lp_term_Depth_0 Q (m0 + 1) x3 x7 x8 x9 = st_term_Depth_0 Q m0 x3 x7 x8 x9 := by kernel_rfl
theorem range_term_Depth_0 (Q : QD) (x7 : LL) (n : Nat) (hb : n ≤ big) (J : Nat → Int → Prop)
    (step : ∀ (k : Nat) (x3 : Int), k < n → J k x3 → ∀ K : Int → Prop, (∀ (x3' : Int), J (k + 1) x3' → K x3') → (0 ≤ (k : Int) ∧ (k : Int) < x7.length ∧ cl f_term_Depth [.agg [.v .str (((x7.getD k []).drop 0).headD V.none), .v .bool ((((x7.getD k []).drop 0).tail).headD V.none), .v (.sl t_Term) (((((x7.getD k []).drop 0).tail).tail).headD V.none)]] [] fun r1 H2 => r1 = (.v (.int .i64) (r1.V)) ∧ H2 = [] ∧ K (if r1.V.int > x3 then r1.V.int else x3)))
    (last : ∀ (x3 : Int), J n x3 → (True ∧ Q (.v (.int .i64) (V.i (IntKind.i64.wrap (x3 + (1 : Int))))) []))
    (k : Nat) (x3 : Int) (le0 : k ≤ n) (hj : J k x3) : ∃ m0, lp_term_Depth_0 Q m0 x3 x7 (n : Int) ((k : Int)) := by
  exact rangeG1 n hb J (fun m0 i x3 => lp_term_Depth_0 Q m0 x3 x7 (n : Int) i) (fun m0 i x3 => lp_term_Depth_0_s Q m0 x3 x7 (n : Int) i) (fun k x3 hl_ hj_ m_ ih_ => step k x3 hl_ hj_ _ ih_) last k x3 le0 hj
def vc_term_Depth (a0_0 : ByteArray) (a0_1 : Bool) (a0_2 : LL) (Q : QD) : Prop :=
  (a0_2.length ≤ big → ∃ m0, lp_term_Depth_0 Q m0 0 a0_2 ((a0_2.length : Int)) 0)
theorem C_term_Depth (a0_0 : ByteArray) (a0_1 : Bool) (a0_2 : LL) (Q : QD) (h : vc_term_Depth a0_0 a0_1 a0_2 Q) : cl f_term_Depth [.agg [.v .str (V.s a0_0), .v .bool (V.b a0_1), .v (.sl t_Term) (V.l a0_2)]] [] Q :=
  acalls2 (E := env_term_Depth) (envOk _ _ _ _ _) 0 Tryz.func105 (by kernel_rfl) h
def env_r03_Bound : Env := envA [(2, (.undef 0) :: (.undef 4) :: (.undef 6) :: ua 10 8 ([.dead 6]))] [] [] [] []
def kl_r03_Bound_0 (Q : QD) : Post := blockK 0 (seqJ env_r03_Bound (fnAt [1, 1] Tryz.f106) (endK env_r03_Bound Tryz.f106 Q))
@[irreducible] def lp_r03_Bound_0 (Q : QD) (m0 : Nat) (x1 : ByteArray) (x7 : LL) (x8 x9 : Int) : Prop :=
  iter (adj (env_r03_Bound.adj 2)) (evCode env_r03_Bound (fnAt [1, 0, 1, 0, 0] Tryz.f106)) (kl_r03_Bound_0 Q) m0 ⟨.undef :: (.v .str (V.s x1)) :: sk 2 (.undef :: .skip :: .undef :: (.v (.sl t_Bind) (V.l x7)) :: (.v (.int .i64) (V.i x8)) :: (.v (.int .i64) (V.i x9)) :: un 8 ([])), dd 18 ([])⟩ []
def st_r03_Bound_0 (Q : QD) (m0 : Nat) (x1 : ByteArray) (x7 : LL) (x8 x9 : Int) : Prop :=
  iff (decide (x9 < x8)) (0 ≤ x9 ∧ x9 < x7.length ∧ iff (((((x7.getD x9.toNat []).drop 0).headD V.none).str).toList == x1.toList) (True ∧ Q (.v .bool (V.b true)) []) (lp_r03_Bound_0 Q m0 x1 x7 x8 (IntKind.i64.wrap (x9 + (1 : Int))))) (True ∧ Q (.v .bool (V.b false)) [])
theorem lp_r03_Bound_0_s (Q : QD) (m0 : Nat) (x1 : ByteArray) (x7 : LL) (x8 x9 : Int) : lp_r03_Bound_0 Q (m0 + 1) x1 x7 x8 x9 = st_r03_Bound_0 Q m0 x1 x7 x8 x9 := by kernel_rfl
theorem range_r03_Bound_0 (Q : QD) (x1 : ByteArray) (x7 : LL) (n : Nat) (hb : n ≤ big) (J : Nat → Prop)
    (step : ∀ (k : Nat), k < n → J k → ∀ K : Prop, (J (k + 1) → K) → (0 ≤ (k : Int) ∧ (k : Int) < x7.length ∧ iff (((((x7.getD k []).drop 0).headD V.none).str).toList == x1.toList) (True ∧ Q (.v .bool (V.b true)) []) (K)))
    (last : J n → (True ∧ Q (.v .bool (V.b false)) []))
    (k : Nat) (le0 : k ≤ n) (hj : J k) : ∃ m0, lp_r03_Bound_0 Q m0 x1 x7 (n : Int) ((k : Int)) := by
  exact rangeG0 n hb J (fun m0 i => lp_r03_Bound_0 Q m0 x1 x7 (n : Int) i) (fun m0 i => lp_r03_Bound_0_s Q m0 x1 x7 (n : Int) i) (fun k hl_ hj_ m_ ih_ => step k hl_ hj_ _ ih_) last k le0 hj
def vc_r03_Bound (a0 : LL) (a1 : ByteArray) (Q : QD) : Prop :=
  (a0.length ≤ big → ∃ m0, lp_r03_Bound_0 Q m0 a1 a0 ((a0.length : Int)) 0)
theorem C_r03_Bound (a0 : LL) (a1 : ByteArray) (Q : QD) (h : vc_r03_Bound a0 a1 Q) : cl f_r03_Bound [.v (.sl t_Bind) (V.l a0), .v .str (V.s a1)] [] Q :=
  acalls2 (E := env_r03_Bound) (envOk _ _ _ _ _) 0 Tryz.func106 (by kernel_rfl) h
def env_r03_with : Env := envA [(2, (.undef 2) :: (.undef 6) :: ua 8 16 ([.dead 10, .dead 19]))] [(4, 13, [], [])] [24] [] []
def kl_r03_with_0 (Q : QD) : Post := blockK 0 (seqJ env_r03_with (fnAt [1, 1, 1] Tryz.f107) (endK env_r03_with Tryz.f107 Q))
@[irreducible] def lp_r03_with_0 (Q : QD) (m0 : Nat) (x0 : LL) (x1 : ByteArray) (x7 : Int) (y5_0 : ByteArray) (y5_1 : Bool) (y5_2 : LL) : Prop :=
  iter (adj (env_r03_with.adj 2)) (evCode env_r03_with (fnAt [1, 1, 0, 0, 0] Tryz.f107)) (kl_r03_with_0 Q) m0 ⟨(.v (.sl t_Bind) (V.l x0)) :: (.v .str (V.s x1)) :: .undef :: sk 2 ((.ptr (.loc 5) 0) :: .undef :: (.v (.int .i64) (V.i x7)) :: un 16 (sk 14 ([]))), dd 5 ((.cells [.v .str (V.s y5_0), .v .bool (V.b y5_1), .v (.sl t_Term) (V.l y5_2)]) :: dd 32 ([]))⟩ []
def st_r03_with_0 (Q : QD) (m0 : Nat) (x0 : LL) (x1 : ByteArray) (x7 : Int) (y5_0 : ByteArray) (y5_1 : Bool) (y5_2 : LL) : Prop :=
  (x0.length ≤ big → iff (decide (x7 < ((x0.length : Int)))) (0 ≤ x7 ∧ x7 < x0.length ∧ cl f_r01_CompareNames [.v .str (((x0.getD x7.toNat []).drop 0).headD V.none), .v .str (V.s x1)] [] fun r1 H2 => r1 = (.v (.int .i64) (r1.V)) ∧ H2 = [] ∧ iff (decide (r1.V.int < (0 : Int))) (lp_r03_with_0 Q m0 x0 x1 (IntKind.i64.wrap (x7 + (1 : Int))) y5_0 y5_1 y5_2) (0 ≤ (0 : Int) ∧ (0 : Int) ≤ x7 ∧ x7 ≤ x0.length ∧ (([] : List (List V))).length = 0 ∧ 0 + ((x0.take x7.toNat).drop (0 : Int).toNat).length ≤ lim ∧ ((([] : List (List V))) ++ ((x0.take x7.toNat).drop (0 : Int).toNat)).length = 0 + ((x0.take x7.toNat).drop (0 : Int).toNat).length ∧ 0 + ((x0.take x7.toNat).drop (0 : Int).toNat).length + ([[V.s x1, V.s y5_0, V.b y5_1, V.l y5_2]]).length ≤ lim ∧ 0 ≤ x7 ∧ x7 ≤ (x0.length : Int) ∧ (x0.length : Int) ≤ x0.length ∧ (((([] : List (List V))) ++ ((x0.take x7.toNat).drop (0 : Int).toNat)) ++ ([[V.s x1, V.s y5_0, V.b y5_1, V.l y5_2]])).length = 0 + ((x0.take x7.toNat).drop (0 : Int).toNat).length + ([[V.s x1, V.s y5_0, V.b y5_1, V.l y5_2]]).length ∧ 0 + ((x0.take x7.toNat).drop (0 : Int).toNat).length + ([[V.s x1, V.s y5_0, V.b y5_1, V.l y5_2]]).length + ((x0.take ((x0.length : Int)).toNat).drop x7.toNat).length ≤ lim ∧ (0 + ((x0.take x7.toNat).drop (0 : Int).toNat).length + ([[V.s x1, V.s y5_0, V.b y5_1, V.l y5_2]]).length + ((x0.take ((x0.length : Int)).toNat).drop x7.toNat).length = ((((([] : List (List V))) ++ ((x0.take x7.toNat).drop (0 : Int).toNat)) ++ ([[V.s x1, V.s y5_0, V.b y5_1, V.l y5_2]])) ++ ((x0.take ((x0.length : Int)).toNat).drop x7.toNat)).length) ∧ Q (.v (.sl t_Bind) (V.l ((((([] : List (List V))) ++ ((x0.take x7.toNat).drop (0 : Int).toNat)) ++ ([[V.s x1, V.s y5_0, V.b y5_1, V.l y5_2]])) ++ ((x0.take ((x0.length : Int)).toNat).drop x7.toNat)))) [])) (0 ≤ (0 : Int) ∧ (0 : Int) ≤ x7 ∧ x7 ≤ x0.length ∧ (([] : List (List V))).length = 0 ∧ 0 + ((x0.take x7.toNat).drop (0 : Int).toNat).length ≤ lim ∧ ((([] : List (List V))) ++ ((x0.take x7.toNat).drop (0 : Int).toNat)).length = 0 + ((x0.take x7.toNat).drop (0 : Int).toNat).length ∧ 0 + ((x0.take x7.toNat).drop (0 : Int).toNat).length + ([[V.s x1, V.s y5_0, V.b y5_1, V.l y5_2]]).length ≤ lim ∧ 0 ≤ x7 ∧ x7 ≤ (x0.length : Int) ∧ (x0.length : Int) ≤ x0.length ∧ (((([] : List (List V))) ++ ((x0.take x7.toNat).drop (0 : Int).toNat)) ++ ([[V.s x1, V.s y5_0, V.b y5_1, V.l y5_2]])).length = 0 + ((x0.take x7.toNat).drop (0 : Int).toNat).length + ([[V.s x1, V.s y5_0, V.b y5_1, V.l y5_2]]).length ∧ 0 + ((x0.take x7.toNat).drop (0 : Int).toNat).length + ([[V.s x1, V.s y5_0, V.b y5_1, V.l y5_2]]).length + ((x0.take ((x0.length : Int)).toNat).drop x7.toNat).length ≤ lim ∧ (0 + ((x0.take x7.toNat).drop (0 : Int).toNat).length + ([[V.s x1, V.s y5_0, V.b y5_1, V.l y5_2]]).length + ((x0.take ((x0.length : Int)).toNat).drop x7.toNat).length = ((((([] : List (List V))) ++ ((x0.take x7.toNat).drop (0 : Int).toNat)) ++ ([[V.s x1, V.s y5_0, V.b y5_1, V.l y5_2]])) ++ ((x0.take ((x0.length : Int)).toNat).drop x7.toNat)).length) ∧ Q (.v (.sl t_Bind) (V.l ((((([] : List (List V))) ++ ((x0.take x7.toNat).drop (0 : Int).toNat)) ++ ([[V.s x1, V.s y5_0, V.b y5_1, V.l y5_2]])) ++ ((x0.take ((x0.length : Int)).toNat).drop x7.toNat)))) []))
theorem lp_r03_with_0_s (Q : QD) (m0 : Nat) (x0 : LL) (x1 : ByteArray) (x7 : Int) (y5_0 : ByteArray) (y5_1 : Bool) (y5_2 : LL) : lp_r03_with_0 Q (m0 + 1) x0 x1 x7 y5_0 y5_1 y5_2 = st_r03_with_0 Q m0 x0 x1 x7 y5_0 y5_1 y5_2 := by kernel_rfl
theorem rule_r03_with_0 (Q : QD) : RuleG6 (lp_r03_with_0 Q) (st_r03_with_0 Q) := ruleG6 _ _ (lp_r03_with_0_s Q)
def vc_r03_with (a0 : LL) (a1 a2_0 : ByteArray) (a2_1 : Bool) (a2_2 : LL) (Q : QD) : Prop :=
  ∃ m0, lp_r03_with_0 Q m0 a0 a1 0 a2_0 a2_1 a2_2
theorem C_r03_with (a0 : LL) (a1 a2_0 : ByteArray) (a2_1 : Bool) (a2_2 : LL) (Q : QD) (h : vc_r03_with a0 a1 a2_0 a2_1 a2_2 Q) : cl f_r03_with [.v (.sl t_Bind) (V.l a0), .v .str (V.s a1), .agg [.v .str (V.s a2_0), .v .bool (V.b a2_1), .v (.sl t_Term) (V.l a2_2)]] [] Q :=
  acalls2 (E := env_r03_with) (envOk _ _ _ _ _) 0 Tryz.func107 (by kernel_rfl) h
def env_term_IsName_1 : Env := envA [] [] [] [] []
def vc_term_IsName_1 (a0 : Int) (Q : QD) : Prop :=
  cl f_term_inName [.v (.int .u8) (V.i a0)] [] fun r1 H2 => r1 = (.v .bool (r1.V)) ∧ H2 = [] ∧ True ∧ Q (.v .bool (V.b (!r1.V.bool))) []
theorem C_term_IsName_1 (a0 : Int) (Q : QD) (h : vc_term_IsName_1 a0 Q) : cl f_term_IsName_1 [.v (.int .u8) (V.i a0)] [] Q :=
  acalls2 (E := env_term_IsName_1) (envOk _ _ _ _ _) 0 Tryz.func75 (by kernel_rfl) h
def env_slices_IndexFunc_string_termextra1 : Env := envA [(2, ua 4 3 (ua 9 10 ([.dead 16])))] [] [] [] []
def kl_slices_IndexFunc_string_termextra1_0 (Q : QD) : Post := blockK 0 (seqJ env_slices_IndexFunc_string_termextra1 (fnAt [1, 1] Tryz.f81) (endK env_slices_IndexFunc_string_termextra1 Tryz.f81 Q))
@[irreducible] def lp_slices_IndexFunc_string_termextra1_0 (Q : QD) (m0 : Nat) (x0 : LL) (x7 x8 : Int) (h0_0 : V) : Prop :=
  iter (adj (env_slices_IndexFunc_string_termextra1.adj 2)) (evCode env_slices_IndexFunc_string_termextra1 (fnAt [1, 0, 1, 0, 0] Tryz.f81)) (kl_slices_IndexFunc_string_termextra1_0 Q) m0 ⟨(.v (.sl t_string) (V.l x0)) :: (.fn f_term_extra_1 [.ptr (.own 0) 0]) :: sk 2 (un 3 ((.v (.int .i64) (V.i x7)) :: (.v (.int .i64) (V.i x8)) :: un 10 ([]))), dd 19 ([])⟩ [.cells [.v (.sl t_string) (h0_0)]]
def st_slices_IndexFunc_string_termextra1_0 (Q : QD) (m0 : Nat) (x0 : LL) (x7 x8 : Int) (h0_0 : V) : Prop :=
  iff (decide (x8 < x7)) (0 ≤ x8 ∧ x8 < x0.length ∧ cl f_term_extra_1 [.v .str (((x0.getD x8.toNat []).drop 0).headD V.none), .ptr (.own 0) 0] [.cells [.v (.sl t_string) (h0_0)]] fun r1 H2 => r1 = (.v .bool (r1.V)) ∧ H2 = [.cells [.v (.sl t_string) ((((H2.headD .dead).cs).headD .undef).V)]] ∧ iff r1.V.bool (True ∧ Q (.v (.int .i64) (V.i x8)) [.cells [.v (.sl t_string) ((((H2.headD .dead).cs).headD .undef).V)]]) (lp_slices_IndexFunc_string_termextra1_0 Q m0 x0 x7 (IntKind.i64.wrap (x8 + (1 : Int))) ((((H2.headD .dead).cs).headD .undef).V))) (True ∧ Q (.v (.int .i64) (V.i (-1))) [.cells [.v (.sl t_string) (h0_0)]])
theorem lp_slices_IndexFunc_string_termextra1_0_s (Q : QD) (m0 : Nat) (x0 : LL) (x7 x8 : Int) (h0_0 : V) : lp_slices_IndexFunc_string_termextra1_0 Q (m0 + 1) x0 x7 x8 h0_0 = st_slices_IndexFunc_string_termextra1_0 Q m0 x0 x7 x8 h0_0 := by kernel_rfl
theorem range_slices_IndexFunc_string_termextra1_0 (Q : QD) (x0 : LL) (n : Nat) (hb : n ≤ big) (J : Nat → V → Prop)
    (step : ∀ (k : Nat) (h0_0 : V), k < n → J k h0_0 → ∀ K : V → Prop, (∀ (h0_0' : V), J (k + 1) h0_0' → K h0_0') → (0 ≤ (k : Int) ∧ (k : Int) < x0.length ∧ cl f_term_extra_1 [.v .str (((x0.getD k []).drop 0).headD V.none), .ptr (.own 0) 0] [.cells [.v (.sl t_string) (h0_0)]] fun r1 H2 => r1 = (.v .bool (r1.V)) ∧ H2 = [.cells [.v (.sl t_string) ((((H2.headD .dead).cs).headD .undef).V)]] ∧ iff r1.V.bool (True ∧ Q (.v (.int .i64) (V.i (k : Int))) [.cells [.v (.sl t_string) ((((H2.headD .dead).cs).headD .undef).V)]]) (K ((((H2.headD .dead).cs).headD .undef).V))))
    (last : ∀ (h0_0 : V), J n h0_0 → (True ∧ Q (.v (.int .i64) (V.i (-1))) [.cells [.v (.sl t_string) (h0_0)]]))
    (k : Nat) (h0_0 : V) (le0 : k ≤ n) (hj : J k h0_0) : ∃ m0, lp_slices_IndexFunc_string_termextra1_0 Q m0 x0 (n : Int) ((k : Int)) h0_0 := by
  exact rangeG1 n hb J (fun m0 i h0_0 => lp_slices_IndexFunc_string_termextra1_0 Q m0 x0 (n : Int) i h0_0) (fun m0 i h0_0 => lp_slices_IndexFunc_string_termextra1_0_s Q m0 x0 (n : Int) i h0_0) (fun k h0_0 hl_ hj_ m_ ih_ => step k h0_0 hl_ hj_ _ ih_) last k h0_0 le0 hj
def vc_slices_IndexFunc_string_termextra1 (a0 h0_0 : LL) (Q : QD) : Prop :=
  (a0.length ≤ big → ∃ m0, lp_slices_IndexFunc_string_termextra1_0 Q m0 a0 ((a0.length : Int)) 0 (V.l h0_0))
theorem C_slices_IndexFunc_string_termextra1 (a0 h0_0 : LL) (Q : QD) (h : vc_slices_IndexFunc_string_termextra1 a0 h0_0 Q) : cl f_slices_IndexFunc_string [.v (.sl t_string) (V.l a0), .fn f_term_extra_1 [.ptr (.own 0) 0]] [.cells [.v (.sl t_string) (V.l h0_0)]] Q :=
  acalls2 (E := env_slices_IndexFunc_string_termextra1) (envOk _ _ _ _ _) 0 Tryz.func81 (by kernel_rfl) h
def env_path_comparer_compare_1 : Env := envA [] [] [] [] []
def vc_path_comparer_compare_1 (a0 : Int) (h1_0 h1_1 : LL) (h1_2n h1_3n h1_4n : Nat) (h2 h3 h4 : LL) (h5_0 : Int) (Q : QD) : Prop :=
  cl f_path_comparer_equal [.ptr (.own 0) 0, .v (.int .i64) (V.i a0), .v (.int .i64) (V.i h5_0)] [.cells [.v (.sl t_Rank) (V.l h1_0), .v (.sl t_path_node) (V.l h1_1), .osl (.own 1) h1_2n, .osl (.own 2) h1_3n, .osl (.own 3) h1_4n], .row t_path_node h2, .row t_uint8 h3, .row t_uint8 h4] fun r1 H2 => r1 = (.v .bool (r1.V)) ∧ H2 = [.cells [.v (.sl t_Rank) ((((H2.headD .dead).cs).headD .undef).V), .v (.sl t_path_node) (((((H2.headD .dead).cs).tail).headD .undef).V), .osl (.own 1) ((((((H2.headD .dead).cs).tail).tail).headD .undef).len), .osl (.own 2) (((((((H2.headD .dead).cs).tail).tail).tail).headD .undef).len), .osl (.own 3) ((((((((H2.headD .dead).cs).tail).tail).tail).tail).headD .undef).len)], .row t_path_node ((H2.tail.headD .dead).xs), .row t_uint8 ((H2.tail.tail.headD .dead).xs), .row t_uint8 ((H2.tail.tail.tail.headD .dead).xs)] ∧ iff r1.V.bool (True ∧ Q (.v .bool (V.b true)) [.cells [.ptr (.own 1) 0], .cells [.v (.sl t_Rank) ((((H2.headD .dead).cs).headD .undef).V), .v (.sl t_path_node) (((((H2.headD .dead).cs).tail).headD .undef).V), .osl (.own 2) ((((((H2.headD .dead).cs).tail).tail).headD .undef).len), .osl (.own 3) (((((((H2.headD .dead).cs).tail).tail).tail).headD .undef).len), .osl (.own 4) ((((((((H2.headD .dead).cs).tail).tail).tail).tail).headD .undef).len)], .row t_path_node ((H2.tail.headD .dead).xs), .row t_uint8 ((H2.tail.tail.headD .dead).xs), .row t_uint8 ((H2.tail.tail.tail.headD .dead).xs), .cells [.v (.int .i64) (V.i h5_0)]]) (cl f_path_comparer_greater [.ptr (.own 0) 0, .v (.int .i64) (V.i a0), .v (.int .i64) (V.i h5_0)] [.cells [.v (.sl t_Rank) ((((H2.headD .dead).cs).headD .undef).V), .v (.sl t_path_node) (((((H2.headD .dead).cs).tail).headD .undef).V), .osl (.own 1) ((((((H2.headD .dead).cs).tail).tail).headD .undef).len), .osl (.own 2) (((((((H2.headD .dead).cs).tail).tail).tail).headD .undef).len), .osl (.own 3) ((((((((H2.headD .dead).cs).tail).tail).tail).tail).headD .undef).len)], .row t_path_node ((H2.tail.headD .dead).xs), .row t_uint8 ((H2.tail.tail.headD .dead).xs), .row t_uint8 ((H2.tail.tail.tail.headD .dead).xs)] fun r3 H4 => r3 = (.v .bool (r3.V)) ∧ H4 = [.cells [.v (.sl t_Rank) ((((H4.headD .dead).cs).headD .undef).V), .v (.sl t_path_node) (((((H4.headD .dead).cs).tail).headD .undef).V), .osl (.own 1) ((((((H4.headD .dead).cs).tail).tail).headD .undef).len), .osl (.own 2) (((((((H4.headD .dead).cs).tail).tail).tail).headD .undef).len), .osl (.own 3) ((((((((H4.headD .dead).cs).tail).tail).tail).tail).headD .undef).len)], .row t_path_node ((H4.tail.headD .dead).xs), .row t_uint8 ((H4.tail.tail.headD .dead).xs), .row t_uint8 ((H4.tail.tail.tail.headD .dead).xs)] ∧ True ∧ Q (.v .bool (r3.V)) [.cells [.ptr (.own 1) 0], .cells [.v (.sl t_Rank) ((((H4.headD .dead).cs).headD .undef).V), .v (.sl t_path_node) (((((H4.headD .dead).cs).tail).headD .undef).V), .osl (.own 2) ((((((H4.headD .dead).cs).tail).tail).headD .undef).len), .osl (.own 3) (((((((H4.headD .dead).cs).tail).tail).tail).headD .undef).len), .osl (.own 4) ((((((((H4.headD .dead).cs).tail).tail).tail).tail).headD .undef).len)], .row t_path_node ((H4.tail.headD .dead).xs), .row t_uint8 ((H4.tail.tail.headD .dead).xs), .row t_uint8 ((H4.tail.tail.tail.headD .dead).xs), .cells [.v (.int .i64) (V.i h5_0)]])
theorem C_path_comparer_compare_1 (a0 : Int) (h1_0 h1_1 : LL) (h1_2n h1_3n h1_4n : Nat) (h2 h3 h4 : LL) (h5_0 : Int) (Q : QD) (h : vc_path_comparer_compare_1 a0 h1_0 h1_1 h1_2n h1_3n h1_4n h2 h3 h4 h5_0 Q) : cl f_path_comparer_compare_1 [.v (.int .i64) (V.i a0), .ptr (.own 0) 0, .ptr (.own 5) 0] [.cells [.ptr (.own 1) 0], .cells [.v (.sl t_Rank) (V.l h1_0), .v (.sl t_path_node) (V.l h1_1), .osl (.own 2) h1_2n, .osl (.own 3) h1_3n, .osl (.own 4) h1_4n], .row t_path_node h2, .row t_uint8 h3, .row t_uint8 h4, .cells [.v (.int .i64) (V.i h5_0)]] Q :=
  acalls2 (E := env_path_comparer_compare_1) (envOk _ _ _ _ _) 0 Tryz.func84 (by kernel_rfl) h
def env_path_Of_1 : Env := envA [] [] [] [] []
def vc_path_Of_1 (a0_0 : ByteArray) (a0_1 a0_2 : Int) (a1 : ByteArray) (Q : QD) : Prop :=
  cl f_strings_Compare [.v .str (V.s a0_0), .v .str (V.s a1)] [] fun r1 H2 => r1 = (.v (.int .i64) (r1.V)) ∧ H2 = [] ∧ True ∧ Q (.v (.int .i64) (r1.V)) []
theorem C_path_Of_1 (a0_0 : ByteArray) (a0_1 a0_2 : Int) (a1 : ByteArray) (Q : QD) (h : vc_path_Of_1 a0_0 a0_1 a0_2 a1 Q) : cl f_path_Of_1 [.agg [.v .str (V.s a0_0), .v (.int .i64) (V.i a0_1), .v (.int .i64) (V.i a0_2)], .v .str (V.s a1)] [] Q :=
  acalls2 (E := env_path_Of_1) (envOk _ _ _ _ _) 0 Tryz.func100 (by kernel_rfl) h
def env_path_comparer_compare_2 : Env := envA [] [] [] [] []
def vc_path_comparer_compare_2 (a0 : Int) (h1_0 h1_1 : LL) (h1_2n h1_3n h1_4n : Nat) (h2 h3 h4 : LL) (h5_0 : Int) (Q : QD) : Prop :=
  cl f_path_comparer_greater [.ptr (.own 0) 0, .v (.int .i64) (V.i h5_0), .v (.int .i64) (V.i a0)] [.cells [.v (.sl t_Rank) (V.l h1_0), .v (.sl t_path_node) (V.l h1_1), .osl (.own 1) h1_2n, .osl (.own 2) h1_3n, .osl (.own 3) h1_4n], .row t_path_node h2, .row t_uint8 h3, .row t_uint8 h4] fun r1 H2 => r1 = (.v .bool (r1.V)) ∧ H2 = [.cells [.v (.sl t_Rank) ((((H2.headD .dead).cs).headD .undef).V), .v (.sl t_path_node) (((((H2.headD .dead).cs).tail).headD .undef).V), .osl (.own 1) ((((((H2.headD .dead).cs).tail).tail).headD .undef).len), .osl (.own 2) (((((((H2.headD .dead).cs).tail).tail).tail).headD .undef).len), .osl (.own 3) ((((((((H2.headD .dead).cs).tail).tail).tail).tail).headD .undef).len)], .row t_path_node ((H2.tail.headD .dead).xs), .row t_uint8 ((H2.tail.tail.headD .dead).xs), .row t_uint8 ((H2.tail.tail.tail.headD .dead).xs)] ∧ True ∧ Q (.v .bool (V.b (!r1.V.bool))) [.cells [.ptr (.own 1) 0], .cells [.v (.sl t_Rank) ((((H2.headD .dead).cs).headD .undef).V), .v (.sl t_path_node) (((((H2.headD .dead).cs).tail).headD .undef).V), .osl (.own 2) ((((((H2.headD .dead).cs).tail).tail).headD .undef).len), .osl (.own 3) (((((((H2.headD .dead).cs).tail).tail).tail).headD .undef).len), .osl (.own 4) ((((((((H2.headD .dead).cs).tail).tail).tail).tail).headD .undef).len)], .row t_path_node ((H2.tail.headD .dead).xs), .row t_uint8 ((H2.tail.tail.headD .dead).xs), .row t_uint8 ((H2.tail.tail.tail.headD .dead).xs), .cells [.v (.int .i64) (V.i h5_0)]]
theorem C_path_comparer_compare_2 (a0 : Int) (h1_0 h1_1 : LL) (h1_2n h1_3n h1_4n : Nat) (h2 h3 h4 : LL) (h5_0 : Int) (Q : QD) (h : vc_path_comparer_compare_2 a0 h1_0 h1_1 h1_2n h1_3n h1_4n h2 h3 h4 h5_0 Q) : cl f_path_comparer_compare_2 [.v (.int .i64) (V.i a0), .ptr (.own 0) 0, .ptr (.own 5) 0] [.cells [.ptr (.own 1) 0], .cells [.v (.sl t_Rank) (V.l h1_0), .v (.sl t_path_node) (V.l h1_1), .osl (.own 2) h1_2n, .osl (.own 3) h1_3n, .osl (.own 4) h1_4n], .row t_path_node h2, .row t_uint8 h3, .row t_uint8 h4, .cells [.v (.int .i64) (V.i h5_0)]] Q :=
  acalls2 (E := env_path_comparer_compare_2) (envOk _ _ _ _ _) 0 Tryz.func87 (by kernel_rfl) h
def env_slices_IndexFunc_Term_termformed1 : Env := envA [(2, ua 4 3 (ua 9 10 ([.dead 16])))] [] [] [] []
def kl_slices_IndexFunc_Term_termformed1_0 (Q : QD) : Post := blockK 0 (seqJ env_slices_IndexFunc_Term_termformed1 (fnAt [1, 1] Tryz.f120) (endK env_slices_IndexFunc_Term_termformed1 Tryz.f120 Q))
@[irreducible] def lp_slices_IndexFunc_Term_termformed1_0 (Q : QD) (m0 : Nat) (x0 : LL) (x7 x8 : Int) : Prop :=
  iter (adj (env_slices_IndexFunc_Term_termformed1.adj 2)) (evCode env_slices_IndexFunc_Term_termformed1 (fnAt [1, 0, 1, 0, 0] Tryz.f120)) (kl_slices_IndexFunc_Term_termformed1_0 Q) m0 ⟨(.v (.sl t_Term) (V.l x0)) :: (.fn f_term_formed_1 []) :: sk 2 (un 3 ((.v (.int .i64) (V.i x7)) :: (.v (.int .i64) (V.i x8)) :: un 10 ([]))), dd 19 ([])⟩ []
def st_slices_IndexFunc_Term_termformed1_0 (Q : QD) (m0 : Nat) (x0 : LL) (x7 x8 : Int) : Prop :=
  iff (decide (x8 < x7)) (0 ≤ x8 ∧ x8 < x0.length ∧ cl f_term_formed_1 [.agg [.v .str (((x0.getD x8.toNat []).drop 0).headD V.none), .v .bool ((((x0.getD x8.toNat []).drop 0).tail).headD V.none), .v (.sl t_Term) (((((x0.getD x8.toNat []).drop 0).tail).tail).headD V.none)]] [] fun r1 H2 => r1 = (.v .bool (r1.V)) ∧ H2 = [] ∧ iff r1.V.bool (True ∧ Q (.v (.int .i64) (V.i x8)) []) (lp_slices_IndexFunc_Term_termformed1_0 Q m0 x0 x7 (IntKind.i64.wrap (x8 + (1 : Int))))) (True ∧ Q (.v (.int .i64) (V.i (-1))) [])
theorem lp_slices_IndexFunc_Term_termformed1_0_s (Q : QD) (m0 : Nat) (x0 : LL) (x7 x8 : Int) : lp_slices_IndexFunc_Term_termformed1_0 Q (m0 + 1) x0 x7 x8 = st_slices_IndexFunc_Term_termformed1_0 Q m0 x0 x7 x8 := by kernel_rfl
theorem range_slices_IndexFunc_Term_termformed1_0 (Q : QD) (x0 : LL) (n : Nat) (hb : n ≤ big) (J : Nat → Prop)
    (step : ∀ (k : Nat), k < n → J k → ∀ K : Prop, (J (k + 1) → K) → (0 ≤ (k : Int) ∧ (k : Int) < x0.length ∧ cl f_term_formed_1 [.agg [.v .str (((x0.getD k []).drop 0).headD V.none), .v .bool ((((x0.getD k []).drop 0).tail).headD V.none), .v (.sl t_Term) (((((x0.getD k []).drop 0).tail).tail).headD V.none)]] [] fun r1 H2 => r1 = (.v .bool (r1.V)) ∧ H2 = [] ∧ iff r1.V.bool (True ∧ Q (.v (.int .i64) (V.i (k : Int))) []) (K)))
    (last : J n → (True ∧ Q (.v (.int .i64) (V.i (-1))) []))
    (k : Nat) (le0 : k ≤ n) (hj : J k) : ∃ m0, lp_slices_IndexFunc_Term_termformed1_0 Q m0 x0 (n : Int) ((k : Int)) := by
  exact rangeG0 n hb J (fun m0 i => lp_slices_IndexFunc_Term_termformed1_0 Q m0 x0 (n : Int) i) (fun m0 i => lp_slices_IndexFunc_Term_termformed1_0_s Q m0 x0 (n : Int) i) (fun k hl_ hj_ m_ ih_ => step k hl_ hj_ _ ih_) last k le0 hj
def vc_slices_IndexFunc_Term_termformed1 (a0 : LL) (Q : QD) : Prop :=
  (a0.length ≤ big → ∃ m0, lp_slices_IndexFunc_Term_termformed1_0 Q m0 a0 ((a0.length : Int)) 0)
theorem C_slices_IndexFunc_Term_termformed1 (a0 : LL) (Q : QD) (h : vc_slices_IndexFunc_Term_termformed1 a0 Q) : cl f_slices_IndexFunc_Term [.v (.sl t_Term) (V.l a0), .fn f_term_formed_1 []] [] Q :=
  acalls2 (E := env_slices_IndexFunc_Term_termformed1) (envOk _ _ _ _ _) 0 Tryz.func120 (by kernel_rfl) h
def env_term_inName : Env := envA [] [] [] [] []
def vc_term_inName (a0 : Int) (Q : QD) : Prop :=
  iff (decide (a0 ≥ (97 : Int))) (iff (decide (a0 ≤ (122 : Int))) (True ∧ Q (.v .bool (V.b true)) []) (iff (decide (a0 ≥ (65 : Int))) (iff (decide (a0 ≤ (90 : Int))) (True ∧ Q (.v .bool (V.b true)) []) (iff (decide (a0 ≥ (48 : Int))) (iff (decide (a0 ≤ (57 : Int))) (True ∧ Q (.v .bool (V.b true)) []) (iff (a0 == (95 : Int)) (True ∧ Q (.v .bool (V.b true)) []) (True ∧ Q (.v .bool (V.b (a0 == (39 : Int)))) []))) (iff (a0 == (95 : Int)) (True ∧ Q (.v .bool (V.b true)) []) (True ∧ Q (.v .bool (V.b (a0 == (39 : Int)))) [])))) (iff (decide (a0 ≥ (48 : Int))) (iff (decide (a0 ≤ (57 : Int))) (True ∧ Q (.v .bool (V.b true)) []) (iff (a0 == (95 : Int)) (True ∧ Q (.v .bool (V.b true)) []) (True ∧ Q (.v .bool (V.b (a0 == (39 : Int)))) []))) (iff (a0 == (95 : Int)) (True ∧ Q (.v .bool (V.b true)) []) (True ∧ Q (.v .bool (V.b (a0 == (39 : Int)))) []))))) (iff (decide (a0 ≥ (65 : Int))) (iff (decide (a0 ≤ (90 : Int))) (True ∧ Q (.v .bool (V.b true)) []) (iff (decide (a0 ≥ (48 : Int))) (iff (decide (a0 ≤ (57 : Int))) (True ∧ Q (.v .bool (V.b true)) []) (iff (a0 == (95 : Int)) (True ∧ Q (.v .bool (V.b true)) []) (True ∧ Q (.v .bool (V.b (a0 == (39 : Int)))) []))) (iff (a0 == (95 : Int)) (True ∧ Q (.v .bool (V.b true)) []) (True ∧ Q (.v .bool (V.b (a0 == (39 : Int)))) [])))) (iff (decide (a0 ≥ (48 : Int))) (iff (decide (a0 ≤ (57 : Int))) (True ∧ Q (.v .bool (V.b true)) []) (iff (a0 == (95 : Int)) (True ∧ Q (.v .bool (V.b true)) []) (True ∧ Q (.v .bool (V.b (a0 == (39 : Int)))) []))) (iff (a0 == (95 : Int)) (True ∧ Q (.v .bool (V.b true)) []) (True ∧ Q (.v .bool (V.b (a0 == (39 : Int)))) []))))
theorem C_term_inName (a0 : Int) (Q : QD) (h : vc_term_inName a0 Q) : cl f_term_inName [.v (.int .u8) (V.i a0)] [] Q :=
  acalls2 (E := env_term_inName) (envOk _ _ _ _ _) 0 Tryz.func76 (by kernel_rfl) h
def env_term_extra_1 : Env := envA [] [] [] [] []
def vc_term_extra_1 (a0 : ByteArray) (h0_0 : LL) (Q : QD) : Prop :=
  cl f_slices_Contains_string [.v (.sl t_string) (V.l h0_0), .v .str (V.s a0)] [] fun r1 H2 => r1 = (.v .bool (r1.V)) ∧ H2 = [] ∧ True ∧ Q (.v .bool (V.b (!r1.V.bool))) [.cells [.v (.sl t_string) (V.l h0_0)]]
theorem C_term_extra_1 (a0 : ByteArray) (h0_0 : LL) (Q : QD) (h : vc_term_extra_1 a0 h0_0 Q) : cl f_term_extra_1 [.v .str (V.s a0), .ptr (.own 0) 0] [.cells [.v (.sl t_string) (V.l h0_0)]] Q :=
  acalls2 (E := env_term_extra_1) (envOk _ _ _ _ _) 0 Tryz.func62 (by kernel_rfl) h
def env_strings_Compare : Env := envA [] [] [] [] []
def vc_strings_Compare (a0 a1 : ByteArray) (Q : QD) : Prop :=
  cl f_bytealg_CompareString [.v .str (V.s a0), .v .str (V.s a1)] [] fun r1 H2 => r1 = (.v (.int .i64) (r1.V)) ∧ H2 = [] ∧ True ∧ Q (.v (.int .i64) (r1.V)) []
theorem C_strings_Compare (a0 a1 : ByteArray) (Q : QD) (h : vc_strings_Compare a0 a1 Q) : cl f_strings_Compare [.v .str (V.s a0), .v .str (V.s a1)] [] Q :=
  acalls2 (E := env_strings_Compare) (envOk _ _ _ _ _) 0 Tryz.func101 (by kernel_rfl) h
def env_term_formed_1 : Env := envA [] [] [] [] []
def vc_term_formed_1 (a0_0 : ByteArray) (a0_1 : Bool) (a0_2 : LL) (Q : QD) : Prop :=
  cl f_term_formed [.agg [.v .str (V.s a0_0), .v .bool (V.b a0_1), .v (.sl t_Term) (V.l a0_2)]] [] fun r1 H2 => r1 = (.v .bool (r1.V)) ∧ H2 = [] ∧ True ∧ Q (.v .bool (V.b (!r1.V.bool))) []
theorem C_term_formed_1 (a0_0 : ByteArray) (a0_1 : Bool) (a0_2 : LL) (Q : QD) (h : vc_term_formed_1 a0_0 a0_1 a0_2 Q) : cl f_term_formed_1 [.agg [.v .str (V.s a0_0), .v .bool (V.b a0_1), .v (.sl t_Term) (V.l a0_2)]] [] Q :=
  acalls2 (E := env_term_formed_1) (envOk _ _ _ _ _) 0 Tryz.func103 (by kernel_rfl) h
def env_slices_Contains_string : Env := envA [] [] [] [] []
def vc_slices_Contains_string (a0 : LL) (a1 : ByteArray) (Q : QD) : Prop :=
  cl f_slices_Index_string [.v (.sl t_string) (V.l a0), .v .str (V.s a1)] [] fun r1 H2 => r1 = (.v (.int .i64) (r1.V)) ∧ H2 = [] ∧ True ∧ Q (.v .bool (V.b (decide (r1.V.int ≥ (0 : Int))))) []
theorem C_slices_Contains_string (a0 : LL) (a1 : ByteArray) (Q : QD) (h : vc_slices_Contains_string a0 a1 Q) : cl f_slices_Contains_string [.v (.sl t_string) (V.l a0), .v .str (V.s a1)] [] Q :=
  acalls2 (E := env_slices_Contains_string) (envOk _ _ _ _ _) 0 Tryz.func63 (by kernel_rfl) h
def env_bytealg_CompareString : Env := envA [] [] [] [] []
def vc_bytealg_CompareString (a0 a1 : ByteArray) (Q : QD) : Prop :=
  True ∧ Q (.v (.int .i64) (V.i (Lib.compareBytes a0.data.toList a1.data.toList))) []
theorem C_bytealg_CompareString (a0 a1 : ByteArray) (Q : QD) (h : vc_bytealg_CompareString a0 a1 Q) : cl f_bytealg_CompareString [.v .str (V.s a0), .v .str (V.s a1)] [] Q :=
  acalls2 (E := env_bytealg_CompareString) (envOk _ _ _ _ _) 0 Tryz.func119 (by kernel_rfl) h
def env_slices_Index_string : Env := envA [(2, ua 4 3 (ua 9 10 ([])))] [] [] [] []
def kl_slices_Index_string_0 (Q : QD) : Post := blockK 0 (seqJ env_slices_Index_string (fnAt [1, 1] Tryz.f82) (endK env_slices_Index_string Tryz.f82 Q))
@[irreducible] def lp_slices_Index_string_0 (Q : QD) (m0 : Nat) (x0 : LL) (x1 : ByteArray) (x7 x8 : Int) : Prop :=
  iter (adj (env_slices_Index_string.adj 2)) (evCode env_slices_Index_string (fnAt [1, 0, 1, 0, 0] Tryz.f82)) (kl_slices_Index_string_0 Q) m0 ⟨(.v (.sl t_string) (V.l x0)) :: (.v .str (V.s x1)) :: sk 2 (un 3 ((.v (.int .i64) (V.i x7)) :: (.v (.int .i64) (V.i x8)) :: un 10 ([]))), dd 19 ([])⟩ []
def st_slices_Index_string_0 (Q : QD) (m0 : Nat) (x0 : LL) (x1 : ByteArray) (x7 x8 : Int) : Prop :=
  iff (decide (x8 < x7)) (0 ≤ x8 ∧ x8 < x0.length ∧ iff (x1.toList == ((((x0.getD x8.toNat []).drop 0).headD V.none).str).toList) (True ∧ Q (.v (.int .i64) (V.i x8)) []) (lp_slices_Index_string_0 Q m0 x0 x1 x7 (IntKind.i64.wrap (x8 + (1 : Int))))) (True ∧ Q (.v (.int .i64) (V.i (-1))) [])
theorem lp_slices_Index_string_0_s (Q : QD) (m0 : Nat) (x0 : LL) (x1 : ByteArray) (x7 x8 : Int) : lp_slices_Index_string_0 Q (m0 + 1) x0 x1 x7 x8 = st_slices_Index_string_0 Q m0 x0 x1 x7 x8 := by kernel_rfl
theorem range_slices_Index_string_0 (Q : QD) (x0 : LL) (x1 : ByteArray) (n : Nat) (hb : n ≤ big) (J : Nat → Prop)
    (step : ∀ (k : Nat), k < n → J k → ∀ K : Prop, (J (k + 1) → K) → (0 ≤ (k : Int) ∧ (k : Int) < x0.length ∧ iff (x1.toList == ((((x0.getD k []).drop 0).headD V.none).str).toList) (True ∧ Q (.v (.int .i64) (V.i (k : Int))) []) (K)))
    (last : J n → (True ∧ Q (.v (.int .i64) (V.i (-1))) []))
    (k : Nat) (le0 : k ≤ n) (hj : J k) : ∃ m0, lp_slices_Index_string_0 Q m0 x0 x1 (n : Int) ((k : Int)) := by
  exact rangeG0 n hb J (fun m0 i => lp_slices_Index_string_0 Q m0 x0 x1 (n : Int) i) (fun m0 i => lp_slices_Index_string_0_s Q m0 x0 x1 (n : Int) i) (fun k hl_ hj_ m_ ih_ => step k hl_ hj_ _ ih_) last k le0 hj
def vc_slices_Index_string (a0 : LL) (a1 : ByteArray) (Q : QD) : Prop :=
  (a0.length ≤ big → ∃ m0, lp_slices_Index_string_0 Q m0 a0 a1 ((a0.length : Int)) 0)
theorem C_slices_Index_string (a0 : LL) (a1 : ByteArray) (Q : QD) (h : vc_slices_Index_string a0 a1 Q) : cl f_slices_Index_string [.v (.sl t_string) (V.l a0), .v .str (V.s a1)] [] Q :=
  acalls2 (E := env_slices_Index_string) (envOk _ _ _ _ _) 0 Tryz.func82 (by kernel_rfl) h
end Go.Proofs.YtehchnjnbbnkbaaGreat
set_option linter.unusedVariables false
set_option linter.unusedSimpArgs false
namespace Go.Proofs.YtehchnjnbbnkbaaGreat
open Go.Abs
theorem r01_letter_ok (c : Int) : Fn f_r01_letter [uD c] (bD (letterB c)) := by
  intro Q hQ
  refine C_r01_letter _ _ ?_
  have key : ∀ b, b = letterB c → True ∧ Q (bD b) [] := by rintro _ rfl; exact ⟨trivial, hQ⟩
  unfold vc_r01_letter
  repeat' (first | (refine iff_dec (fun _ => ?_) (fun _ => ?_)) | (refine iff_beq (fun _ => ?_) (fun _ => ?_)))
  all_goals
    refine key _ ?_
    unfold letterB
    rw [Bool.eq_iff_iff]
    simp only [decide_eq_true_iff, beq_iff_eq, true_iff]
    omega
theorem r01_CompareInts_ok (a b : Int) : Fn f_r01_CompareInts [iD a, iD b] (iD (if a < b then -1 else if b < a then 1 else 0)) := by
  intro Q hQ
  refine C_r01_CompareInts _ _ _ ?_
  unfold vc_r01_CompareInts
  refine iff_dec (fun h => ?_) (fun h => iff_dec (fun h2 => ?_) (fun h2 => ?_))
  · rw [if_pos h] at hQ; exact ⟨trivial, hQ⟩
  · rw [if_neg h, if_pos h2] at hQ; exact ⟨trivial, hQ⟩
  · rw [if_neg h, if_neg h2] at hQ; exact ⟨trivial, hQ⟩
theorem r01_Letters_ok (s : ByteArray) : Fn f_r01_Letters [sD s] (bD (lettersL s.data.toList)) := by
  intro Q hQ
  refine C_r01_Letters _ _ fun hb => ?_
  have hl := ba_size s
  refine range_r01_Letters_0 Q s s.size hb (fun k => lettersL (s.data.toList.take k) = true) (fun k hk hJ K hK => ?_) (fun hJ => ?_) 0 (Nat.zero_le _) rfl
  · refine ⟨by omega, by omega, r01_letter_ok _ _ ⟨rfl, rfl, ?_⟩⟩
    have hk' : k < s.data.toList.length := by omega
    have e : s.data.toList.getD k 0 = s.data.toList[k] := by rw [List.getD_eq_getElem?_getD, List.getElem?_eq_getElem hk']; rfl
    rw [e]
    refine iff_not (iff_intro (fun h => hK ?_) (fun h => ⟨trivial, ?_⟩))
    · rw [List.take_succ_eq_append_getElem hk']
      have h' : letterB (s.data.toList[k].toNat : Int) = true := h
      simp only [lettersL, List.all_append, Bool.and_eq_true] at hJ ⊢
      exact ⟨hJ, by rw [List.all_cons, List.all_nil, h']; rfl⟩
    · have : lettersL s.data.toList = false := by
        rw [← Bool.not_eq_true]
        intro ha
        have := List.all_eq_true.1 ha _ (List.getElem_mem hk')
        have h' : letterB (s.data.toList[k].toNat : Int) = false := h
        rw [h'] at this; cases this
      rw [this] at hQ; exact hQ
  · rw [List.take_of_length_le (by omega)] at hJ
    rw [hJ] at hQ
    exact ⟨trivial, hQ⟩
theorem r01_Marked_ok (s : ByteArray) : Fn f_r01_Marked [sD s] (bD (markedL s.data.toList)) := by
  intro Q hQ
  refine C_r01_Marked _ _ ?_
  unfold vc_r01_Marked
  have hl := ba_size s
  rw [ba_beq]
  refine iff_not (iff_dec (fun h => ?_) (fun h hb => ?_))
  · subst h
    exact ⟨trivial, hQ⟩
  · rw [ba_nil] at h
    rw [wrap_in _ (by omega) (by rw [big_eq] at hb; omega)]
    have e1 : ((s.size : Int) - 1).toNat = s.data.toList.length - 1 := by omega
    refine ⟨by omega, by omega, trivial, ?_⟩
    have : (((s.data.toList.getD ((s.size : Int) - 1).toNat 0).toNat : Int) == 35) = markedL s.data.toList := by
      rw [e1]
      unfold markedL
      rw [List.getLast?_eq_getElem?, Bool.eq_iff_iff, decide_eq_true_iff, beq_iff_eq, List.getD_eq_getElem?_getD]
      have hk : s.data.toList.length - 1 < s.data.toList.length := by omega
      rw [List.getElem?_eq_getElem hk]
      simp only [Option.getD_some, Option.some.injEq]
      constructor
      · intro h2
        apply UInt8.toNat_inj.1
        show _ = 35
        omega
      · rintro h2; rw [h2]; rfl
    rw [this]
    exact hQ
theorem r01_IsName_ok (s : ByteArray) (m : Bool) : Fn f_r01_IsName [sD s, bD m] (bD (nameOk s m)) := by
  intro Q hQ
  refine C_r01_IsName _ _ _ fun hb => ?_
  rw [big_eq] at hb
  have hl := ba_size s
  have last : ∀ x : ByteArray, nameOk s m = (decide (0 < x.size) && lettersL x.data.toList) → jp_r01_IsName_1 Q x := fun x hx => by
    rw [jp_r01_IsName_1_s]
    unfold je_r01_IsName_1
    rw [ba_beq]
    refine iff_not (iff_dec (fun h => ⟨trivial, ?_⟩) (fun h => r01_Letters_ok x _ ⟨rfl, rfl, trivial, ?_⟩))
    · rw [ba_nil] at h
      rw [hx] at hQ
      simpa [h] using hQ
    · rw [ba_nil] at h
      rw [hx] at hQ
      have h0 : 0 < x.size := by omega
      simp only [h0, decide_true, Bool.true_and] at hQ
      exact hQ
  have mid : ∀ b : Bool, b = (m && markedL s.data.toList) → s.size ≤ 24 → jp_r01_IsName_0 Q s (.b b) := fun b hbm hs => by
    rw [jp_r01_IsName_0_s]
    unfold je_r01_IsName_0
    refine iff_intro (fun h _ => ?_) (fun h => last s ?_)
    · have hbt : b = true := h
      rw [hbt] at hbm
      have hmk : markedL s.data.toList = true := by
        cases hmm : markedL s.data.toList with
        | true => rfl
        | false => rw [hmm] at hbm; simp at hbm
      have hne : s.data.toList ≠ [] := by
        intro h0
        rw [h0] at hmk
        simp [markedL] at hmk
      have hpos : 0 < s.data.toList.length := List.length_pos_iff.2 hne
      rw [wrap_in _ (by omega) (by omega)]
      refine ⟨by omega, by omega, by omega, last _ ?_⟩
      have hx := extract_list s (0 : Int).toNat ((s.size : Int) - 1).toNat
      have hxs : (s.extract (0 : Int).toNat ((s.size : Int) - 1).toNat).size = s.size - 1 := by
        rw [← ba_size, hx]; simp
      have e1 : ((s.size : Int) - 1).toNat = s.data.toList.length - 1 := by omega
      rw [hx, hxs, e1]
      unfold nameOk
      rw [← hbm]
      have h1 : decide (1 < s.size) = decide (0 < s.size - 1) := by
        rw [Bool.eq_iff_iff]; simp only [decide_eq_true_iff]; omega
      simp [hs, h1, List.dropLast_eq_take]
    · have hbf : b = false := h
      unfold nameOk
      rw [← hbm, hbf]
      simp [hs]
  refine iff_dec (fun h => ⟨trivial, ?_⟩) (fun h => iff_intro (fun hm => r01_Marked_ok s _ ⟨rfl, rfl, mid _ ?_ (by omega)⟩) (fun hm => mid _ ?_ (by omega)))
  · have : nameOk s m = false := by unfold nameOk; simp; intro h2; omega
    rw [this] at hQ; exact hQ
  · rw [hm]; rfl
  · rw [hm]; rfl
end Go.Proofs.YtehchnjnbbnkbaaGreat
set_option linter.unusedVariables false
set_option linter.unusedSimpArgs false
namespace Go.Proofs.YtehchnjnbbnkbaaGreat
open Go.Abs
def small : Nat := 1152921504606846976
theorem small_eq : small = 1152921504606846976 := rfl
theorem r01_Formed_ok : ∀ t : Tm, Fn f_r01_Formed [tD t] (bD t.formed) := Tm.ind fun t ih Q hQ => by
  refine C_r01_Formed _ _ _ _ ?_
  unfold vc_r01_Formed
  have hl := Tm.encL_length t.args
  have hf := Tm.formed_eq t
  have key : ∀ b, b = t.formed → True ∧ Q (bD b) [] := by rintro _ rfl; exact ⟨trivial, hQ⟩
  refine iff_intro (fun hv => ?_) (fun hv => ?_)
  · rw [hv, if_pos rfl] at hf
    refine r01_IsName_ok _ _ _ ⟨rfl, rfl, iff_intro (fun h _ => key _ ?_) (fun h => key _ ?_)⟩
    · have h' : nameOk t.name false = true := h
      rw [hf, h', hl, Bool.true_and, Bool.eq_iff_iff, beq_iff_eq, List.isEmpty_iff]
      constructor
      · intro h0; exact List.eq_nil_of_length_eq_zero (by omega)
      · intro h0; rw [h0]; rfl
    · have h' : nameOk t.name false = false := h
      rw [hf, h']; rfl
  · rw [hv, if_neg (by simp)] at hf
    refine r01_IsName_ok _ _ _ ⟨rfl, rfl, iff_not (iff_intro (fun h hb => ?_) (fun h => key _ ?_))⟩
    · have h' : nameOk t.name true = true := h
      rw [h', Bool.true_and] at hf
      rw [hl] at hb ⊢
      refine iff_dec (fun h8 => key _ ?_) (fun h8 => ?_)
      · rw [hf, decide_eq_false (by omega)]; rfl
      · rw [decide_eq_true (by omega), Bool.true_and] at hf
        rw [jp_r01_Formed_0_s]
        intro hb2
        rw [hl]
        refine range_r01_Formed_0 Q _ _ hb (fun k => (t.args.take k).all Tm.formed = true) (fun k hk hJ K hK => ?_) (fun hJ => ?_) 0 (Nat.zero_le _) rfl
        · simp only [Tm.encL_getD _ k hk, Tm.enc_eq, List.drop_zero, List.headD_cons, List.tail_cons]
          refine ⟨by omega, by omega, ih _ (List.getElem_mem hk) _ ⟨rfl, rfl, iff_not (iff_intro (fun h => hK ?_) (fun h => key _ ?_))⟩⟩
          · have h2 : (t.args[k]).formed = true := h
            rw [List.take_succ_eq_append_getElem hk, List.all_append, hJ, List.all_cons, List.all_nil, h2]; rfl
          · have h2 : (t.args[k]).formed = false := h
            rw [hf]
            symm
            rw [← Bool.not_eq_true]
            intro ha
            have := List.all_eq_true.1 ha _ (List.getElem_mem hk)
            rw [h2] at this; cases this
        · rw [List.take_length] at hJ
          exact key _ (by rw [hf, hJ])
    · have h' : nameOk t.name true = false := h
      rw [hf, h']; rfl
theorem r01_Size_ok : ∀ t : Tm, t.size ≤ small → Fn f_r01_Size [tD t] (iD t.size) := Tm.ind fun t ih hB Q hQ => by
  refine C_r01_Size _ _ _ _ fun hb => ?_
  have hl := Tm.encL_length t.args
  have hs := Tm.size_eq t
  rw [small_eq] at hB
  rw [hl] at hb ⊢
  refine range_r01_Size_0 Q _ _ hb (fun k n => n = ((1 + Tm.sizeL (t.args.take k) : Nat) : Int)) (fun k n hk hJ K hK => ?_) (fun n hJ => ?_) 0 1 (Nat.zero_le _) rfl
  · simp only [Tm.encL_getD _ k hk, Tm.enc_eq, List.drop_zero, List.headD_cons, List.tail_cons]
    have hm := Tm.size_mem (List.getElem_mem hk)
    refine ⟨by omega, by omega, ih _ (List.getElem_mem hk) (by rw [small_eq]; omega) _ ⟨rfl, rfl, hK _ ?_⟩⟩
    have h1 := Tm.sizeL_take t.args k hk
    have h2 := Tm.sizeL_take_le t.args (k + 1)
    subst hJ
    show IntKind.i64.wrap (_ + ((t.args[k]).size : Int)) = _
    rw [wrap_in _ (by omega) (by omega)]
    omega
  · rw [List.take_length] at hJ
    subst hJ
    rw [hs] at hQ
    exact ⟨trivial, hQ⟩
theorem r01_Depth_ok : ∀ t : Tm, t.size ≤ small → Fn f_r01_Depth [tD t] (iD t.depth) := Tm.ind fun t ih hB Q hQ => by
  refine C_r01_Depth _ _ _ _ fun hb => ?_
  have hl := Tm.encL_length t.args
  have hd := Tm.depth_eq t
  have hds := Tm.depth_le_size t
  rw [small_eq] at hB
  rw [hl] at hb ⊢
  refine range_r01_Depth_0 Q _ _ hb (fun k n => n = (Tm.depthL (t.args.take k) : Int)) (fun k n hk hJ K hK => ?_) (fun n hJ => ?_) 0 0 (Nat.zero_le _) rfl
  · simp only [Tm.encL_getD _ k hk, Tm.enc_eq, List.drop_zero, List.headD_cons, List.tail_cons]
    have hm := Tm.size_mem (List.getElem_mem hk)
    refine ⟨by omega, by omega, ih _ (List.getElem_mem hk) (by rw [small_eq]; omega) _ ⟨rfl, rfl, hK _ ?_⟩⟩
    subst hJ
    show (if ((t.args[k]).depth : Int) > _ then ((t.args[k]).depth : Int) else _) = _
    rw [Tm.depthL_take t.args k hk]
    split <;> omega
  · rw [List.take_length] at hJ
    subst hJ
    rw [wrap_in _ (by omega) (by omega)]
    rw [hd] at hQ
    exact ⟨trivial, hQ⟩
theorem r01_Check_ok (t : Tm) (hB : t.size ≤ small) : Fn f_r01_Check [tD t] (iD t.check) := fun Q hQ => by
  refine C_r01_Check _ _ _ _ ?_
  unfold vc_r01_Check
  unfold Tm.check at hQ
  refine r01_Formed_ok t _ ⟨rfl, rfl, iff_not (iff_intro (fun h => ?_) (fun h => ?_))⟩
  · have h' : t.formed = true := h
    rw [h', if_pos rfl] at hQ
    refine r01_Size_ok t hB _ ⟨rfl, rfl, iff_dec (fun h2 => ⟨trivial, ?_⟩) (fun h2 => r01_Depth_ok t hB _ ⟨rfl, rfl, iff_dec (fun h3 => ⟨trivial, ?_⟩) (fun h3 => ⟨trivial, ?_⟩)⟩)⟩
    · have h2 : (t.size : Int) > 4000 := h2
      rw [if_neg (by omega)] at hQ; exact hQ
    · have h3 : (t.depth : Int) > 200 := h3
      rw [if_neg (by omega)] at hQ; exact hQ
    · have h2 : ¬ (t.size : Int) > 4000 := h2
      have h3 : ¬ (t.depth : Int) > 200 := h3
      rw [if_pos (by omega)] at hQ; exact hQ
  · have h' : t.formed = false := h
    rw [h', if_neg (by simp)] at hQ
    exact ⟨trivial, hQ⟩
theorem checkAll_take {l : List Tm} {k : Nat} (h : Tm.checkAll (l.take k) = 0) (hk : k < l.length) (hn : (l[k]).check ≠ 0) : Tm.checkAll l = (l[k]).check := by
  induction l generalizing k with
  | nil => simp at hk
  | cons t r ih =>
    cases k with
    | zero => simp only [List.getElem_cons_zero] at hn ⊢; simp only [Tm.checkAll]; rw [if_neg hn]
    | succ k =>
      simp only [List.take_succ_cons, Tm.checkAll] at h
      have h0 : t.check = 0 := by
        by_cases h0 : t.check = 0
        · exact h0
        · rw [if_neg h0] at h; exact h
      rw [if_pos h0] at h
      simp only [List.getElem_cons_succ] at hn ⊢
      simp only [Tm.checkAll]
      rw [if_pos h0]
      exact ih h (by simpa using hk) hn
theorem cmp_take : ∀ (l m : List UInt8) (k : Nat), k ≤ l.length → k ≤ m.length → l.take k = m.take k → Lib.compareBytes l m = Lib.compareBytes (l.drop k) (m.drop k)
  | l, m, 0, _, _, _ => by simp
  | a :: l, b :: m, k + 1, h1, h2, h => by
    simp only [List.take_succ_cons, List.cons.injEq] at h
    obtain ⟨rfl, h⟩ := h
    have h0 : ¬ a < a := by rw [u8_lt]; omega
    simp only [Lib.compareBytes, if_neg h0, List.drop_succ_cons]
    exact cmp_take l m k (by simpa using h1) (by simpa using h2) h
  | [], _, k + 1, h, _, _ => by simp at h
  | _ :: _, [], k + 1, _, h, _ => by simp at h
theorem r01_CompareNames_ok (a b : ByteArray) : Fn f_r01_CompareNames [sD a, sD b] (iD (cmpN a b)) := fun Q hQ => by
  refine C_r01_CompareNames _ _ _ fun ha hb => ?_
  rw [big_eq] at ha hb
  have hla := ba_size a
  have hlb := ba_size b
  have e0 : (if ((b.size : Int)) < ((a.size : Int)) then ((b.size : Int)) else ((a.size : Int))) = ((min a.size b.size : Nat) : Int) := by split <;> omega
  rw [e0]
  unfold cmpN at hQ
  generalize hx : a.data.toList = x at *
  generalize hy : b.data.toList = y at *
  refine range_r01_CompareNames_0 Q a b _ (by rw [big_eq]; omega) (fun k => x.take k = y.take k) (fun k hk hJ K hK => ?_) (fun hJ => ?_) 0 (Nat.zero_le _) rfl
  · have hkx : k < x.length := by omega
    have hky : k < y.length := by omega
    have ex : x.getD k 0 = x[k] := by rw [List.getD_eq_getElem?_getD, List.getElem?_eq_getElem hkx]; rfl
    have ey : y.getD k 0 = y[k] := by rw [List.getD_eq_getElem?_getD, List.getElem?_eq_getElem hky]; rfl
    rw [hx, hy, ex, ey]
    have bx := (x[k]).toNat_lt
    have by_ := (y[k]).toNat_lt
    refine ⟨by omega, by omega, by omega, by omega, iff_bne (fun h => ⟨by omega, by omega, by omega, by omega, r01_CompareInts_ok _ _ _ ⟨rfl, rfl, trivial, ?_⟩⟩) (fun h => hK ?_)⟩
    · rw [wrap_in _ (by omega) (by omega), wrap_in _ (by omega) (by omega)]
      have := cmp_take x y k (by omega) (by omega) hJ
      rw [List.drop_eq_getElem_cons hkx, List.drop_eq_getElem_cons hky] at this
      simp only [Lib.compareBytes, u8_lt] at this
      rw [this] at hQ
      by_cases h1 : (x[k]).toNat < (y[k]).toNat
      · rw [if_pos h1] at hQ; rw [if_pos (by omega)]; exact hQ
      · rw [if_neg h1, if_pos (by omega)] at hQ; rw [if_neg (by omega), if_pos (by omega)]; exact hQ
    · rw [List.take_succ_eq_append_getElem hkx, List.take_succ_eq_append_getElem hky, hJ]
      congr 1
      simp only [List.cons.injEq, and_true]
      apply UInt8.toNat_inj.1
      omega
  · intro _ _
    refine r01_CompareInts_ok _ _ _ ⟨rfl, rfl, trivial, ?_⟩
    have := cmp_take x y (min a.size b.size) (by omega) (by omega) hJ
    rw [this] at hQ
    by_cases h1 : a.size < b.size
    · rw [if_pos (by omega)]
      rw [List.drop_eq_nil_of_le (by omega), show min a.size b.size = a.size by omega, List.drop_eq_getElem_cons (show a.size < y.length by omega)] at hQ
      exact hQ
    · by_cases h2 : b.size < a.size
      · rw [if_neg (by omega), if_pos (by omega)]
        rw [show min a.size b.size = b.size by omega, List.drop_eq_nil_of_le (show y.length ≤ b.size by omega), List.drop_eq_getElem_cons (show b.size < x.length by omega)] at hQ
        exact hQ
      · rw [if_neg (by omega), if_neg (by omega)]
        rw [List.drop_eq_nil_of_le (by omega), List.drop_eq_nil_of_le (by omega)] at hQ
        exact hQ
theorem cmpL_take : ∀ (l m : List Tm) (k : Nat) (h1 : k < l.length) (h2 : k < m.length), (∀ i, (h : i < k) → Tm.cmp (l[i]'(by omega)) (m[i]'(by omega)) = 0) → Tm.cmpL l m = if Tm.cmp l[k] m[k] ≠ 0 then Tm.cmp l[k] m[k] else Tm.cmpL (l.drop (k + 1)) (m.drop (k + 1))
  | a :: l, b :: m, 0, _, _, _ => by simp [Tm.cmpL]
  | a :: l, b :: m, k + 1, h1, h2, h => by
    have h0 := h 0 (by omega)
    simp only [List.getElem_cons_zero] at h0
    simp only [Tm.cmpL]
    rw [if_neg (by simp [h0])]
    simp only [List.getElem_cons_succ, List.drop_succ_cons]
    exact cmpL_take l m k (by simpa using h1) (by simpa using h2) fun i hi => by
      have := h (i + 1) (by omega)
      simpa using this
  | [], _, _, h, _, _ => by simp at h
  | _ :: _, [], _, _, h, _ => by simp at h
theorem cmpL_all : ∀ (l m : List Tm), l.length = m.length → (∀ i (h : i < l.length) (h' : i < m.length), Tm.cmp l[i] m[i] = 0) → Tm.cmpL l m = 0
  | [], [], _, _ => by simp [Tm.cmpL]
  | a :: l, b :: m, hl, h => by
    have h0 := h 0 (by simp) (by simp)
    simp only [List.getElem_cons_zero] at h0
    simp only [Tm.cmpL]
    rw [if_neg (by simp [h0])]
    exact cmpL_all l m (by simpa using hl) fun i h1 h2 => by
      have := h (i + 1) (by simpa using h1) (by simpa using h2)
      simpa using this
  | [], _ :: _, h, _ => by simp at h
  | _ :: _, [], h, _ => by simp at h
theorem r01_Compare_ok : ∀ (a b : Tm), Fn f_r01_Compare [tD a, tD b] (iD (Tm.cmp a b)) := Tm.ind fun a ih b Q hQ => by
  refine C_r01_Compare _ _ _ _ _ _ _ ?_
  unfold vc_r01_Compare
  rw [Tm.cmp_eq] at hQ
  have hla := Tm.encL_length a.args
  have hlb := Tm.encL_length b.args
  refine iff_not (iff_beq (fun h => ?_) (fun h => ?_))
  · rw [if_neg (by simp [h])] at hQ
    refine r01_CompareNames_ok _ _ _ ⟨rfl, rfl, iff_bne (fun h2 => ⟨trivial, ?_⟩) (fun h2 ha hb => ?_)⟩
    · have h2 : cmpN a.name b.name ≠ 0 := h2
      rw [if_pos h2] at hQ; exact hQ
    · have h2 : cmpN a.name b.name = 0 := h2
      rw [if_neg (by simp [h2])] at hQ
      rw [hla, hlb]
      refine r01_CompareInts_ok _ _ _ ⟨rfl, rfl, iff_bne (fun h3 => ⟨trivial, ?_⟩) (fun h3 _ => ?_)⟩
      · have h3 : Tm.cmpI a.args.length b.args.length ≠ 0 := h3
        rw [if_pos h3] at hQ; exact hQ
      · have h3 : Tm.cmpI a.args.length b.args.length = 0 := h3
        rw [if_neg (by simp [h3])] at hQ
        have h4 := Tm.cmpI_zero.1 h3
        rw [hla] at ha
        refine range_r01_Compare_0 Q _ _ _ _ _ _ _ ha (fun k => ∀ i (hi : i < k) (h1 : i < a.args.length) (h2 : i < b.args.length), Tm.cmp (a.args[i]) (b.args[i]) = 0) (fun k hk hJ K hK => ?_) (fun hJ => ?_) 0 (Nat.zero_le _) (fun i hi => by omega)
        · have hk2 : k < b.args.length := by omega
          simp only [Tm.encL_getD _ k hk, Tm.encL_getD _ k hk2, Tm.enc_eq, List.drop_zero, List.headD_cons, List.tail_cons]
          refine ⟨by omega, by omega, by omega, by omega, ih _ (List.getElem_mem hk) _ _ ⟨rfl, rfl, iff_bne (fun h5 => ⟨trivial, ?_⟩) (fun h5 => hK ?_)⟩⟩
          · have h5 : Tm.cmp (a.args[k]) (b.args[k]) ≠ 0 := h5
            rw [cmpL_take _ _ k hk hk2 (fun i hi => hJ i hi _ _), if_pos h5] at hQ
            exact hQ
          · intro i hi h6 h7
            rcases Nat.lt_succ_iff_lt_or_eq.1 hi with h8 | rfl
            · exact hJ i h8 h6 h7
            · exact h5
        · rw [cmpL_all _ _ (by omega) (fun i h1 h2 => hJ i (by omega) h1 h2)] at hQ
          exact ⟨trivial, hQ⟩
  · rw [if_pos h] at hQ
    refine iff_intro (fun hv => ⟨trivial, ?_⟩) (fun hv => ⟨trivial, ?_⟩)
    · rw [hv, if_pos rfl] at hQ; exact hQ
    · rw [hv, if_neg (by simp)] at hQ; exact hQ
theorem r01_Equal_ok (a b : Tm) : Fn f_r01_Equal [tD a, tD b] (bD (Tm.eqB a b)) := fun Q hQ => by
  refine C_r01_Equal _ _ _ _ _ _ _ ?_
  unfold vc_r01_Equal
  refine r01_Compare_ok a b _ ⟨rfl, rfl, trivial, ?_⟩
  unfold Tm.eqB at hQ
  exact hQ
end Go.Proofs.YtehchnjnbbnkbaaGreat
set_option linter.unusedVariables false
set_option linter.unusedSimpArgs false
namespace Go.Proofs.YtehchnjnbbnkbaaGreat
open Go.Abs
theorem Fn.as {f : FuncId} {args : List D} {r : D} (h : ∀ Q : D → Heap → Prop, (∀ r0, As r0 r → Q r0 []) → cl f args [] Q) : Fn f args r := fun Q hQ =>
  ACalls.as (h _ fun r0 h0 => ⟨r, h0, hQ⟩)
abbrev Su := List (ByteArray × Tm)
def encB (x : ByteArray × Tm) : List V := .s x.1 :: x.2.enc
def encS (l : Su) : List (List V) := l.map encB
abbrev suD (l : Su) : D := .v (.sl t_Bind) (.l (encS l))
theorem encS_length (l : Su) : (encS l).length = l.length := by simp [encS]
theorem encS_getD (l : Su) (k : Nat) (h : k < l.length) : (encS l).getD k [] = .s (l[k]).1 :: (l[k]).2.enc := by
  rw [encS, List.getD_eq_getElem?_getD, List.getElem?_map, List.getElem?_eq_getElem h]; rfl
namespace Tm
def image (l : Su) (x : ByteArray) : Tm := match l with
  | [] => mk x true []
  | (y, t) :: r => if y = x then t else image r x
mutual
def app (l : Su) : Tm → Tm | mk n v xs => if v then image l n else mk n false (appL l xs)
def appL (l : Su) : List Tm → List Tm | [] => [] | t :: r => app l t :: appL l r
end
theorem app_eq (l : Su) : ∀ t : Tm, app l t = if t.var then image l t.name else mk t.name false (t.args.map (app l)) := by
  have : ∀ xs, appL l xs = xs.map (app l) := by
    intro xs
    induction xs with
    | nil => rfl
    | cons t r ih => simp [appL, ih]
  intro t
  cases t with
  | mk n v xs =>
    show (if v then image l n else mk n false (appL l xs)) = _
    rw [this]
    rfl
def fits (l : Su) (t : Tm) : Bool := decide ((app l t).size ≤ 4000) && decide ((app l t).depth ≤ 200)
theorem image_take {l : Su} {x : ByteArray} {k : Nat} (hk : k < l.length) (h : ∀ i (hi : i < k), (l[i]'(by omega)).1 ≠ x) (he : (l[k]).1 = x) : image l x = (l[k]).2 := by
  induction l generalizing k with
  | nil => simp at hk
  | cons y r ih =>
    cases k with
    | zero => simp only [List.getElem_cons_zero] at he ⊢; simp only [image]; rw [if_pos he]
    | succ k =>
      have h0 := h 0 (by omega)
      simp only [List.getElem_cons_zero] at h0
      simp only [image]
      rw [if_neg h0]
      simp only [List.getElem_cons_succ] at he ⊢
      exact ih (by simpa using hk) (fun i hi => by have := h (i + 1) (by omega); simpa using this) he
theorem image_none {l : Su} {x : ByteArray} (h : ∀ i (hi : i < l.length), (l[i]).1 ≠ x) : image l x = mk x true [] := by
  induction l with
  | nil => rfl
  | cons y r ih =>
    have h0 := h 0 (by simp)
    simp only [List.getElem_cons_zero] at h0
    simp only [image]
    rw [if_neg h0]
    exact ih fun i hi => by have := h (i + 1) (by simpa using hi); simpa using this
end Tm
theorem r01_Image_ok (l : Su) (x : ByteArray) : Fn f_r01_Image [suD l, sD x] (tD (Tm.image l x)) := Fn.as fun Q hQ => by
  refine C_r01_Image _ _ _ fun hb => ?_
  have hl := encS_length l
  rw [hl] at hb ⊢
  refine range_r01_Image_0 Q _ _ _ _ _ hb (fun k => ∀ i (hi : i < k) (h : i < l.length), (l[i]).1 ≠ x) (fun k hk hJ K hK => ?_) (fun hJ => ?_) 0 (Nat.zero_le _) (fun i hi => by omega)
  · simp only [encS_getD _ k hk, Tm.enc_eq, List.drop_zero, List.headD_cons, List.tail_cons, V.str]
    refine ⟨by omega, by omega, ?_⟩
    rw [ba_beq]
    refine iff_dec (fun h => ⟨⟨trivial, trivial, trivial, trivial⟩, ?_⟩) (fun h => hK ?_)
    · rw [Tm.image_take hk (fun i hi => hJ i hi _) h] at hQ
      exact hQ _ (.refl _)
    · intro i hi h6
      rcases Nat.lt_succ_iff_lt_or_eq.1 hi with h8 | rfl
      · exact hJ i h8 h6
      · exact h
  · refine ⟨⟨trivial, trivial, trivial, trivial⟩, ?_⟩
    rw [Tm.image_none fun i hi => hJ i hi hi] at hQ
    exact hQ _ (.last3 _ _ _)
theorem r01_Apply_ok (l : Su) : ∀ t : Tm, t.size ≤ lim → Fn f_r01_Apply [suD l, tD t] (tD (Tm.app l t)) := Tm.ind fun t ih hB Q hQ => by
  refine C_r01_Apply _ _ _ _ _ ?_
  unfold vc_r01_Apply
  have ha := Tm.app_eq l t
  refine iff_intro (fun h => ?_) (fun h hb => ?_)
  · rw [h, if_pos rfl] at ha
    rw [ha] at hQ
    exact r01_Image_ok l _ _ ⟨rfl, rfl, ⟨trivial, trivial, trivial, trivial⟩, hQ⟩
  · rw [h, if_neg (by simp)] at ha
    have hl := Tm.encL_length t.args
    rw [hl] at hb ⊢
    have hsz := Tm.size_eq t
    have hls := Tm.length_sizeL t.args
    refine range_r01_Apply_0 Q _ _ _ _ _ _ _ hb (fun k n y => n = k ∧ y = Tm.encL ((t.args.take k).map (Tm.app l))) (fun k n y hk hJ K hK => ?_) (fun n y hJ => ?_) 0 0 _ (Nat.zero_le _) ⟨rfl, rfl⟩
    · simp only [Tm.encL_getD _ k hk, Tm.enc_eq, List.drop_zero, List.headD_cons, List.tail_cons]
      obtain ⟨rfl, rfl⟩ := hJ
      have hm := Tm.size_mem (List.getElem_mem hk)
      refine ⟨by omega, by omega, tD (Tm.app l (t.args[n])), (ih _ (List.getElem_mem hk) (by omega)).here rfl, ?_, ?_, hK _ _ ⟨?_, ?_⟩⟩
      · rw [Tm.encL_length, List.length_map, List.length_take]; omega
      · show n + 1 ≤ lim; omega
      · rfl
      · rw [List.take_succ_eq_append_getElem hk, List.map_append, Tm.encL_eq, Tm.encL_eq, List.map_append]
        congr 1
        simp only [List.map_cons, List.map_nil]
        rw [Tm.enc_eq]
        rfl
    · obtain ⟨rfl, rfl⟩ := hJ
      rw [List.take_length]
      refine ⟨⟨trivial, trivial, ?_, trivial⟩, ?_⟩
      · rw [Tm.encL_length, List.length_map]
      · rw [ha] at hQ; exact hQ
theorem r01_Grown_ok (l : Su) : ∀ t : Tm, (Tm.app l t).size ≤ small → Fn f_r01_Grown [suD l, tD t] (.tup [iD (Tm.app l t).size, iD (Tm.app l t).depth]) := Tm.ind fun t ih hB Q hQ => by
  refine C_r01_Grown _ _ _ _ _ ?_
  unfold vc_r01_Grown
  have ha := Tm.app_eq l t
  refine iff_intro (fun h => ?_) (fun h hb => ?_)
  · rw [h, if_pos rfl] at ha
    rw [ha] at hQ hB
    exact r01_Image_ok l _ _ ⟨rfl, rfl, iD (Tm.image l t.name).size, (r01_Size_ok _ hB).here rfl, r01_Depth_ok _ hB _ ⟨rfl, rfl, ⟨trivial, trivial, trivial⟩, hQ⟩⟩
  · rw [h, if_neg (by simp)] at ha
    have hl := Tm.encL_length t.args
    rw [hl] at hb ⊢
    have hs : (Tm.app l t).size = 1 + Tm.sizeL (t.args.map (Tm.app l)) := by rw [ha, Tm.size_eq]; rfl
    have hd : (Tm.app l t).depth = Tm.depthL (t.args.map (Tm.app l)) + 1 := by rw [ha, Tm.depth_eq]; rfl
    have hds := Tm.depth_le_size (Tm.app l t)
    rw [small_eq] at hB
    rw [hs, hd] at hQ
    rw [hs] at hB hds
    rw [hd] at hds
    refine range_r01_Grown_0 Q _ _ _ hb (fun k n d => n = ((1 + Tm.sizeL ((t.args.map (Tm.app l)).take k) : Nat) : Int) ∧ d = (Tm.depthL ((t.args.map (Tm.app l)).take k) : Int)) (fun k n d hk hJ K hK => ?_) (fun n d hJ => ?_) 0 1 0 (Nat.zero_le _) ⟨rfl, rfl⟩
    · simp only [Tm.encL_getD _ k hk, Tm.enc_eq, List.drop_zero, List.headD_cons, List.tail_cons]
      have hk' : k < (t.args.map (Tm.app l)).length := by simpa using hk
      have hm := Tm.sizeL_mem (List.getElem_mem hk')
      have h1 := Tm.sizeL_take _ k hk'
      have h2 := Tm.sizeL_take_le (t.args.map (Tm.app l)) (k + 1)
      have h3 := Tm.depthL_take _ k hk'
      rw [List.getElem_map] at hm h1 h3
      refine ⟨by omega, by omega, ih _ (List.getElem_mem hk) (by rw [small_eq]; omega) _ ⟨rfl, rfl, hK _ _ ⟨?_, ?_⟩⟩⟩
      · rw [hJ.1]
        show IntKind.i64.wrap (_ + ((Tm.app l (t.args[k])).size : Int)) = _
        rw [wrap_in _ (by omega) (by omega)]
        omega
      · rw [hJ.2]
        show (if ((Tm.app l (t.args[k])).depth : Int) > _ then ((Tm.app l (t.args[k])).depth : Int) else _) = _
        rw [h3]
        split <;> omega
    · rw [List.take_of_length_le (by simp)] at hJ
      obtain ⟨rfl, rfl⟩ := hJ
      rw [wrap_in _ (by omega) (by omega)]
      exact ⟨⟨trivial, trivial, trivial⟩, hQ⟩
end Go.Proofs.YtehchnjnbbnkbaaGreat
set_option linter.unusedVariables false
set_option linter.unusedSimpArgs false
namespace Go.Proofs.YtehchnjnbbnkbaaGreat
open Go.Abs
def bz : ByteArray := ByteArray.mk #[]
def nameAt (m : Bool) (l : List ByteArray) (k : Nat) : Bool := nameOk (l.getD k bz) m && (decide (k = 0) || decide (cmpN (l.getD (k - 1) bz) (l.getD k bz) = -1))
def namesOk (m : Bool) (l : List ByteArray) : Bool := (List.range l.length).all (nameAt m l)
theorem namesOk_all {m : Bool} {l : List ByteArray} (h : ∀ k, k < l.length → nameAt m l k = true) : namesOk m l = true := by
  unfold namesOk; rw [List.all_eq_true]; intro k hk; exact h k (by simpa using hk)
theorem namesOk_not {m : Bool} {l : List ByteArray} {k : Nat} (hk : k < l.length) (h : nameAt m l k = false) : namesOk m l = false := by
  rw [← Bool.not_eq_true]
  intro ha
  unfold namesOk at ha
  have := (List.all_eq_true.1 ha) k (by simpa using hk)
  rw [h] at this; cases this
theorem namesOk_at {m : Bool} {l : List ByteArray} (h : namesOk m l = true) {k : Nat} (hk : k < l.length) : nameAt m l k = true := by
  unfold namesOk at h
  exact (List.all_eq_true.1 h) k (by simpa using hk)
def suNames (l : Su) : List ByteArray := l.map (·.1)
def suErr (l : Su) : Int := if namesOk false (suNames l) then Tm.checkAll (l.map (·.2)) else 4
end Go.Proofs.YtehchnjnbbnkbaaGreat
