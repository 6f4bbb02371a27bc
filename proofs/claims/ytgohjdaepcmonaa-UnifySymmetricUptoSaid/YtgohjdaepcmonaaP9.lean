/-
  Texts V2, V, R01A, KitB, R01B, R01C, R01D, R01F, R03A, TermA of this proof, joined.
-/
import Derived.Test.YtgohjdaepcmonaaP8
set_option linter.unusedVariables false
set_option maxRecDepth 100000
namespace Go.Proofs.Ytgohjdaepcmonaa
open Go.Abs
def env_unify_unifier_head : Env := envA [(1, (.undef 1) :: ua 5 17 ([.dead 5]))] [(2, 12, [], [])] [] [] []
def kl_unify_unifier_head_0 (Q : QD) : Post := blockK 0 (seqJ env_unify_unifier_head (fnAt [1, 1] Try.f68) (endK env_unify_unifier_head Try.f68 Q))
@[irreducible] def lp_unify_unifier_head_0 (Q : QD) (m0 : Nat) (y3_0 y3_1 y3_2 : V) (y4_0 : ByteArray) (y4_1 : Bool) (h1 h2 : LL) : Prop :=
  iter (adj (env_unify_unifier_head.adj 1)) (evCode env_unify_unifier_head (fnAt [1, 0, 0, 0] Try.f68)) (kl_unify_unifier_head_0 Q) m0 ⟨(.ptr (.own 0) 0) :: .undef :: .skip :: (.ptr (.loc 3) 0) :: (.ptr (.loc 4) 0) :: un 17 ([.skip]), dd 3 ((.cells [.v .str (y3_0), .v .bool (y3_1), .v (.sl t_Term) (y3_2)]) :: (.cells [.v .str (V.s y4_0), .v .bool (V.b y4_1), .nil]) :: dd 18 ([]))⟩ [.cells [.mp (.own 1), .mp (.own 2)], .map mt_9_24 h1, .map mt_82_4 h2]
def st_unify_unifier_head_0 (Q : QD) (m0 : Nat) (y3_0 y3_1 y3_2 : V) (y4_0 : ByteArray) (y4_1 : Bool) (h1 h2 : LL) : Prop :=
  iff y3_1.bool (iff (!(mhas [.str] [y3_0] h1)) ((True ∧ True ∧ True ∧ True) ∧ Q (.agg [.v .str (y3_0), .v .bool (y3_1), .v (.sl t_Term) (y3_2)]) [.cells [.mp (.own 1), .mp (.own 2)], .map mt_9_24 h1, .map mt_82_4 h2]) (lp_unify_unifier_head_0 Q m0 ((mget [.str] [V.s (ByteArray.mk #[]), V.b false, V.l ([])] [y3_0] h1).headD V.none) (((mget [.str] [V.s (ByteArray.mk #[]), V.b false, V.l ([])] [y3_0] h1).tail).headD V.none) ((((mget [.str] [V.s (ByteArray.mk #[]), V.b false, V.l ([])] [y3_0] h1).tail).tail).headD V.none) y4_0 y4_1 h1 h2)) ((True ∧ True ∧ True ∧ True) ∧ Q (.agg [.v .str (y3_0), .v .bool (y3_1), .v (.sl t_Term) (y3_2)]) [.cells [.mp (.own 1), .mp (.own 2)], .map mt_9_24 h1, .map mt_82_4 h2])
theorem lp_unify_unifier_head_0_s (Q : QD) (m0 : Nat) (y3_0 y3_1 y3_2 : V) (y4_0 : ByteArray) (y4_1 : Bool) (h1 h2 : LL) : lp_unify_unifier_head_0 Q (m0 + 1) y3_0 y3_1 y3_2 y4_0 y4_1 h1 h2 = st_unify_unifier_head_0 Q m0 y3_0 y3_1 y3_2 y4_0 y4_1 h1 h2 := by kernel_rfl
def vc_unify_unifier_head (a1_0 : ByteArray) (a1_1 : Bool) (a1_2 h1 h2 : LL) (Q : QD) : Prop :=
  ∃ m0, lp_unify_unifier_head_0 Q m0 (V.s a1_0) (V.b a1_1) (V.l a1_2) (ByteArray.mk #[]) false h1 h2
theorem C_unify_unifier_head (a1_0 : ByteArray) (a1_1 : Bool) (a1_2 h1 h2 : LL) (Q : QD) (h : vc_unify_unifier_head a1_0 a1_1 a1_2 h1 h2 Q) : cl f_unify_unifier_head [.ptr (.own 0) 0, .agg [.v .str (V.s a1_0), .v .bool (V.b a1_1), .v (.sl t_Term) (V.l a1_2)]] [.cells [.mp (.own 1), .mp (.own 2)], .map mt_9_24 h1, .map mt_82_4 h2] Q :=
  acalls2 (E := env_unify_unifier_head) (envOk _ _ _ _ _) 0 Try.func68 (by kernel_rfl) h
def env_unify_unifier_set : Env := envA [] [(3, 6, [], [])] [] [] []
def vc_unify_unifier_set (a1 a2_0 : ByteArray) (a2_1 : Bool) (a2_2 h1 h2 : LL) (Q : QD) : Prop :=
  cl f_unify_unifier_occurs [.ptr (.own 0) 0, .v .str (V.s a1), .agg [.v .str (V.s a2_0), .v .bool (V.b a2_1), .v (.sl t_Term) (V.l a2_2)], .mp (.own 3)] [.cells [.mp (.own 1), .mp (.own 2)], .map mt_9_24 h1, .map mt_82_4 h2, .map mt_9_4 (([] : List (List V)))] fun r1 H2 => r1 = (.v .bool (r1.V)) ∧ H2 = [.cells [.mp (.own 1), .mp (.own 2)], .map mt_9_24 ((H2.tail.headD .dead).xs), .map mt_82_4 ((H2.tail.tail.headD .dead).xs), .map mt_9_4 ((H2.tail.tail.tail.headD .dead).xs)] ∧ iff r1.V.bool (True ∧ Q (.v .bool (V.b false)) [.cells [.mp (.own 1), .mp (.own 2)], .map mt_9_24 ((H2.tail.headD .dead).xs), .map mt_82_4 ((H2.tail.tail.headD .dead).xs)]) (True ∧ Q (.v .bool (V.b true)) [.cells [.mp (.own 1), .mp (.own 2)], .map mt_9_24 (mset [.str] [V.s a1] [V.s a2_0, V.b a2_1, V.l a2_2] ((H2.tail.headD .dead).xs)), .map mt_82_4 ((H2.tail.tail.headD .dead).xs)])
theorem C_unify_unifier_set (a1 a2_0 : ByteArray) (a2_1 : Bool) (a2_2 h1 h2 : LL) (Q : QD) (h : vc_unify_unifier_set a1 a2_0 a2_1 a2_2 h1 h2 Q) : cl f_unify_unifier_set [.ptr (.own 0) 0, .v .str (V.s a1), .agg [.v .str (V.s a2_0), .v .bool (V.b a2_1), .v (.sl t_Term) (V.l a2_2)]] [.cells [.mp (.own 1), .mp (.own 2)], .map mt_9_24 h1, .map mt_82_4 h2] Q :=
  acalls2 (E := env_unify_unifier_set) (envOk _ _ _ _ _) 0 Try.func69 (by kernel_rfl) h
def env_unify_unifier_measure_w : Env := envA [(13, (.undef 1) :: (.undef 4) :: ua 14 4 (ua 49 2 (ua 54 21 ((.dead 4) :: da 14 2 ([.dead 60, .dead 66, .dead 71])))))] [(2, 12, [], []), (16, 13, [], [(12, 12)])] [] [] []
def kl_unify_unifier_measure_w_0 (Q : QD) : Post := blockK 0 (seqJ env_unify_unifier_measure_w (fnAt [1, 1, 1, 1] Try.f51) (endK env_unify_unifier_measure_w Try.f51 Q))
@[irreducible] def lp_unify_unifier_measure_w_0 (Q : QD) (m0 : Nat) (x51 : LL) (x52 x53 y6_0 y6_1 y12_0 y12_1 : Int) (h1 h2 h3 : LL) : Prop :=
  iter (adj (env_unify_unifier_measure_w.adj 13)) (evCode env_unify_unifier_measure_w (fnAt [1, 1, 1, 0, 1, 0, 0] Try.f51)) (kl_unify_unifier_measure_w_0 Q) m0 ⟨(.ptr (.own 0) 0) :: .undef :: (.mp (.own 3)) :: .skip :: .undef :: .skip :: (.ptr (.loc 6) 0) :: sk 5 ((.ptr (.loc 12) 0) :: .skip :: un 4 (sk 31 (un 2 ((.v (.sl t_Term) (V.l x51)) :: (.v (.int .i64) (V.i x52)) :: (.v (.int .i64) (V.i x53)) :: un 21 (sk 5 ([])))))), dd 6 ((.cells [.v (.int .i64) (V.i y6_0), .v (.int .i64) (V.i y6_1)]) :: dd 5 ((.cells [.v (.int .i64) (V.i y12_0), .v (.int .i64) (V.i y12_1)]) :: dd 67 ([])))⟩ [.cells [.mp (.own 1), .mp (.own 2)], .map mt_9_24 h1, .map mt_82_4 h2, .map mt_9_80 h3]
def st_unify_unifier_measure_w_0 (Q : QD) (m0 : Nat) (x51 : LL) (x52 x53 y6_0 y6_1 y12_0 y12_1 : Int) (h1 h2 h3 : LL) : Prop :=
  iff (decide (x53 < x52)) (0 ≤ x53 ∧ x53 < x51.length ∧ cl f_unify_unifier_measure [.ptr (.own 0) 0, .agg [.v .str (((x51.getD x53.toNat []).drop 0).headD V.none), .v .bool ((((x51.getD x53.toNat []).drop 0).tail).headD V.none), .v (.sl t_Term) (((((x51.getD x53.toNat []).drop 0).tail).tail).headD V.none)], .mp (.own 3)] [.cells [.mp (.own 1), .mp (.own 2)], .map mt_9_24 h1, .map mt_82_4 h2, .map mt_9_80 h3] fun r1 H2 => r1 = (.agg [.v (.int .i64) ((r1.cells.headD .undef).V), .v (.int .i64) ((r1.cells.tail.headD .undef).V)]) ∧ H2 = [.cells [.mp (.own 1), .mp (.own 2)], .map mt_9_24 ((H2.tail.headD .dead).xs), .map mt_82_4 ((H2.tail.tail.headD .dead).xs), .map mt_9_80 ((H2.tail.tail.tail.headD .dead).xs)] ∧ lp_unify_unifier_measure_w_0 Q m0 x51 x52 (IntKind.i64.wrap (x53 + (1 : Int))) y6_0 y6_1 (if (4001 : Int) < (IntKind.i64.wrap (y12_0 + (((r1.cells.headD .undef).V).int))) then (4001 : Int) else (IntKind.i64.wrap (y12_0 + (((r1.cells.headD .undef).V).int)))) (if (((r1.cells.tail.headD .undef).V).int) > y12_1 then (((r1.cells.tail.headD .undef).V).int) else y12_1) ((H2.tail.headD .dead).xs) ((H2.tail.tail.headD .dead).xs) ((H2.tail.tail.tail.headD .dead).xs)) ((True ∧ True ∧ True) ∧ Q (.agg [.v (.int .i64) (V.i y12_0), .v (.int .i64) (V.i (IntKind.i64.wrap (y12_1 + (1 : Int))))]) [.cells [.mp (.own 1), .mp (.own 2)], .map mt_9_24 h1, .map mt_82_4 h2, .map mt_9_80 h3])
theorem lp_unify_unifier_measure_w_0_s (Q : QD) (m0 : Nat) (x51 : LL) (x52 x53 y6_0 y6_1 y12_0 y12_1 : Int) (h1 h2 h3 : LL) : lp_unify_unifier_measure_w_0 Q (m0 + 1) x51 x52 x53 y6_0 y6_1 y12_0 y12_1 h1 h2 h3 = st_unify_unifier_measure_w_0 Q m0 x51 x52 x53 y6_0 y6_1 y12_0 y12_1 h1 h2 h3 := by kernel_rfl
theorem range_unify_unifier_measure_w_0 (Q : QD) (x51 : LL) (y6_0 y6_1 : Int) (n : Nat) (hb : n ≤ big) (J : Nat → Int → Int → LL → LL → LL → Prop)
    (step : ∀ (k : Nat) (y12_0 y12_1 : Int) (h1 h2 h3 : LL), k < n → J k y12_0 y12_1 h1 h2 h3 → ∀ K : Int → Int → LL → LL → LL → Prop, (∀ (y12_0' y12_1' : Int) (h1' h2' h3' : LL), J (k + 1) y12_0' y12_1' h1' h2' h3' → K y12_0' y12_1' h1' h2' h3') → (0 ≤ (k : Int) ∧ (k : Int) < x51.length ∧ cl f_unify_unifier_measure [.ptr (.own 0) 0, .agg [.v .str (((x51.getD k []).drop 0).headD V.none), .v .bool ((((x51.getD k []).drop 0).tail).headD V.none), .v (.sl t_Term) (((((x51.getD k []).drop 0).tail).tail).headD V.none)], .mp (.own 3)] [.cells [.mp (.own 1), .mp (.own 2)], .map mt_9_24 h1, .map mt_82_4 h2, .map mt_9_80 h3] fun r1 H2 => r1 = (.agg [.v (.int .i64) ((r1.cells.headD .undef).V), .v (.int .i64) ((r1.cells.tail.headD .undef).V)]) ∧ H2 = [.cells [.mp (.own 1), .mp (.own 2)], .map mt_9_24 ((H2.tail.headD .dead).xs), .map mt_82_4 ((H2.tail.tail.headD .dead).xs), .map mt_9_80 ((H2.tail.tail.tail.headD .dead).xs)] ∧ K (if (4001 : Int) < (IntKind.i64.wrap (y12_0 + (((r1.cells.headD .undef).V).int))) then (4001 : Int) else (IntKind.i64.wrap (y12_0 + (((r1.cells.headD .undef).V).int)))) (if (((r1.cells.tail.headD .undef).V).int) > y12_1 then (((r1.cells.tail.headD .undef).V).int) else y12_1) ((H2.tail.headD .dead).xs) ((H2.tail.tail.headD .dead).xs) ((H2.tail.tail.tail.headD .dead).xs)))
    (last : ∀ (y12_0 y12_1 : Int) (h1 h2 h3 : LL), J n y12_0 y12_1 h1 h2 h3 → ((True ∧ True ∧ True) ∧ Q (.agg [.v (.int .i64) (V.i y12_0), .v (.int .i64) (V.i (IntKind.i64.wrap (y12_1 + (1 : Int))))]) [.cells [.mp (.own 1), .mp (.own 2)], .map mt_9_24 h1, .map mt_82_4 h2, .map mt_9_80 h3]))
    (k : Nat) (y12_0 y12_1 : Int) (h1 h2 h3 : LL) (le0 : k ≤ n) (hj : J k y12_0 y12_1 h1 h2 h3) : ∃ m0, lp_unify_unifier_measure_w_0 Q m0 x51 (n : Int) ((k : Int)) y6_0 y6_1 y12_0 y12_1 h1 h2 h3 := by
  exact rangeG5 n hb J (fun m0 i y12_0 y12_1 h1 h2 h3 => lp_unify_unifier_measure_w_0 Q m0 x51 (n : Int) i y6_0 y6_1 y12_0 y12_1 h1 h2 h3) (fun m0 i y12_0 y12_1 h1 h2 h3 => lp_unify_unifier_measure_w_0_s Q m0 x51 (n : Int) i y6_0 y6_1 y12_0 y12_1 h1 h2 h3) (fun k y12_0 y12_1 h1 h2 h3 hl_ hj_ m_ ih_ => step k y12_0 y12_1 h1 h2 h3 hl_ hj_ _ ih_) last k y12_0 y12_1 h1 h2 h3 le0 hj
def vc_unify_unifier_measure_w (a1_0 : ByteArray) (a1_1 : Bool) (a1_2 h1 h2 h3 : LL) (Q : QD) : Prop :=
  iff a1_1 (iff (!(mhas [.str] [V.s a1_0] h1)) ((True ∧ True ∧ True) ∧ Q (.agg [.v (.int .i64) (V.i 1), .v (.int .i64) (V.i 1)]) [.cells [.mp (.own 1), .mp (.own 2)], .map mt_9_24 h1, .map mt_82_4 h2, .map mt_9_80 h3]) (iff (mhas [.str] [V.s a1_0] h3) ((True ∧ True ∧ True) ∧ Q (.agg [.v (.int .i64) ((mget [.str] [V.i 0, V.i 0] [V.s a1_0] h3).headD V.none), .v (.int .i64) (((mget [.str] [V.i 0, V.i 0] [V.s a1_0] h3).tail).headD V.none)]) [.cells [.mp (.own 1), .mp (.own 2)], .map mt_9_24 h1, .map mt_82_4 h2, .map mt_9_80 h3]) (cl f_unify_unifier_measure [.ptr (.own 0) 0, .agg [.v .str ((mget [.str] [V.s (ByteArray.mk #[]), V.b false, V.l ([])] [V.s a1_0] h1).headD V.none), .v .bool (((mget [.str] [V.s (ByteArray.mk #[]), V.b false, V.l ([])] [V.s a1_0] h1).tail).headD V.none), .v (.sl t_Term) ((((mget [.str] [V.s (ByteArray.mk #[]), V.b false, V.l ([])] [V.s a1_0] h1).tail).tail).headD V.none)], .mp (.own 3)] [.cells [.mp (.own 1), .mp (.own 2)], .map mt_9_24 h1, .map mt_82_4 h2, .map mt_9_80 h3] fun r1 H2 => r1 = (.agg [.v (.int .i64) ((r1.cells.headD .undef).V), .v (.int .i64) ((r1.cells.tail.headD .undef).V)]) ∧ H2 = [.cells [.mp (.own 1), .mp (.own 2)], .map mt_9_24 ((H2.tail.headD .dead).xs), .map mt_82_4 ((H2.tail.tail.headD .dead).xs), .map mt_9_80 ((H2.tail.tail.tail.headD .dead).xs)] ∧ (True ∧ True ∧ True) ∧ Q (.agg [.v (.int .i64) ((r1.cells.headD .undef).V), .v (.int .i64) ((r1.cells.tail.headD .undef).V)]) [.cells [.mp (.own 1), .mp (.own 2)], .map mt_9_24 ((H2.tail.headD .dead).xs), .map mt_82_4 ((H2.tail.tail.headD .dead).xs), .map mt_9_80 (mset [.str] [V.s a1_0] [(r1.cells.headD .undef).V, (r1.cells.tail.headD .undef).V] ((H2.tail.tail.tail.headD .dead).xs))]))) ((a1_2.length ≤ big → ∃ m0, lp_unify_unifier_measure_w_0 Q m0 a1_2 ((a1_2.length : Int)) 0 0 0 1 0 h1 h2 h3))
theorem C_unify_unifier_measure_w (a1_0 : ByteArray) (a1_1 : Bool) (a1_2 h1 h2 h3 : LL) (Q : QD) (h : vc_unify_unifier_measure_w a1_0 a1_1 a1_2 h1 h2 h3 Q) : cl f_unify_unifier_measure [.ptr (.own 0) 0, .agg [.v .str (V.s a1_0), .v .bool (V.b a1_1), .v (.sl t_Term) (V.l a1_2)], .mp (.own 3)] [.cells [.mp (.own 1), .mp (.own 2)], .map mt_9_24 h1, .map mt_82_4 h2, .map mt_9_80 h3] Q :=
  acalls2 (E := env_unify_unifier_measure_w) (envOk _ _ _ _ _) 0 Try.func51 (by kernel_rfl) h
def env_unify_unifier_whole_w : Env := envA [(8, (.undef 1) :: (.undef 3) :: ua 9 3 (ua 29 4 (ua 36 12 ((.dead 3) :: (.dead 9) :: da 43 3 ([.ownC 7 2 49 t_Term])))))] [(2, 12, [], []), (10, 6, [], [])] [] [] []
def kl_unify_unifier_whole_w_0 (Q : QD) : Post := blockK 0 (seqJ env_unify_unifier_whole_w (fnAt [1, 1, 1, 1] Try.f53) (endK env_unify_unifier_whole_w Try.f53 Q))
@[irreducible] def lp_unify_unifier_whole_w_0 (Q : QD) (m0 : Nat) (x33 : LL) (x34 x35 : Int) (y4_0 : ByteArray) (y4_1 : Bool) (y7_0 : ByteArray) (y7_1 : Bool) (y7_2n : Nat) (y49 h1 h2 : LL) : Prop :=
  iter (adj (env_unify_unifier_whole_w.adj 8)) (evCode env_unify_unifier_whole_w (fnAt [1, 1, 1, 0, 1, 0, 0] Try.f53)) (kl_unify_unifier_whole_w_0 Q) m0 ⟨(.ptr (.own 0) 0) :: .undef :: .skip :: .undef :: (.ptr (.loc 4) 0) :: sk 2 ((.ptr (.loc 7) 0) :: .skip :: un 3 (sk 17 (un 4 ((.v (.sl t_Term) (V.l x33)) :: (.v (.int .i64) (V.i x34)) :: (.v (.int .i64) (V.i x35)) :: un 12 ([.skip]))))), dd 4 ((.cells [.v .str (V.s y4_0), .v .bool (V.b y4_1), .nil]) :: dd 2 ((.cells [.v .str (V.s y7_0), .v .bool (V.b y7_1), .osl (.loc 49) y7_2n]) :: dd 41 ([.row t_Term y49])))⟩ [.cells [.mp (.own 1), .mp (.own 2)], .map mt_9_24 h1, .map mt_82_4 h2]
def st_unify_unifier_whole_w_0 (Q : QD) (m0 : Nat) (x33 : LL) (x34 x35 : Int) (y4_0 : ByteArray) (y4_1 : Bool) (y7_0 : ByteArray) (y7_1 : Bool) (y7_2n : Nat) (y49 h1 h2 : LL) : Prop :=
  iff (decide (x35 < x34)) (0 ≤ x35 ∧ x35 < x33.length ∧ (∃ r1 : D, cl f_unify_unifier_whole [.ptr (.own 0) 0, .agg [.v .str (((x33.getD x35.toNat []).drop 0).headD V.none), .v .bool ((((x33.getD x35.toNat []).drop 0).tail).headD V.none), .v (.sl t_Term) (((((x33.getD x35.toNat []).drop 0).tail).tail).headD V.none)]] [.cells [.mp (.own 1), .mp (.own 2)], .map mt_9_24 h1, .map mt_82_4 h2] (fun r H' => r = (.agg [.v .str ((r1.cells.headD .undef).V), .v .bool ((r1.cells.tail.headD .undef).V), .v (.sl t_Term) ((r1.cells.tail.tail.headD .undef).V)]) ∧ H' = [.cells [.mp (.own 1), .mp (.own 2)], .map mt_9_24 h1, .map mt_82_4 h2]) ∧ y49.length = y7_2n ∧ y7_2n + ([[(r1.cells.headD .undef).V, (r1.cells.tail.headD .undef).V, (r1.cells.tail.tail.headD .undef).V]]).length ≤ lim ∧ lp_unify_unifier_whole_w_0 Q m0 x33 x34 (IntKind.i64.wrap (x35 + (1 : Int))) y4_0 y4_1 y7_0 y7_1 (y7_2n + ([[(r1.cells.headD .undef).V, (r1.cells.tail.headD .undef).V, (r1.cells.tail.tail.headD .undef).V]]).length) (y49 ++ ([[(r1.cells.headD .undef).V, (r1.cells.tail.headD .undef).V, (r1.cells.tail.tail.headD .undef).V]])) h1 h2)) ((True ∧ True ∧ (y7_2n = y49.length) ∧ True) ∧ Q (.agg [.v .str (V.s y7_0), .v .bool (V.b y7_1), .v (.sl t_Term) (V.l y49)]) [.cells [.mp (.own 1), .mp (.own 2)], .map mt_9_24 h1, .map mt_82_4 h2])
theorem lp_unify_unifier_whole_w_0_s (Q : QD) (m0 : Nat) (x33 : LL) (x34 x35 : Int) (y4_0 : ByteArray) (y4_1 : Bool) (y7_0 : ByteArray) (y7_1 : Bool) (y7_2n : Nat) (y49 h1 h2 : LL) : lp_unify_unifier_whole_w_0 Q (m0 + 1) x33 x34 x35 y4_0 y4_1 y7_0 y7_1 y7_2n y49 h1 h2 = st_unify_unifier_whole_w_0 Q m0 x33 x34 x35 y4_0 y4_1 y7_0 y7_1 y7_2n y49 h1 h2 := by kernel_rfl
theorem range_unify_unifier_whole_w_0 (Q : QD) (x33 : LL) (y4_0 : ByteArray) (y4_1 : Bool) (y7_0 : ByteArray) (y7_1 : Bool) (h1 h2 : LL) (n : Nat) (hb : n ≤ big) (J : Nat → Nat → LL → Prop)
    (step : ∀ (k : Nat) (y7_2n : Nat) (y49 : LL), k < n → J k y7_2n y49 → ∀ K : Nat → LL → Prop, (∀ (y7_2n' : Nat) (y49' : LL), J (k + 1) y7_2n' y49' → K y7_2n' y49') → (0 ≤ (k : Int) ∧ (k : Int) < x33.length ∧ (∃ r1 : D, cl f_unify_unifier_whole [.ptr (.own 0) 0, .agg [.v .str (((x33.getD k []).drop 0).headD V.none), .v .bool ((((x33.getD k []).drop 0).tail).headD V.none), .v (.sl t_Term) (((((x33.getD k []).drop 0).tail).tail).headD V.none)]] [.cells [.mp (.own 1), .mp (.own 2)], .map mt_9_24 h1, .map mt_82_4 h2] (fun r H' => r = (.agg [.v .str ((r1.cells.headD .undef).V), .v .bool ((r1.cells.tail.headD .undef).V), .v (.sl t_Term) ((r1.cells.tail.tail.headD .undef).V)]) ∧ H' = [.cells [.mp (.own 1), .mp (.own 2)], .map mt_9_24 h1, .map mt_82_4 h2]) ∧ y49.length = y7_2n ∧ y7_2n + ([[(r1.cells.headD .undef).V, (r1.cells.tail.headD .undef).V, (r1.cells.tail.tail.headD .undef).V]]).length ≤ lim ∧ K (y7_2n + ([[(r1.cells.headD .undef).V, (r1.cells.tail.headD .undef).V, (r1.cells.tail.tail.headD .undef).V]]).length) (y49 ++ ([[(r1.cells.headD .undef).V, (r1.cells.tail.headD .undef).V, (r1.cells.tail.tail.headD .undef).V]])))))
    (last : ∀ (y7_2n : Nat) (y49 : LL), J n y7_2n y49 → ((True ∧ True ∧ (y7_2n = y49.length) ∧ True) ∧ Q (.agg [.v .str (V.s y7_0), .v .bool (V.b y7_1), .v (.sl t_Term) (V.l y49)]) [.cells [.mp (.own 1), .mp (.own 2)], .map mt_9_24 h1, .map mt_82_4 h2]))
    (k : Nat) (y7_2n : Nat) (y49 : LL) (le0 : k ≤ n) (hj : J k y7_2n y49) : ∃ m0, lp_unify_unifier_whole_w_0 Q m0 x33 (n : Int) ((k : Int)) y4_0 y4_1 y7_0 y7_1 y7_2n y49 h1 h2 := by
  exact rangeG2 n hb J (fun m0 i y7_2n y49 => lp_unify_unifier_whole_w_0 Q m0 x33 (n : Int) i y4_0 y4_1 y7_0 y7_1 y7_2n y49 h1 h2) (fun m0 i y7_2n y49 => lp_unify_unifier_whole_w_0_s Q m0 x33 (n : Int) i y4_0 y4_1 y7_0 y7_1 y7_2n y49 h1 h2) (fun k y7_2n y49 hl_ hj_ m_ ih_ => step k y7_2n y49 hl_ hj_ _ ih_) last k y7_2n y49 le0 hj
def vc_unify_unifier_whole_w (a1_0 : ByteArray) (a1_1 : Bool) (a1_2 h1 h2 : LL) (Q : QD) : Prop :=
  iff a1_1 (iff (mhas [.str] [V.s a1_0] h1) (cl f_unify_unifier_whole [.ptr (.own 0) 0, .agg [.v .str ((mget [.str] [V.s (ByteArray.mk #[]), V.b false, V.l ([])] [V.s a1_0] h1).headD V.none), .v .bool (((mget [.str] [V.s (ByteArray.mk #[]), V.b false, V.l ([])] [V.s a1_0] h1).tail).headD V.none), .v (.sl t_Term) ((((mget [.str] [V.s (ByteArray.mk #[]), V.b false, V.l ([])] [V.s a1_0] h1).tail).tail).headD V.none)]] [.cells [.mp (.own 1), .mp (.own 2)], .map mt_9_24 h1, .map mt_82_4 h2] fun r1 H2 => r1 = (.agg [.v .str ((r1.cells.headD .undef).V), .v .bool ((r1.cells.tail.headD .undef).V), .v (.sl t_Term) ((r1.cells.tail.tail.headD .undef).V)]) ∧ H2 = [.cells [.mp (.own 1), .mp (.own 2)], .map mt_9_24 ((H2.tail.headD .dead).xs), .map mt_82_4 ((H2.tail.tail.headD .dead).xs)] ∧ (True ∧ True ∧ True ∧ True) ∧ Q (.agg [.v .str ((r1.cells.headD .undef).V), .v .bool ((r1.cells.tail.headD .undef).V), .v (.sl t_Term) ((r1.cells.tail.tail.headD .undef).V)]) [.cells [.mp (.own 1), .mp (.own 2)], .map mt_9_24 ((H2.tail.headD .dead).xs), .map mt_82_4 ((H2.tail.tail.headD .dead).xs)]) ((True ∧ True ∧ True ∧ True) ∧ Q (.agg [.v .str (V.s a1_0), .v .bool (V.b true), .nil]) [.cells [.mp (.own 1), .mp (.own 2)], .map mt_9_24 h1, .map mt_82_4 h2])) ((a1_2.length ≤ big → ∃ m0, lp_unify_unifier_whole_w_0 Q m0 a1_2 ((a1_2.length : Int)) 0 (ByteArray.mk #[]) false a1_0 false 0 (([] : List (List V))) h1 h2))
theorem C_unify_unifier_whole_w (a1_0 : ByteArray) (a1_1 : Bool) (a1_2 h1 h2 : LL) (Q : QD) (h : vc_unify_unifier_whole_w a1_0 a1_1 a1_2 h1 h2 Q) : cl f_unify_unifier_whole [.ptr (.own 0) 0, .agg [.v .str (V.s a1_0), .v .bool (V.b a1_1), .v (.sl t_Term) (V.l a1_2)]] [.cells [.mp (.own 1), .mp (.own 2)], .map mt_9_24 h1, .map mt_82_4 h2] Q :=
  acalls2 (E := env_unify_unifier_whole_w) (envOk _ _ _ _ _) 1 Try.func53 (by kernel_rfl) h
def env_slices_BinarySearchFunc_Bind_string_unifybind1 : Env := envA [(3, ua 6 2 (ua 11 24 ([.dead 30])))] [] [] [] []
def kl_slices_BinarySearchFunc_Bind_string_unifybind1_0 (Q : QD) : Post := blockK 0 (seqJ env_slices_BinarySearchFunc_Bind_string_unifybind1 (fnAt [1, 1, 1, 1] Try.f70) (endK env_slices_BinarySearchFunc_Bind_string_unifybind1 Try.f70 Q))
@[irreducible] def lp_slices_BinarySearchFunc_Bind_string_unifybind1_0 (Q : QD) (m0 : Nat) (x0n : Nat) (x1 : ByteArray) (x8 x9 x10 : Int) (h0 : LL) : Prop :=
  iter (adj (env_slices_BinarySearchFunc_Bind_string_unifybind1.adj 3)) (evCode env_slices_BinarySearchFunc_Bind_string_unifybind1 (fnAt [1, 1, 1, 0, 0, 0] Try.f70)) (kl_slices_BinarySearchFunc_Bind_string_unifybind1_0 Q) m0 ⟨(.osl (.own 0) x0n) :: (.v .str (V.s x1)) :: (.fn f_unify_bind_1 []) :: sk 3 (un 2 ((.v (.int .i64) (V.i x8)) :: (.v (.int .i64) (V.i x9)) :: (.v (.int .i64) (V.i x10)) :: un 24 (sk 14 ([])))), dd 49 ([])⟩ [.row t_Bind h0]
def st_slices_BinarySearchFunc_Bind_string_unifybind1_0 (Q : QD) (m0 : Nat) (x0n : Nat) (x1 : ByteArray) (x8 x9 x10 : Int) (h0 : LL) : Prop :=
  iff (decide (x9 < x10)) (0 ≤ (1 : Int) ∧ h0.length = x0n ∧ 0 ≤ (IntKind.i64.wrap ((IntKind.u64.wrap (IntKind.i64.wrap (x9 + x10))).fdiv (2 ^ (min ((1 : Int)).toNat IntKind.u64.bits)))) ∧ (IntKind.i64.wrap ((IntKind.u64.wrap (IntKind.i64.wrap (x9 + x10))).fdiv (2 ^ (min ((1 : Int)).toNat IntKind.u64.bits)))) < x0n ∧ h0.length = x0n ∧ ((IntKind.i64.wrap ((IntKind.u64.wrap (IntKind.i64.wrap (x9 + x10))).fdiv (2 ^ (min ((1 : Int)).toNat IntKind.u64.bits))))).toNat < x0n ∧ cl f_unify_bind_1 [.agg [.v .str (((h0.getD (((IntKind.i64.wrap ((IntKind.u64.wrap (IntKind.i64.wrap (x9 + x10))).fdiv (2 ^ (min ((1 : Int)).toNat IntKind.u64.bits))))).toNat) []).drop 0).headD V.none), .v .str ((((h0.getD (((IntKind.i64.wrap ((IntKind.u64.wrap (IntKind.i64.wrap (x9 + x10))).fdiv (2 ^ (min ((1 : Int)).toNat IntKind.u64.bits))))).toNat) []).drop 0).tail).headD V.none), .v .bool (((((h0.getD (((IntKind.i64.wrap ((IntKind.u64.wrap (IntKind.i64.wrap (x9 + x10))).fdiv (2 ^ (min ((1 : Int)).toNat IntKind.u64.bits))))).toNat) []).drop 0).tail).tail).headD V.none), .v (.sl t_Term) ((((((h0.getD (((IntKind.i64.wrap ((IntKind.u64.wrap (IntKind.i64.wrap (x9 + x10))).fdiv (2 ^ (min ((1 : Int)).toNat IntKind.u64.bits))))).toNat) []).drop 0).tail).tail).tail).headD V.none)], .v .str (V.s x1)] [] fun r1 H2 => r1 = (.v (.int .i64) (r1.V)) ∧ H2 = [] ∧ iff (decide (r1.V.int < (0 : Int))) (lp_slices_BinarySearchFunc_Bind_string_unifybind1_0 Q m0 x0n x1 x8 (IntKind.i64.wrap ((IntKind.i64.wrap ((IntKind.u64.wrap (IntKind.i64.wrap (x9 + x10))).fdiv (2 ^ (min ((1 : Int)).toNat IntKind.u64.bits)))) + (1 : Int))) x10 h0) (lp_slices_BinarySearchFunc_Bind_string_unifybind1_0 Q m0 x0n x1 x8 x9 (IntKind.i64.wrap ((IntKind.u64.wrap (IntKind.i64.wrap (x9 + x10))).fdiv (2 ^ (min ((1 : Int)).toNat IntKind.u64.bits)))) h0)) (iff (decide (x9 < x8)) (h0.length = x0n ∧ 0 ≤ x9 ∧ x9 < x0n ∧ h0.length = x0n ∧ x9.toNat < x0n ∧ cl f_unify_bind_1 [.agg [.v .str (((h0.getD x9.toNat []).drop 0).headD V.none), .v .str ((((h0.getD x9.toNat []).drop 0).tail).headD V.none), .v .bool (((((h0.getD x9.toNat []).drop 0).tail).tail).headD V.none), .v (.sl t_Term) ((((((h0.getD x9.toNat []).drop 0).tail).tail).tail).headD V.none)], .v .str (V.s x1)] [] fun r3 H4 => r3 = (.v (.int .i64) (r3.V)) ∧ H4 = [] ∧ (True ∧ True ∧ True) ∧ Q (.tup [.v (.int .i64) (V.i x9), .v .bool (V.b (r3.V.int == (0 : Int)))]) [.row t_Bind h0]) ((True ∧ True ∧ True) ∧ Q (.tup [.v (.int .i64) (V.i x9), .v .bool (V.b false)]) [.row t_Bind h0]))
theorem lp_slices_BinarySearchFunc_Bind_string_unifybind1_0_s (Q : QD) (m0 : Nat) (x0n : Nat) (x1 : ByteArray) (x8 x9 x10 : Int) (h0 : LL) : lp_slices_BinarySearchFunc_Bind_string_unifybind1_0 Q (m0 + 1) x0n x1 x8 x9 x10 h0 = st_slices_BinarySearchFunc_Bind_string_unifybind1_0 Q m0 x0n x1 x8 x9 x10 h0 := by kernel_rfl
theorem rule_slices_BinarySearchFunc_Bind_string_unifybind1_0 (Q : QD) : RuleG6 (lp_slices_BinarySearchFunc_Bind_string_unifybind1_0 Q) (st_slices_BinarySearchFunc_Bind_string_unifybind1_0 Q) := ruleG6 _ _ (lp_slices_BinarySearchFunc_Bind_string_unifybind1_0_s Q)
def vc_slices_BinarySearchFunc_Bind_string_unifybind1 (a0n : Nat) (a1 : ByteArray) (h0 : LL) (Q : QD) : Prop :=
  h0.length = a0n ∧ (a0n ≤ big → ∃ m0, lp_slices_BinarySearchFunc_Bind_string_unifybind1_0 Q m0 a0n a1 (((a0n : Nat) : Int)) 0 (((a0n : Nat) : Int)) h0)
theorem C_slices_BinarySearchFunc_Bind_string_unifybind1 (a0n : Nat) (a1 : ByteArray) (h0 : LL) (Q : QD) (h : vc_slices_BinarySearchFunc_Bind_string_unifybind1 a0n a1 h0 Q) : cl f_slices_BinarySearchFunc_Bind_string [.osl (.own 0) a0n, .v .str (V.s a1), .fn f_unify_bind_1 []] [.row t_Bind h0] Q :=
  acalls2 (E := env_slices_BinarySearchFunc_Bind_string_unifybind1) (envOk _ _ _ _ _) 0 Try.func70 (by kernel_rfl) h
def env_r03_reach_nil : Env := envA [(1000000, [.ownT 2 46 t_string]), (9, (.undef 1) :: (.undef 4) :: (.undef 6) :: ua 8 3 ((.undef 33) :: ua 37 8 ([.dead 4, .dead 8, .dead 43])))] [] [] [] []
def kl_r03_reach_nil_0 (Q : QD) : Post := blockK 0 (seqJ env_r03_reach_nil (fnAt [1, 1, 1] Try.f75) (endK env_r03_reach_nil Try.f75 Q))
@[irreducible] def lp_r03_reach_nil_0 (Q : QD) (m0 : Nat) (x0 : LL) (x2n : Nat) (x34 : LL) (x35 x36 : Int) (y46 : LL) : Prop :=
  iter (adj (env_r03_reach_nil.adj 9)) (evCode env_r03_reach_nil (fnAt [1, 1, 0, 1, 0, 0] Try.f75)) (kl_r03_reach_nil_0 Q) m0 ⟨(.v (.sl t_Bind) (V.l x0)) :: .undef :: (.osl (.loc 46) x2n) :: .skip :: .undef :: .skip :: .undef :: .skip :: un 3 (sk 22 (.undef :: (.v (.sl t_Term) (V.l x34)) :: (.v (.int .i64) (V.i x35)) :: (.v (.int .i64) (V.i x36)) :: un 8 ([.skip]))), dd 46 ([.row t_string y46])⟩ []
def st_r03_reach_nil_0 (Q : QD) (m0 : Nat) (x0 : LL) (x2n : Nat) (x34 : LL) (x35 x36 : Int) (y46 : LL) : Prop :=
  iff (decide (x36 < x35)) (0 ≤ x36 ∧ x36 < x34.length ∧ cl f_r03_reach [.v (.sl t_Bind) (V.l x0), .agg [.v .str (((x34.getD x36.toNat []).drop 0).headD V.none), .v .bool ((((x34.getD x36.toNat []).drop 0).tail).headD V.none), .v (.sl t_Term) (((((x34.getD x36.toNat []).drop 0).tail).tail).headD V.none)], .osl (.own 0) x2n] [.row t_string y46] fun r1 H2 => r1 = (.osl (.own 0) r1.len) ∧ H2 = [.row t_string ((H2.headD .dead).xs)] ∧ lp_r03_reach_nil_0 Q m0 x0 r1.len x34 x35 (IntKind.i64.wrap (x36 + (1 : Int))) ((H2.headD .dead).xs)) ((x2n = y46.length) ∧ Q (.v (.sl t_string) (V.l y46)) [])
theorem lp_r03_reach_nil_0_s (Q : QD) (m0 : Nat) (x0 : LL) (x2n : Nat) (x34 : LL) (x35 x36 : Int) (y46 : LL) : lp_r03_reach_nil_0 Q (m0 + 1) x0 x2n x34 x35 x36 y46 = st_r03_reach_nil_0 Q m0 x0 x2n x34 x35 x36 y46 := by kernel_rfl
theorem range_r03_reach_nil_0 (Q : QD) (x0 x34 : LL) (n : Nat) (hb : n ≤ big) (J : Nat → Nat → LL → Prop)
    (step : ∀ (k : Nat) (x2n : Nat) (y46 : LL), k < n → J k x2n y46 → ∀ K : Nat → LL → Prop, (∀ (x2n' : Nat) (y46' : LL), J (k + 1) x2n' y46' → K x2n' y46') → (0 ≤ (k : Int) ∧ (k : Int) < x34.length ∧ cl f_r03_reach [.v (.sl t_Bind) (V.l x0), .agg [.v .str (((x34.getD k []).drop 0).headD V.none), .v .bool ((((x34.getD k []).drop 0).tail).headD V.none), .v (.sl t_Term) (((((x34.getD k []).drop 0).tail).tail).headD V.none)], .osl (.own 0) x2n] [.row t_string y46] fun r1 H2 => r1 = (.osl (.own 0) r1.len) ∧ H2 = [.row t_string ((H2.headD .dead).xs)] ∧ K r1.len ((H2.headD .dead).xs)))
    (last : ∀ (x2n : Nat) (y46 : LL), J n x2n y46 → ((x2n = y46.length) ∧ Q (.v (.sl t_string) (V.l y46)) []))
    (k : Nat) (x2n : Nat) (y46 : LL) (le0 : k ≤ n) (hj : J k x2n y46) : ∃ m0, lp_r03_reach_nil_0 Q m0 x0 x2n x34 (n : Int) ((k : Int)) y46 := by
  exact rangeG2 n hb J (fun m0 i x2n y46 => lp_r03_reach_nil_0 Q m0 x0 x2n x34 (n : Int) i y46) (fun m0 i x2n y46 => lp_r03_reach_nil_0_s Q m0 x0 x2n x34 (n : Int) i y46) (fun k x2n y46 hl_ hj_ m_ ih_ => step k x2n y46 hl_ hj_ _ ih_) last k x2n y46 le0 hj
def vc_r03_reach_nil (a0 : LL) (a1_0 : ByteArray) (a1_1 : Bool) (a1_2 : LL) (Q : QD) : Prop :=
  iff a1_1 (cl f_r01_Has [.osl (.own 0) 0, .v .str (V.s a1_0)] [.row t_string (([] : List (List V)))] fun r1 H2 => r1 = (.v .bool (r1.V)) ∧ H2 = [.row t_string ((H2.headD .dead).xs)] ∧ iff r1.V.bool ((0 = ((H2.headD .dead).xs).length) ∧ Q (.v (.sl t_string) (V.l ((H2.headD .dead).xs))) []) (((H2.headD .dead).xs).length = 0 ∧ 0 + ([[V.s a1_0]]).length ≤ lim ∧ cl f_r03_Bound [.v (.sl t_Bind) (V.l a0), .v .str (V.s a1_0)] [] fun r3 H4 => r3 = (.v .bool (r3.V)) ∧ H4 = [] ∧ iff r3.V.bool (cl f_r01_Image [.v (.sl t_Bind) (V.l a0), .v .str (V.s a1_0)] [] fun r5 H6 => r5 = (.agg [.v .str ((r5.cells.headD .undef).V), .v .bool ((r5.cells.tail.headD .undef).V), .v (.sl t_Term) ((r5.cells.tail.tail.headD .undef).V)]) ∧ H6 = [] ∧ cl f_r03_reach [.v (.sl t_Bind) (V.l a0), .agg [.v .str ((r5.cells.headD .undef).V), .v .bool ((r5.cells.tail.headD .undef).V), .v (.sl t_Term) ((r5.cells.tail.tail.headD .undef).V)], .osl (.own 0) (0 + ([[V.s a1_0]]).length)] [.row t_string (((H2.headD .dead).xs) ++ ([[V.s a1_0]]))] fun r7 H8 => r7 = (.osl (.own 0) r7.len) ∧ H8 = [.row t_string ((H8.headD .dead).xs)] ∧ (r7.len = ((H8.headD .dead).xs).length) ∧ Q (.v (.sl t_string) (V.l ((H8.headD .dead).xs))) []) ((0 + ([[V.s a1_0]]).length = (((H2.headD .dead).xs) ++ ([[V.s a1_0]])).length) ∧ Q (.v (.sl t_string) (V.l (((H2.headD .dead).xs) ++ ([[V.s a1_0]])))) []))) ((a1_2.length ≤ big → ∃ m0, lp_r03_reach_nil_0 Q m0 a0 0 a1_2 ((a1_2.length : Int)) 0 (([] : List (List V)))))
theorem C_r03_reach_nil (a0 : LL) (a1_0 : ByteArray) (a1_1 : Bool) (a1_2 : LL) (Q : QD) (h : vc_r03_reach_nil a0 a1_0 a1_1 a1_2 Q) : cl f_r03_reach [.v (.sl t_Bind) (V.l a0), .agg [.v .str (V.s a1_0), .v .bool (V.b a1_1), .v (.sl t_Term) (V.l a1_2)], .nil] [] Q :=
  acalls2 (E := env_r03_reach_nil) (envOk _ _ _ _ _) 1 Try.func75 (by kernel_rfl) h
def env_r01_Has : Env := envA [(2, (.undef 0) :: (.undef 4) :: (.undef 6) :: ua 10 7 ([]))] [] [] [] []
def kl_r01_Has_0 (Q : QD) : Post := blockK 0 (seqJ env_r01_Has (fnAt [1, 1] Try.f74) (endK env_r01_Has Try.f74 Q))
@[irreducible] def lp_r01_Has_0 (Q : QD) (m0 : Nat) (x1 : ByteArray) (x7 : LL) (x8 x9 : Int) : Prop :=
  iter (adj (env_r01_Has.adj 2)) (evCode env_r01_Has (fnAt [1, 0, 1, 0, 0] Try.f74)) (kl_r01_Has_0 Q) m0 ⟨.undef :: (.v .str (V.s x1)) :: sk 2 (.undef :: .skip :: .undef :: (.v (.sl t_string) (V.l x7)) :: (.v (.int .i64) (V.i x8)) :: (.v (.int .i64) (V.i x9)) :: un 7 ([])), dd 17 ([])⟩ []
def st_r01_Has_0 (Q : QD) (m0 : Nat) (x1 : ByteArray) (x7 : LL) (x8 x9 : Int) : Prop :=
  iff (decide (x9 < x8)) (0 ≤ x9 ∧ x9 < x7.length ∧ iff (((((x7.getD x9.toNat []).drop 0).headD V.none).str).toList == x1.toList) (True ∧ Q (.v .bool (V.b true)) []) (lp_r01_Has_0 Q m0 x1 x7 x8 (IntKind.i64.wrap (x9 + (1 : Int))))) (True ∧ Q (.v .bool (V.b false)) [])
theorem lp_r01_Has_0_s (Q : QD) (m0 : Nat) (x1 : ByteArray) (x7 : LL) (x8 x9 : Int) : lp_r01_Has_0 Q (m0 + 1) x1 x7 x8 x9 = st_r01_Has_0 Q m0 x1 x7 x8 x9 := by kernel_rfl
theorem range_r01_Has_0 (Q : QD) (x1 : ByteArray) (x7 : LL) (n : Nat) (hb : n ≤ big) (J : Nat → Prop)
    (step : ∀ (k : Nat), k < n → J k → ∀ K : Prop, (J (k + 1) → K) → (0 ≤ (k : Int) ∧ (k : Int) < x7.length ∧ iff (((((x7.getD k []).drop 0).headD V.none).str).toList == x1.toList) (True ∧ Q (.v .bool (V.b true)) []) (K)))
    (last : J n → (True ∧ Q (.v .bool (V.b false)) []))
    (k : Nat) (le0 : k ≤ n) (hj : J k) : ∃ m0, lp_r01_Has_0 Q m0 x1 x7 (n : Int) ((k : Int)) := by
  exact rangeG0 n hb J (fun m0 i => lp_r01_Has_0 Q m0 x1 x7 (n : Int) i) (fun m0 i => lp_r01_Has_0_s Q m0 x1 x7 (n : Int) i) (fun k hl_ hj_ m_ ih_ => step k hl_ hj_ _ ih_) last k le0 hj
def vc_r01_Has (a0 : LL) (a1 : ByteArray) (Q : QD) : Prop :=
  (a0.length ≤ big → ∃ m0, lp_r01_Has_0 Q m0 a1 a0 ((a0.length : Int)) 0)
theorem C_r01_Has (a0 : LL) (a1 : ByteArray) (Q : QD) (h : vc_r01_Has a0 a1 Q) : cl f_r01_Has [.v (.sl t_string) (V.l a0), .v .str (V.s a1)] [] Q :=
  acalls2 (E := env_r01_Has) (envOk _ _ _ _ _) 0 Try.func74 (by kernel_rfl) h
def env_r01_letter : Env := envA [] [] [] [] []
def vc_r01_letter (a0 : Int) (Q : QD) : Prop :=
  iff (decide (a0 ≥ (65 : Int))) (iff (decide (a0 ≤ (90 : Int))) (True ∧ Q (.v .bool (V.b true)) []) (iff (decide (a0 ≥ (97 : Int))) (iff (decide (a0 ≤ (122 : Int))) (True ∧ Q (.v .bool (V.b true)) []) (iff (decide (a0 ≥ (48 : Int))) (iff (decide (a0 ≤ (57 : Int))) (True ∧ Q (.v .bool (V.b true)) []) (iff (a0 == (95 : Int)) (True ∧ Q (.v .bool (V.b true)) []) (True ∧ Q (.v .bool (V.b (a0 == (39 : Int)))) []))) (iff (a0 == (95 : Int)) (True ∧ Q (.v .bool (V.b true)) []) (True ∧ Q (.v .bool (V.b (a0 == (39 : Int)))) [])))) (iff (decide (a0 ≥ (48 : Int))) (iff (decide (a0 ≤ (57 : Int))) (True ∧ Q (.v .bool (V.b true)) []) (iff (a0 == (95 : Int)) (True ∧ Q (.v .bool (V.b true)) []) (True ∧ Q (.v .bool (V.b (a0 == (39 : Int)))) []))) (iff (a0 == (95 : Int)) (True ∧ Q (.v .bool (V.b true)) []) (True ∧ Q (.v .bool (V.b (a0 == (39 : Int)))) []))))) (iff (decide (a0 ≥ (97 : Int))) (iff (decide (a0 ≤ (122 : Int))) (True ∧ Q (.v .bool (V.b true)) []) (iff (decide (a0 ≥ (48 : Int))) (iff (decide (a0 ≤ (57 : Int))) (True ∧ Q (.v .bool (V.b true)) []) (iff (a0 == (95 : Int)) (True ∧ Q (.v .bool (V.b true)) []) (True ∧ Q (.v .bool (V.b (a0 == (39 : Int)))) []))) (iff (a0 == (95 : Int)) (True ∧ Q (.v .bool (V.b true)) []) (True ∧ Q (.v .bool (V.b (a0 == (39 : Int)))) [])))) (iff (decide (a0 ≥ (48 : Int))) (iff (decide (a0 ≤ (57 : Int))) (True ∧ Q (.v .bool (V.b true)) []) (iff (a0 == (95 : Int)) (True ∧ Q (.v .bool (V.b true)) []) (True ∧ Q (.v .bool (V.b (a0 == (39 : Int)))) []))) (iff (a0 == (95 : Int)) (True ∧ Q (.v .bool (V.b true)) []) (True ∧ Q (.v .bool (V.b (a0 == (39 : Int)))) []))))
theorem C_r01_letter (a0 : Int) (Q : QD) (h : vc_r01_letter a0 Q) : cl f_r01_letter [.v (.int .u8) (V.i a0)] [] Q :=
  acalls2 (E := env_r01_letter) (envOk _ _ _ _ _) 0 Try.func76 (by kernel_rfl) h
def env_r01_sorted : Env := envA [(3, (.undef 0) :: (.undef 2) :: (.undef 5) :: ua 9 7 ([.dead 14, .plainT 3 t_string]))] [] [] [] []
def kl_r01_sorted_0 (Q : QD) : Post := blockK 0 (seqJ env_r01_sorted (fnAt [1, 1, 1] Try.f77) (endK env_r01_sorted Try.f77 Q))
@[irreducible] def lp_r01_sorted_0 (Q : QD) (m0 : Nat) (x3 : V) (x6 : LL) (x7 x8 : Int) : Prop :=
  iter (adj (env_r01_sorted.adj 3)) (evCode env_r01_sorted (fnAt [1, 1, 0, 1, 0, 0] Try.f77)) (kl_r01_sorted_0 Q) m0 ⟨.undef :: .skip :: .undef :: (.v (.sl t_string) (x3)) :: .skip :: .undef :: (.v (.sl t_string) (V.l x6)) :: (.v (.int .i64) (V.i x7)) :: (.v (.int .i64) (V.i x8)) :: un 7 ([.skip]), dd 17 ([])⟩ []
def st_r01_sorted_0 (Q : QD) (m0 : Nat) (x3 : V) (x6 : LL) (x7 x8 : Int) : Prop :=
  iff (decide (x8 < x7)) (0 ≤ x8 ∧ x8 < x6.length ∧ cl f_r01_Insert [.v (.sl t_string) (x3), .v .str (((x6.getD x8.toNat []).drop 0).headD V.none)] [] fun r1 H2 => r1 = (.v (.sl t_string) (r1.V)) ∧ H2 = [] ∧ lp_r01_sorted_0 Q m0 r1.V x6 x7 (IntKind.i64.wrap (x8 + (1 : Int)))) (True ∧ Q (.v (.sl t_string) (x3)) [])
theorem lp_r01_sorted_0_s (Q : QD) (m0 : Nat) (x3 : V) (x6 : LL) (x7 x8 : Int) : lp_r01_sorted_0 Q (m0 + 1) x3 x6 x7 x8 = st_r01_sorted_0 Q m0 x3 x6 x7 x8 := by kernel_rfl
theorem range_r01_sorted_0 (Q : QD) (x6 : LL) (n : Nat) (hb : n ≤ big) (J : Nat → V → Prop)
    (step : ∀ (k : Nat) (x3 : V), k < n → J k x3 → ∀ K : V → Prop, (∀ (x3' : V), J (k + 1) x3' → K x3') → (0 ≤ (k : Int) ∧ (k : Int) < x6.length ∧ cl f_r01_Insert [.v (.sl t_string) (x3), .v .str (((x6.getD k []).drop 0).headD V.none)] [] fun r1 H2 => r1 = (.v (.sl t_string) (r1.V)) ∧ H2 = [] ∧ K r1.V))
    (last : ∀ (x3 : V), J n x3 → (True ∧ Q (.v (.sl t_string) (x3)) []))
    (k : Nat) (x3 : V) (le0 : k ≤ n) (hj : J k x3) : ∃ m0, lp_r01_sorted_0 Q m0 x3 x6 (n : Int) ((k : Int)) := by
  exact rangeG1 n hb J (fun m0 i x3 => lp_r01_sorted_0 Q m0 x3 x6 (n : Int) i) (fun m0 i x3 => lp_r01_sorted_0_s Q m0 x3 x6 (n : Int) i) (fun k x3 hl_ hj_ m_ ih_ => step k x3 hl_ hj_ _ ih_) last k x3 le0 hj
def vc_r01_sorted (a0 : LL) (Q : QD) : Prop :=
  (a0.length ≤ big → ∃ m0, lp_r01_sorted_0 Q m0 (V.l ([])) a0 ((a0.length : Int)) 0)
theorem C_r01_sorted (a0 : LL) (Q : QD) (h : vc_r01_sorted a0 Q) : cl f_r01_sorted [.v (.sl t_string) (V.l a0)] [] Q :=
  acalls2 (E := env_r01_sorted) (envOk _ _ _ _ _) 0 Try.func77 (by kernel_rfl) h
def env_r01_Digits : Env := envA [] [] [] [] []
def vc_r01_Digits (a0 : Int) (Q : QD) : Prop :=
  iff (decide (a0 < (10 : Int))) (True ∧ Q (.v .str (V.s (strV ([[V.i (IntKind.u8.wrap (IntKind.i64.wrap ((48 : Int) + a0)))]])))) []) ((10 : Int) ≠ 0 ∧ cl f_r01_Digits [.v (.int .i64) (V.i (IntKind.i64.wrap (a0.tdiv (10 : Int))))] [] fun r1 H2 => r1 = (.v .str (r1.V)) ∧ H2 = [] ∧ (10 : Int) ≠ 0 ∧ cl f_r01_Digits [.v (.int .i64) (V.i (a0.tmod (10 : Int)))] [] fun r3 H4 => r3 = (.v .str (r3.V)) ∧ H4 = [] ∧ r1.V.str.size + r3.V.str.size ≤ lim ∧ True ∧ Q (.v .str (V.s (r1.V.str ++ r3.V.str))) [])
theorem C_r01_Digits (a0 : Int) (Q : QD) (h : vc_r01_Digits a0 Q) : cl f_r01_Digits [.v (.int .i64) (V.i a0)] [] Q :=
  acalls2 (E := env_r01_Digits) (envOk _ _ _ _ _) 0 Try.func78 (by kernel_rfl) h
def env_term_IsName : Env := envA [(3000005, (.undef 1) :: ua 4 7 ([.dead 10]))] [] [] [] [5]
@[irreducible] def jp_term_IsName_0 (Q : QD) (x0 : V) : Prop :=
  joinM (evCode env_term_IsName (fnAt [1, 1, 1] Try.f79)) ⟨(.v .str (x0)) :: .undef :: sk 2 (un 7 (sk 8 ([]))), dd 19 ([])⟩ [] (endK env_term_IsName Try.f79 Q)
def je_term_IsName_0 (Q : QD) (x0 : V) : Prop :=
  iff (!(x0.str.toList == (ByteArray.mk #[]).toList)) (cl f_slices_ContainsFunc_byte [.v (.sl t_uint8) (V.l (bytesV x0.str)), .fn f_term_IsName_1 []] [] fun r1 H2 => r1 = (.v .bool (r1.V)) ∧ H2 = [] ∧ True ∧ Q (.v .bool (V.b (!r1.V.bool))) []) (True ∧ Q (.v .bool (V.b false)) [])
theorem jp_term_IsName_0_s (Q : QD) (x0 : V) : jp_term_IsName_0 Q x0 = je_term_IsName_0 Q x0 := by kernel_rfl
def vc_term_IsName (a0 : ByteArray) (a1 : Bool) (Q : QD) : Prop :=
  (a0.size ≤ big → iff (decide (((a0.size : Int)) > (24 : Int))) (True ∧ Q (.v .bool (V.b false)) []) (iff a1 (cl f_strings_TrimSuffix [.v .str (V.s a0), .v .str (V.s (ByteArray.mk #[35]))] [] fun r1 H2 => r1 = (.v .str (r1.V)) ∧ H2 = [] ∧ jp_term_IsName_0 Q r1.V) (jp_term_IsName_0 Q (V.s a0))))
theorem C_term_IsName (a0 : ByteArray) (a1 : Bool) (Q : QD) (h : vc_term_IsName a0 a1 Q) : cl f_term_IsName [.v .str (V.s a0), .v .bool (V.b a1)] [] Q :=
  acalls2 (E := env_term_IsName) (envOk _ _ _ _ _) 0 Try.func79 (by kernel_rfl) h
def env_slices_ContainsFunc_Term_termformed1 : Env := envA [] [] [] [] []
def vc_slices_ContainsFunc_Term_termformed1 (a0 : LL) (Q : QD) : Prop :=
  cl f_slices_IndexFunc_Term [.v (.sl t_Term) (V.l a0), .fn f_term_formed_1 []] [] fun r1 H2 => r1 = (.v (.int .i64) (r1.V)) ∧ H2 = [] ∧ True ∧ Q (.v .bool (V.b (decide (r1.V.int ≥ (0 : Int))))) []
theorem C_slices_ContainsFunc_Term_termformed1 (a0 : LL) (Q : QD) (h : vc_slices_ContainsFunc_Term_termformed1 a0 Q) : cl f_slices_ContainsFunc_Term [.v (.sl t_Term) (V.l a0), .fn f_term_formed_1 []] [] Q :=
  acalls2 (E := env_slices_ContainsFunc_Term_termformed1) (envOk _ _ _ _ _) 0 Try.func80 (by kernel_rfl) h
def env_term_Size : Env := envA [(3, ua 0 3 (ua 5 2 (ua 10 8 ([.dead 1, .dead 5, .dead 15]))))] [] [] [] []
def kl_term_Size_0 (Q : QD) : Post := blockK 0 (seqJ env_term_Size (fnAt [1, 1, 1] Try.f82) (endK env_term_Size Try.f82 Q))
@[irreducible] def lp_term_Size_0 (Q : QD) (m0 : Nat) (x3 : Int) (x7 : LL) (x8 x9 : Int) : Prop :=
  iter (adj (env_term_Size.adj 3)) (evCode env_term_Size (fnAt [1, 1, 0, 1, 0, 0] Try.f82)) (kl_term_Size_0 Q) m0 ⟨un 3 ((.v (.int .i64) (V.i x3)) :: .skip :: un 2 ((.v (.sl t_Term) (V.l x7)) :: (.v (.int .i64) (V.i x8)) :: (.v (.int .i64) (V.i x9)) :: un 8 ([.skip]))), dd 19 ([])⟩ []
def st_term_Size_0 (Q : QD) (m0 : Nat) (x3 : Int) (x7 : LL) (x8 x9 : Int) : Prop :=
  iff (decide (x9 < x8)) (0 ≤ x9 ∧ x9 < x7.length ∧ cl f_term_Size [.agg [.v .str (((x7.getD x9.toNat []).drop 0).headD V.none), .v .bool ((((x7.getD x9.toNat []).drop 0).tail).headD V.none), .v (.sl t_Term) (((((x7.getD x9.toNat []).drop 0).tail).tail).headD V.none)]] [] fun r1 H2 => r1 = (.v (.int .i64) (r1.V)) ∧ H2 = [] ∧ lp_term_Size_0 Q m0 (IntKind.i64.wrap (x3 + r1.V.int)) x7 x8 (IntKind.i64.wrap (x9 + (1 : Int)))) (True ∧ Q (.v (.int .i64) (V.i x3)) [])
theorem lp_term_Size_0_s (Q : QD) (m0 : Nat) (x3 : Int) (x7 : LL) (x8 x9 : Int) : lp_term_Size_0 Q (m0 + 1) x3 x7 x8 x9 = st_term_Size_0 Q m0 x3 x7 x8 x9 := by kernel_rfl
theorem range_term_Size_0 (Q : QD) (x7 : LL) (n : Nat) (hb : n ≤ big) (J : Nat → Int → Prop)
    (step : ∀ (k : Nat) (x3 : Int), k < n → J k x3 → ∀ K : Int → Prop, (∀ (x3' : Int), J (k + 1) x3' → K x3') → (0 ≤ (k : Int) ∧ (k : Int) < x7.length ∧ cl f_term_Size [.agg [.v .str (((x7.getD k []).drop 0).headD V.none), .v .bool ((((x7.getD k []).drop 0).tail).headD V.none), .v (.sl t_Term) (((((x7.getD k []).drop 0).tail).tail).headD V.none)]] [] fun r1 H2 => r1 = (.v (.int .i64) (r1.V)) ∧ H2 = [] ∧ K (IntKind.i64.wrap (x3 + r1.V.int))))
    (last : ∀ (x3 : Int), J n x3 → (True ∧ Q (.v (.int .i64) (V.i x3)) []))
    (k : Nat) (x3 : Int) (le0 : k ≤ n) (hj : J k x3) : ∃ m0, lp_term_Size_0 Q m0 x3 x7 (n : Int) ((k : Int)) := by
  exact rangeG1 n hb J (fun m0 i x3 => lp_term_Size_0 Q m0 x3 x7 (n : Int) i) (fun m0 i x3 => lp_term_Size_0_s Q m0 x3 x7 (n : Int) i) (fun k x3 hl_ hj_ m_ ih_ => step k x3 hl_ hj_ _ ih_) last k x3 le0 hj
def vc_term_Size (a0_0 : ByteArray) (a0_1 : Bool) (a0_2 : LL) (Q : QD) : Prop :=
  (a0_2.length ≤ big → ∃ m0, lp_term_Size_0 Q m0 1 a0_2 ((a0_2.length : Int)) 0)
theorem C_term_Size (a0_0 : ByteArray) (a0_1 : Bool) (a0_2 : LL) (Q : QD) (h : vc_term_Size a0_0 a0_1 a0_2 Q) : cl f_term_Size [.agg [.v .str (V.s a0_0), .v .bool (V.b a0_1), .v (.sl t_Term) (V.l a0_2)]] [] Q :=
  acalls2 (E := env_term_Size) (envOk _ _ _ _ _) 0 Try.func82 (by kernel_rfl) h
def env_term_Depth : Env := envA [(3, ua 0 3 (ua 5 2 (ua 10 8 ((.dead 1) :: (.dead 5) :: da 15 2 ([])))))] [] [] [] []
def kl_term_Depth_0 (Q : QD) : Post := blockK 0 (seqJ env_term_Depth (fnAt [1, 1, 1] Try.f83) (endK env_term_Depth Try.f83 Q))
@[irreducible] def lp_term_Depth_0 (Q : QD) (m0 : Nat) (x3 : Int) (x7 : LL) (x8 x9 : Int) : Prop :=
  iter (adj (env_term_Depth.adj 3)) (evCode env_term_Depth (fnAt [1, 1, 0, 1, 0, 0] Try.f83)) (kl_term_Depth_0 Q) m0 ⟨un 3 ((.v (.int .i64) (V.i x3)) :: .skip :: un 2 ((.v (.sl t_Term) (V.l x7)) :: (.v (.int .i64) (V.i x8)) :: (.v (.int .i64) (V.i x9)) :: un 8 (sk 2 ([])))), dd 20 ([])⟩ []
def st_term_Depth_0 (Q : QD) (m0 : Nat) (x3 : Int) (x7 : LL) (x8 x9 : Int) : Prop :=
  iff (decide (x9 < x8)) (0 ≤ x9 ∧ x9 < x7.length ∧ cl f_term_Depth [.agg [.v .str (((x7.getD x9.toNat []).drop 0).headD V.none), .v .bool ((((x7.getD x9.toNat []).drop 0).tail).headD V.none), .v (.sl t_Term) (((((x7.getD x9.toNat []).drop 0).tail).tail).headD V.none)]] [] fun r1 H2 => r1 = (.v (.int .i64) (r1.V)) ∧ H2 = [] ∧ lp_term_Depth_0 Q m0 (if r1.V.int > x3 then r1.V.int else x3) x7 x8 (IntKind.i64.wrap (x9 + (1 : Int)))) (True ∧ Q (.v (.int .i64) (V.i (IntKind.i64.wrap (x3 + (1 : Int))))) [])
theorem lp_term_Depth_0_s (Q : QD) (m0 : Nat) (x3 : Int) (x7 : LL) (x8 x9 : Int) : lp_term_Depth_0 Q (m0 + 1) x3 x7 x8 x9 = st_term_Depth_0 Q m0 x3 x7 x8 x9 := by kernel_rfl
theorem range_term_Depth_0 (Q : QD) (x7 : LL) (n : Nat) (hb : n ≤ big) (J : Nat → Int → Prop)
    (step : ∀ (k : Nat) (x3 : Int), k < n → J k x3 → ∀ K : Int → Prop, (∀ (x3' : Int), J (k + 1) x3' → K x3') → (0 ≤ (k : Int) ∧ (k : Int) < x7.length ∧ cl f_term_Depth [.agg [.v .str (((x7.getD k []).drop 0).headD V.none), .v .bool ((((x7.getD k []).drop 0).tail).headD V.none), .v (.sl t_Term) (((((x7.getD k []).drop 0).tail).tail).headD V.none)]] [] fun r1 H2 => r1 = (.v (.int .i64) (r1.V)) ∧ H2 = [] ∧ K (if r1.V.int > x3 then r1.V.int else x3)))
    (last : ∀ (x3 : Int), J n x3 → (True ∧ Q (.v (.int .i64) (V.i (IntKind.i64.wrap (x3 + (1 : Int))))) []))
    (k : Nat) (x3 : Int) (le0 : k ≤ n) (hj : J k x3) : ∃ m0, lp_term_Depth_0 Q m0 x3 x7 (n : Int) ((k : Int)) := by
  exact rangeG1 n hb J (fun m0 i x3 => lp_term_Depth_0 Q m0 x3 x7 (n : Int) i) (fun m0 i x3 => lp_term_Depth_0_s Q m0 x3 x7 (n : Int) i) (fun k x3 hl_ hj_ m_ ih_ => step k x3 hl_ hj_ _ ih_) last k x3 le0 hj
def vc_term_Depth (a0_0 : ByteArray) (a0_1 : Bool) (a0_2 : LL) (Q : QD) : Prop :=
  (a0_2.length ≤ big → ∃ m0, lp_term_Depth_0 Q m0 0 a0_2 ((a0_2.length : Int)) 0)
theorem C_term_Depth (a0_0 : ByteArray) (a0_1 : Bool) (a0_2 : LL) (Q : QD) (h : vc_term_Depth a0_0 a0_1 a0_2 Q) : cl f_term_Depth [.agg [.v .str (V.s a0_0), .v .bool (V.b a0_1), .v (.sl t_Term) (V.l a0_2)]] [] Q :=
  acalls2 (E := env_term_Depth) (envOk _ _ _ _ _) 0 Try.func83 (by kernel_rfl) h
def env_slices_BinarySearchFunc_Bind_string_termImage1 : Env := envA [(3, ua 6 2 (ua 11 24 ([.dead 30])))] [] [] [] []
def kl_slices_BinarySearchFunc_Bind_string_termImage1_0 (Q : QD) : Post := blockK 0 (seqJ env_slices_BinarySearchFunc_Bind_string_termImage1 (fnAt [1, 1, 1, 1] Try.f70) (endK env_slices_BinarySearchFunc_Bind_string_termImage1 Try.f70 Q))
@[irreducible] def lp_slices_BinarySearchFunc_Bind_string_termImage1_0 (Q : QD) (m0 : Nat) (x0n : Nat) (x1 : ByteArray) (x8 x9 x10 : Int) (h0 : LL) : Prop :=
  iter (adj (env_slices_BinarySearchFunc_Bind_string_termImage1.adj 3)) (evCode env_slices_BinarySearchFunc_Bind_string_termImage1 (fnAt [1, 1, 1, 0, 0, 0] Try.f70)) (kl_slices_BinarySearchFunc_Bind_string_termImage1_0 Q) m0 ⟨(.osl (.own 0) x0n) :: (.v .str (V.s x1)) :: (.fn f_term_Image_1 []) :: sk 3 (un 2 ((.v (.int .i64) (V.i x8)) :: (.v (.int .i64) (V.i x9)) :: (.v (.int .i64) (V.i x10)) :: un 24 (sk 14 ([])))), dd 49 ([])⟩ [.row t_Bind h0]
def st_slices_BinarySearchFunc_Bind_string_termImage1_0 (Q : QD) (m0 : Nat) (x0n : Nat) (x1 : ByteArray) (x8 x9 x10 : Int) (h0 : LL) : Prop :=
  iff (decide (x9 < x10)) (0 ≤ (1 : Int) ∧ h0.length = x0n ∧ 0 ≤ (IntKind.i64.wrap ((IntKind.u64.wrap (IntKind.i64.wrap (x9 + x10))).fdiv (2 ^ (min ((1 : Int)).toNat IntKind.u64.bits)))) ∧ (IntKind.i64.wrap ((IntKind.u64.wrap (IntKind.i64.wrap (x9 + x10))).fdiv (2 ^ (min ((1 : Int)).toNat IntKind.u64.bits)))) < x0n ∧ h0.length = x0n ∧ ((IntKind.i64.wrap ((IntKind.u64.wrap (IntKind.i64.wrap (x9 + x10))).fdiv (2 ^ (min ((1 : Int)).toNat IntKind.u64.bits))))).toNat < x0n ∧ cl f_term_Image_1 [.agg [.v .str (((h0.getD (((IntKind.i64.wrap ((IntKind.u64.wrap (IntKind.i64.wrap (x9 + x10))).fdiv (2 ^ (min ((1 : Int)).toNat IntKind.u64.bits))))).toNat) []).drop 0).headD V.none), .v .str ((((h0.getD (((IntKind.i64.wrap ((IntKind.u64.wrap (IntKind.i64.wrap (x9 + x10))).fdiv (2 ^ (min ((1 : Int)).toNat IntKind.u64.bits))))).toNat) []).drop 0).tail).headD V.none), .v .bool (((((h0.getD (((IntKind.i64.wrap ((IntKind.u64.wrap (IntKind.i64.wrap (x9 + x10))).fdiv (2 ^ (min ((1 : Int)).toNat IntKind.u64.bits))))).toNat) []).drop 0).tail).tail).headD V.none), .v (.sl t_Term) ((((((h0.getD (((IntKind.i64.wrap ((IntKind.u64.wrap (IntKind.i64.wrap (x9 + x10))).fdiv (2 ^ (min ((1 : Int)).toNat IntKind.u64.bits))))).toNat) []).drop 0).tail).tail).tail).headD V.none)], .v .str (V.s x1)] [] fun r1 H2 => r1 = (.v (.int .i64) (r1.V)) ∧ H2 = [] ∧ iff (decide (r1.V.int < (0 : Int))) (lp_slices_BinarySearchFunc_Bind_string_termImage1_0 Q m0 x0n x1 x8 (IntKind.i64.wrap ((IntKind.i64.wrap ((IntKind.u64.wrap (IntKind.i64.wrap (x9 + x10))).fdiv (2 ^ (min ((1 : Int)).toNat IntKind.u64.bits)))) + (1 : Int))) x10 h0) (lp_slices_BinarySearchFunc_Bind_string_termImage1_0 Q m0 x0n x1 x8 x9 (IntKind.i64.wrap ((IntKind.u64.wrap (IntKind.i64.wrap (x9 + x10))).fdiv (2 ^ (min ((1 : Int)).toNat IntKind.u64.bits)))) h0)) (iff (decide (x9 < x8)) (h0.length = x0n ∧ 0 ≤ x9 ∧ x9 < x0n ∧ h0.length = x0n ∧ x9.toNat < x0n ∧ cl f_term_Image_1 [.agg [.v .str (((h0.getD x9.toNat []).drop 0).headD V.none), .v .str ((((h0.getD x9.toNat []).drop 0).tail).headD V.none), .v .bool (((((h0.getD x9.toNat []).drop 0).tail).tail).headD V.none), .v (.sl t_Term) ((((((h0.getD x9.toNat []).drop 0).tail).tail).tail).headD V.none)], .v .str (V.s x1)] [] fun r3 H4 => r3 = (.v (.int .i64) (r3.V)) ∧ H4 = [] ∧ (True ∧ True ∧ True) ∧ Q (.tup [.v (.int .i64) (V.i x9), .v .bool (V.b (r3.V.int == (0 : Int)))]) [.row t_Bind h0]) ((True ∧ True ∧ True) ∧ Q (.tup [.v (.int .i64) (V.i x9), .v .bool (V.b false)]) [.row t_Bind h0]))
theorem lp_slices_BinarySearchFunc_Bind_string_termImage1_0_s (Q : QD) (m0 : Nat) (x0n : Nat) (x1 : ByteArray) (x8 x9 x10 : Int) (h0 : LL) : lp_slices_BinarySearchFunc_Bind_string_termImage1_0 Q (m0 + 1) x0n x1 x8 x9 x10 h0 = st_slices_BinarySearchFunc_Bind_string_termImage1_0 Q m0 x0n x1 x8 x9 x10 h0 := by kernel_rfl
theorem rule_slices_BinarySearchFunc_Bind_string_termImage1_0 (Q : QD) : RuleG6 (lp_slices_BinarySearchFunc_Bind_string_termImage1_0 Q) (st_slices_BinarySearchFunc_Bind_string_termImage1_0 Q) := ruleG6 _ _ (lp_slices_BinarySearchFunc_Bind_string_termImage1_0_s Q)
def vc_slices_BinarySearchFunc_Bind_string_termImage1 (a0n : Nat) (a1 : ByteArray) (h0 : LL) (Q : QD) : Prop :=
  h0.length = a0n ∧ (a0n ≤ big → ∃ m0, lp_slices_BinarySearchFunc_Bind_string_termImage1_0 Q m0 a0n a1 (((a0n : Nat) : Int)) 0 (((a0n : Nat) : Int)) h0)
theorem C_slices_BinarySearchFunc_Bind_string_termImage1 (a0n : Nat) (a1 : ByteArray) (h0 : LL) (Q : QD) (h : vc_slices_BinarySearchFunc_Bind_string_termImage1 a0n a1 h0 Q) : cl f_slices_BinarySearchFunc_Bind_string [.osl (.own 0) a0n, .v .str (V.s a1), .fn f_term_Image_1 []] [.row t_Bind h0] Q :=
  acalls2 (E := env_slices_BinarySearchFunc_Bind_string_termImage1) (envOk _ _ _ _ _) 0 Try.func70 (by kernel_rfl) h
def env_slices_EqualFunc_Term_Term_termEqual : Env := envA [(4, (.undef 0) :: ua 6 9 (ua 18 14 (da 8 2 ([.dead 29]))))] [] [] [] []
def kl_slices_EqualFunc_Term_Term_termEqual_0 (Q : QD) : Post := blockK 0 (seqJ env_slices_EqualFunc_Term_Term_termEqual (fnAt [1, 1, 1] Try.f85) (endK env_slices_EqualFunc_Term_Term_termEqual Try.f85 Q))
@[irreducible] def lp_slices_EqualFunc_Term_Term_termEqual_0 (Q : QD) (m0 : Nat) (x1 x15 : LL) (x16 x17 : Int) : Prop :=
  iter (adj (env_slices_EqualFunc_Term_Term_termEqual.adj 4)) (evCode env_slices_EqualFunc_Term_Term_termEqual (fnAt [1, 1, 0, 1, 0, 0] Try.f85)) (kl_slices_EqualFunc_Term_Term_termEqual_0 Q) m0 ⟨.undef :: (.v (.sl t_Term) (V.l x1)) :: (.fn f_term_Equal []) :: sk 3 (un 9 ((.v (.sl t_Term) (V.l x15)) :: (.v (.int .i64) (V.i x16)) :: (.v (.int .i64) (V.i x17)) :: un 14 ([]))), dd 32 ([])⟩ []
def st_slices_EqualFunc_Term_Term_termEqual_0 (Q : QD) (m0 : Nat) (x1 x15 : LL) (x16 x17 : Int) : Prop :=
  iff (decide (x17 < x16)) (0 ≤ x17 ∧ x17 < x15.length ∧ 0 ≤ x17 ∧ x17 < x1.length ∧ cl f_term_Equal [.agg [.v .str (((x15.getD x17.toNat []).drop 0).headD V.none), .v .bool ((((x15.getD x17.toNat []).drop 0).tail).headD V.none), .v (.sl t_Term) (((((x15.getD x17.toNat []).drop 0).tail).tail).headD V.none)], .agg [.v .str (((x1.getD x17.toNat []).drop 0).headD V.none), .v .bool ((((x1.getD x17.toNat []).drop 0).tail).headD V.none), .v (.sl t_Term) (((((x1.getD x17.toNat []).drop 0).tail).tail).headD V.none)]] [] fun r1 H2 => r1 = (.v .bool (r1.V)) ∧ H2 = [] ∧ iff (!r1.V.bool) (True ∧ Q (.v .bool (V.b false)) []) (lp_slices_EqualFunc_Term_Term_termEqual_0 Q m0 x1 x15 x16 (IntKind.i64.wrap (x17 + (1 : Int))))) (True ∧ Q (.v .bool (V.b true)) [])
theorem lp_slices_EqualFunc_Term_Term_termEqual_0_s (Q : QD) (m0 : Nat) (x1 x15 : LL) (x16 x17 : Int) : lp_slices_EqualFunc_Term_Term_termEqual_0 Q (m0 + 1) x1 x15 x16 x17 = st_slices_EqualFunc_Term_Term_termEqual_0 Q m0 x1 x15 x16 x17 := by kernel_rfl
theorem range_slices_EqualFunc_Term_Term_termEqual_0 (Q : QD) (x1 x15 : LL) (n : Nat) (hb : n ≤ big) (J : Nat → Prop)
    (step : ∀ (k : Nat), k < n → J k → ∀ K : Prop, (J (k + 1) → K) → (0 ≤ (k : Int) ∧ (k : Int) < x15.length ∧ 0 ≤ (k : Int) ∧ (k : Int) < x1.length ∧ cl f_term_Equal [.agg [.v .str (((x15.getD k []).drop 0).headD V.none), .v .bool ((((x15.getD k []).drop 0).tail).headD V.none), .v (.sl t_Term) (((((x15.getD k []).drop 0).tail).tail).headD V.none)], .agg [.v .str (((x1.getD k []).drop 0).headD V.none), .v .bool ((((x1.getD k []).drop 0).tail).headD V.none), .v (.sl t_Term) (((((x1.getD k []).drop 0).tail).tail).headD V.none)]] [] fun r1 H2 => r1 = (.v .bool (r1.V)) ∧ H2 = [] ∧ iff (!r1.V.bool) (True ∧ Q (.v .bool (V.b false)) []) (K)))
    (last : J n → (True ∧ Q (.v .bool (V.b true)) []))
    (k : Nat) (le0 : k ≤ n) (hj : J k) : ∃ m0, lp_slices_EqualFunc_Term_Term_termEqual_0 Q m0 x1 x15 (n : Int) ((k : Int)) := by
  exact rangeG0 n hb J (fun m0 i => lp_slices_EqualFunc_Term_Term_termEqual_0 Q m0 x1 x15 (n : Int) i) (fun m0 i => lp_slices_EqualFunc_Term_Term_termEqual_0_s Q m0 x1 x15 (n : Int) i) (fun k hl_ hj_ m_ ih_ => step k hl_ hj_ _ ih_) last k le0 hj
def vc_slices_EqualFunc_Term_Term_termEqual (a0 a1 : LL) (Q : QD) : Prop :=
  (a0.length ≤ big → (a1.length ≤ big → iff (((a0.length : Int)) != ((a1.length : Int))) (True ∧ Q (.v .bool (V.b false)) []) ((a0.length ≤ big → ∃ m0, lp_slices_EqualFunc_Term_Term_termEqual_0 Q m0 a1 a0 ((a0.length : Int)) 0))))
theorem C_slices_EqualFunc_Term_Term_termEqual (a0 a1 : LL) (Q : QD) (h : vc_slices_EqualFunc_Term_Term_termEqual a0 a1 Q) : cl f_slices_EqualFunc_Term_Term [.v (.sl t_Term) (V.l a0), .v (.sl t_Term) (V.l a1), .fn f_term_Equal []] [] Q :=
  acalls2 (E := env_slices_EqualFunc_Term_Term_termEqual) (envOk _ _ _ _ _) 0 Try.func85 (by kernel_rfl) h
def env_unify_unifier_occurs : Env := envA [(3000007, ua 0 4 ((.undef 8) :: ua 10 25 ([])))] [(4, 12, [], [])] [] [] [7]
@[irreducible] def jp_unify_unifier_occurs_0 (Q : QD) (y5_0 y6_0 : ByteArray) (y6_1 : Bool) (y6_2 : LL) (y9_0 y9_1 y9_2 : V) (h1 h2 h3 : LL) : Prop :=
  joinM (evCode env_unify_unifier_occurs (fnAt [1, 0, 1, 0, 1, 1, 1] Try.f86)) ⟨un 4 ((.ptr (.loc 4) 0) :: (.ptr (.loc 5) 0) :: (.ptr (.loc 6) 0) :: (.ptr (.loc 7) 0) :: .undef :: (.ptr (.loc 9) 0) :: un 25 (sk 12 ([]))), dd 4 ((.cells [.ptr (.own 0) 0]) :: (.cells [.v .str (V.s y5_0)]) :: (.cells [.v .str (V.s y6_0), .v .bool (V.b y6_1), .v (.sl t_Term) (V.l y6_2)]) :: (.cells [.mp (.own 3)]) :: .dead :: (.cells [.v .str (y9_0), .v .bool (y9_1), .v (.sl t_Term) (y9_2)]) :: dd 37 ([]))⟩ [.cells [.mp (.own 1), .mp (.own 2)], .map mt_9_24 h1, .map mt_82_4 h2, .map mt_9_4 h3] (seqJ env_unify_unifier_occurs (fnAt [1, 1] Try.f86) (endK env_unify_unifier_occurs Try.f86 Q))
def je_unify_unifier_occurs_0 (Q : QD) (y5_0 y6_0 : ByteArray) (y6_1 : Bool) (y6_2 : LL) (y9_0 y9_1 y9_2 : V) (h1 h2 h3 : LL) : Prop :=
  cl f_unify_unifier_occurs [.ptr (.own 0) 0, .v .str (V.s y5_0), .agg [.v .str (y9_0), .v .bool (y9_1), .v (.sl t_Term) (y9_2)], .mp (.own 3)] [.cells [.mp (.own 1), .mp (.own 2)], .map mt_9_24 h1, .map mt_82_4 h2, .map mt_9_4 (mset [.str] [V.s y6_0] [V.b true] h3)] fun r1 H2 => r1 = (.v .bool (r1.V)) ∧ H2 = [.cells [.mp (.own 1), .mp (.own 2)], .map mt_9_24 ((H2.tail.headD .dead).xs), .map mt_82_4 ((H2.tail.tail.headD .dead).xs), .map mt_9_4 ((H2.tail.tail.tail.headD .dead).xs)] ∧ True ∧ Q (.v .bool (r1.V)) [.cells [.mp (.own 1), .mp (.own 2)], .map mt_9_24 ((H2.tail.headD .dead).xs), .map mt_82_4 ((H2.tail.tail.headD .dead).xs), .map mt_9_4 ((H2.tail.tail.tail.headD .dead).xs)]
theorem jp_unify_unifier_occurs_0_s (Q : QD) (y5_0 y6_0 : ByteArray) (y6_1 : Bool) (y6_2 : LL) (y9_0 y9_1 y9_2 : V) (h1 h2 h3 : LL) : jp_unify_unifier_occurs_0 Q y5_0 y6_0 y6_1 y6_2 y9_0 y9_1 y9_2 h1 h2 h3 = je_unify_unifier_occurs_0 Q y5_0 y6_0 y6_1 y6_2 y9_0 y9_1 y9_2 h1 h2 h3 := by kernel_rfl
def vc_unify_unifier_occurs (a1 a2_0 : ByteArray) (a2_1 : Bool) (a2_2 h1 h2 h3 : LL) (Q : QD) : Prop :=
  iff a2_1 (iff (a2_0.toList == a1.toList) (True ∧ Q (.v .bool (V.b true)) [.cells [.mp (.own 1), .mp (.own 2)], .map mt_9_24 h1, .map mt_82_4 h2, .map mt_9_4 h3]) (iff (!(mhas [.str] [V.s a2_0] h1)) (True ∧ Q (.v .bool (V.b false)) [.cells [.mp (.own 1), .mp (.own 2)], .map mt_9_24 h1, .map mt_82_4 h2, .map mt_9_4 h3]) (iff (((mget [.str] [V.b false] [V.s a2_0] h3).headD V.none).bool) (True ∧ Q (.v .bool (V.b false)) [.cells [.mp (.own 1), .mp (.own 2)], .map mt_9_24 h1, .map mt_82_4 h2, .map mt_9_4 h3]) (jp_unify_unifier_occurs_0 Q a1 a2_0 a2_1 a2_2 ((mget [.str] [V.s (ByteArray.mk #[]), V.b false, V.l ([])] [V.s a2_0] h1).headD V.none) (((mget [.str] [V.s (ByteArray.mk #[]), V.b false, V.l ([])] [V.s a2_0] h1).tail).headD V.none) ((((mget [.str] [V.s (ByteArray.mk #[]), V.b false, V.l ([])] [V.s a2_0] h1).tail).tail).headD V.none) h1 h2 h3)))) (cl f_slices_ContainsFunc_Term [.v (.sl t_Term) (V.l a2_2), .fn f_unify_unifier_occurs_1 [.ptr (.own 0) 0, .ptr (.own 4) 0, .ptr (.own 5) 0]] [.cells [.ptr (.own 1) 0], .cells [.mp (.own 2), .mp (.own 3)], .map mt_9_24 h1, .map mt_82_4 h2, .cells [.v .str (V.s a1)], .cells [.mp (.own 6)], .map mt_9_4 h3] fun r1 H2 => r1 = (.v .bool (r1.V)) ∧ H2 = [.cells [.ptr (.own 1) 0], .cells [.mp (.own 2), .mp (.own 3)], .map mt_9_24 ((H2.tail.tail.headD .dead).xs), .map mt_82_4 ((H2.tail.tail.tail.headD .dead).xs), .cells [.v .str ((((H2.tail.tail.tail.tail.headD .dead).cs).headD .undef).V)], .cells [.mp (.own 6)], .map mt_9_4 ((H2.tail.tail.tail.tail.tail.tail.headD .dead).xs)] ∧ True ∧ Q (.v .bool (r1.V)) [.cells [.mp (.own 1), .mp (.own 2)], .map mt_9_24 ((H2.tail.tail.headD .dead).xs), .map mt_82_4 ((H2.tail.tail.tail.headD .dead).xs), .map mt_9_4 ((H2.tail.tail.tail.tail.tail.tail.headD .dead).xs)])
theorem C_unify_unifier_occurs (a1 a2_0 : ByteArray) (a2_1 : Bool) (a2_2 h1 h2 h3 : LL) (Q : QD) (h : vc_unify_unifier_occurs a1 a2_0 a2_1 a2_2 h1 h2 h3 Q) : cl f_unify_unifier_occurs [.ptr (.own 0) 0, .v .str (V.s a1), .agg [.v .str (V.s a2_0), .v .bool (V.b a2_1), .v (.sl t_Term) (V.l a2_2)], .mp (.own 3)] [.cells [.mp (.own 1), .mp (.own 2)], .map mt_9_24 h1, .map mt_82_4 h2, .map mt_9_4 h3] Q :=
  acalls2 (E := env_unify_unifier_occurs) (envOk _ _ _ _ _) 0 Try.func86 (by kernel_rfl) h
def env_unify_bind_1 : Env := envA [] [] [] [] []
def vc_unify_bind_1 (a0_0 a0_1 : ByteArray) (a0_2 : Bool) (a0_3 : LL) (a1 : ByteArray) (Q : QD) : Prop :=
  cl f_strings_Compare [.v .str (V.s a0_0), .v .str (V.s a1)] [] fun r1 H2 => r1 = (.v (.int .i64) (r1.V)) ∧ H2 = [] ∧ True ∧ Q (.v (.int .i64) (r1.V)) []
theorem C_unify_bind_1 (a0_0 a0_1 : ByteArray) (a0_2 : Bool) (a0_3 : LL) (a1 : ByteArray) (Q : QD) (h : vc_unify_bind_1 a0_0 a0_1 a0_2 a0_3 a1 Q) : cl f_unify_bind_1 [.agg [.v .str (V.s a0_0), .v .str (V.s a0_1), .v .bool (V.b a0_2), .v (.sl t_Term) (V.l a0_3)], .v .str (V.s a1)] [] Q :=
  acalls2 (E := env_unify_bind_1) (envOk _ _ _ _ _) 0 Try.func71 (by kernel_rfl) h
def env_r01_Has_w : Env := envA [(2, (.undef 0) :: (.undef 4) :: (.undef 6) :: ua 10 7 ([]))] [] [] [] []
def kl_r01_Has_w_0 (Q : QD) : Post := blockK 0 (seqJ env_r01_Has_w (fnAt [1, 1] Try.f74) (endK env_r01_Has_w Try.f74 Q))
@[irreducible] def lp_r01_Has_w_0 (Q : QD) (m0 : Nat) (x1 : ByteArray) (x7n : Nat) (x8 x9 : Int) (h0 : LL) : Prop :=
  iter (adj (env_r01_Has_w.adj 2)) (evCode env_r01_Has_w (fnAt [1, 0, 1, 0, 0] Try.f74)) (kl_r01_Has_w_0 Q) m0 ⟨.undef :: (.v .str (V.s x1)) :: sk 2 (.undef :: .skip :: .undef :: (.osl (.own 0) x7n) :: (.v (.int .i64) (V.i x8)) :: (.v (.int .i64) (V.i x9)) :: un 7 ([])), dd 17 ([])⟩ [.row t_string h0]
def st_r01_Has_w_0 (Q : QD) (m0 : Nat) (x1 : ByteArray) (x7n : Nat) (x8 x9 : Int) (h0 : LL) : Prop :=
  iff (decide (x9 < x8)) (h0.length = x7n ∧ 0 ≤ x9 ∧ x9 < x7n ∧ h0.length = x7n ∧ x9.toNat < x7n ∧ iff (((((h0.getD x9.toNat []).drop 0).headD V.none).str).toList == x1.toList) (True ∧ Q (.v .bool (V.b true)) [.row t_string h0]) (lp_r01_Has_w_0 Q m0 x1 x7n x8 (IntKind.i64.wrap (x9 + (1 : Int))) h0)) (True ∧ Q (.v .bool (V.b false)) [.row t_string h0])
theorem lp_r01_Has_w_0_s (Q : QD) (m0 : Nat) (x1 : ByteArray) (x7n : Nat) (x8 x9 : Int) (h0 : LL) : lp_r01_Has_w_0 Q (m0 + 1) x1 x7n x8 x9 h0 = st_r01_Has_w_0 Q m0 x1 x7n x8 x9 h0 := by kernel_rfl
theorem range_r01_Has_w_0 (Q : QD) (x1 : ByteArray) (x7n : Nat) (h0 : LL) (n : Nat) (hb : n ≤ big) (J : Nat → Prop)
    (step : ∀ (k : Nat), k < n → J k → ∀ K : Prop, (J (k + 1) → K) → (h0.length = x7n ∧ 0 ≤ (k : Int) ∧ (k : Int) < x7n ∧ h0.length = x7n ∧ k < x7n ∧ iff (((((h0.getD k []).drop 0).headD V.none).str).toList == x1.toList) (True ∧ Q (.v .bool (V.b true)) [.row t_string h0]) (K)))
    (last : J n → (True ∧ Q (.v .bool (V.b false)) [.row t_string h0]))
    (k : Nat) (le0 : k ≤ n) (hj : J k) : ∃ m0, lp_r01_Has_w_0 Q m0 x1 x7n (n : Int) ((k : Int)) h0 := by
  exact rangeG0 n hb J (fun m0 i => lp_r01_Has_w_0 Q m0 x1 x7n (n : Int) i h0) (fun m0 i => lp_r01_Has_w_0_s Q m0 x1 x7n (n : Int) i h0) (fun k hl_ hj_ m_ ih_ => step k hl_ hj_ _ ih_) last k le0 hj
def vc_r01_Has_w (a0n : Nat) (a1 : ByteArray) (h0 : LL) (Q : QD) : Prop :=
  h0.length = a0n ∧ (a0n ≤ big → ∃ m0, lp_r01_Has_w_0 Q m0 a1 a0n (((a0n : Nat) : Int)) 0 h0)
theorem C_r01_Has_w (a0n : Nat) (a1 : ByteArray) (h0 : LL) (Q : QD) (h : vc_r01_Has_w a0n a1 h0 Q) : cl f_r01_Has [.osl (.own 0) a0n, .v .str (V.s a1)] [.row t_string h0] Q :=
  acalls2 (E := env_r01_Has_w) (envOk _ _ _ _ _) 0 Try.func74 (by kernel_rfl) h
def env_r03_reach : Env := envA [(9, (.undef 1) :: (.undef 4) :: (.undef 6) :: ua 8 3 ((.undef 33) :: ua 37 8 ([.dead 4, .dead 8, .dead 43])))] [] [] [] []
def kl_r03_reach_0 (Q : QD) : Post := blockK 0 (seqJ env_r03_reach (fnAt [1, 1, 1] Try.f75) (endK env_r03_reach Try.f75 Q))
@[irreducible] def lp_r03_reach_0 (Q : QD) (m0 : Nat) (x0 : LL) (x2n : Nat) (x34 : LL) (x35 x36 : Int) (h0 : LL) : Prop :=
  iter (adj (env_r03_reach.adj 9)) (evCode env_r03_reach (fnAt [1, 1, 0, 1, 0, 0] Try.f75)) (kl_r03_reach_0 Q) m0 ⟨(.v (.sl t_Bind) (V.l x0)) :: .undef :: (.osl (.own 0) x2n) :: .skip :: .undef :: .skip :: .undef :: .skip :: un 3 (sk 22 (.undef :: (.v (.sl t_Term) (V.l x34)) :: (.v (.int .i64) (V.i x35)) :: (.v (.int .i64) (V.i x36)) :: un 8 ([.skip]))), dd 46 ([])⟩ [.row t_string h0]
def st_r03_reach_0 (Q : QD) (m0 : Nat) (x0 : LL) (x2n : Nat) (x34 : LL) (x35 x36 : Int) (h0 : LL) : Prop :=
  iff (decide (x36 < x35)) (0 ≤ x36 ∧ x36 < x34.length ∧ cl f_r03_reach [.v (.sl t_Bind) (V.l x0), .agg [.v .str (((x34.getD x36.toNat []).drop 0).headD V.none), .v .bool ((((x34.getD x36.toNat []).drop 0).tail).headD V.none), .v (.sl t_Term) (((((x34.getD x36.toNat []).drop 0).tail).tail).headD V.none)], .osl (.own 0) x2n] [.row t_string h0] fun r1 H2 => r1 = (.osl (.own 0) r1.len) ∧ H2 = [.row t_string ((H2.headD .dead).xs)] ∧ lp_r03_reach_0 Q m0 x0 r1.len x34 x35 (IntKind.i64.wrap (x36 + (1 : Int))) ((H2.headD .dead).xs)) (True ∧ Q (.osl (.own 0) x2n) [.row t_string h0])
theorem lp_r03_reach_0_s (Q : QD) (m0 : Nat) (x0 : LL) (x2n : Nat) (x34 : LL) (x35 x36 : Int) (h0 : LL) : lp_r03_reach_0 Q (m0 + 1) x0 x2n x34 x35 x36 h0 = st_r03_reach_0 Q m0 x0 x2n x34 x35 x36 h0 := by kernel_rfl
theorem range_r03_reach_0 (Q : QD) (x0 x34 : LL) (n : Nat) (hb : n ≤ big) (J : Nat → Nat → LL → Prop)
    (step : ∀ (k : Nat) (x2n : Nat) (h0 : LL), k < n → J k x2n h0 → ∀ K : Nat → LL → Prop, (∀ (x2n' : Nat) (h0' : LL), J (k + 1) x2n' h0' → K x2n' h0') → (0 ≤ (k : Int) ∧ (k : Int) < x34.length ∧ cl f_r03_reach [.v (.sl t_Bind) (V.l x0), .agg [.v .str (((x34.getD k []).drop 0).headD V.none), .v .bool ((((x34.getD k []).drop 0).tail).headD V.none), .v (.sl t_Term) (((((x34.getD k []).drop 0).tail).tail).headD V.none)], .osl (.own 0) x2n] [.row t_string h0] fun r1 H2 => r1 = (.osl (.own 0) r1.len) ∧ H2 = [.row t_string ((H2.headD .dead).xs)] ∧ K r1.len ((H2.headD .dead).xs)))
    (last : ∀ (x2n : Nat) (h0 : LL), J n x2n h0 → (True ∧ Q (.osl (.own 0) x2n) [.row t_string h0]))
    (k : Nat) (x2n : Nat) (h0 : LL) (le0 : k ≤ n) (hj : J k x2n h0) : ∃ m0, lp_r03_reach_0 Q m0 x0 x2n x34 (n : Int) ((k : Int)) h0 := by
  exact rangeG2 n hb J (fun m0 i x2n h0 => lp_r03_reach_0 Q m0 x0 x2n x34 (n : Int) i h0) (fun m0 i x2n h0 => lp_r03_reach_0_s Q m0 x0 x2n x34 (n : Int) i h0) (fun k x2n h0 hl_ hj_ m_ ih_ => step k x2n h0 hl_ hj_ _ ih_) last k x2n h0 le0 hj
def vc_r03_reach (a0 : LL) (a1_0 : ByteArray) (a1_1 : Bool) (a1_2 : LL) (a2n : Nat) (h0 : LL) (Q : QD) : Prop :=
  iff a1_1 (cl f_r01_Has [.osl (.own 0) a2n, .v .str (V.s a1_0)] [.row t_string h0] fun r1 H2 => r1 = (.v .bool (r1.V)) ∧ H2 = [.row t_string ((H2.headD .dead).xs)] ∧ iff r1.V.bool (True ∧ Q (.osl (.own 0) a2n) [.row t_string ((H2.headD .dead).xs)]) (((H2.headD .dead).xs).length = a2n ∧ a2n + ([[V.s a1_0]]).length ≤ lim ∧ cl f_r03_Bound [.v (.sl t_Bind) (V.l a0), .v .str (V.s a1_0)] [] fun r3 H4 => r3 = (.v .bool (r3.V)) ∧ H4 = [] ∧ iff r3.V.bool (cl f_r01_Image [.v (.sl t_Bind) (V.l a0), .v .str (V.s a1_0)] [] fun r5 H6 => r5 = (.agg [.v .str ((r5.cells.headD .undef).V), .v .bool ((r5.cells.tail.headD .undef).V), .v (.sl t_Term) ((r5.cells.tail.tail.headD .undef).V)]) ∧ H6 = [] ∧ cl f_r03_reach [.v (.sl t_Bind) (V.l a0), .agg [.v .str ((r5.cells.headD .undef).V), .v .bool ((r5.cells.tail.headD .undef).V), .v (.sl t_Term) ((r5.cells.tail.tail.headD .undef).V)], .osl (.own 0) (a2n + ([[V.s a1_0]]).length)] [.row t_string (((H2.headD .dead).xs) ++ ([[V.s a1_0]]))] fun r7 H8 => r7 = (.osl (.own 0) r7.len) ∧ H8 = [.row t_string ((H8.headD .dead).xs)] ∧ True ∧ Q (.osl (.own 0) r7.len) [.row t_string ((H8.headD .dead).xs)]) (True ∧ Q (.osl (.own 0) (a2n + ([[V.s a1_0]]).length)) [.row t_string (((H2.headD .dead).xs) ++ ([[V.s a1_0]]))]))) ((a1_2.length ≤ big → ∃ m0, lp_r03_reach_0 Q m0 a0 a2n a1_2 ((a1_2.length : Int)) 0 h0))
theorem C_r03_reach (a0 : LL) (a1_0 : ByteArray) (a1_1 : Bool) (a1_2 : LL) (a2n : Nat) (h0 : LL) (Q : QD) (h : vc_r03_reach a0 a1_0 a1_1 a1_2 a2n h0 Q) : cl f_r03_reach [.v (.sl t_Bind) (V.l a0), .agg [.v .str (V.s a1_0), .v .bool (V.b a1_1), .v (.sl t_Term) (V.l a1_2)], .osl (.own 0) a2n] [.row t_string h0] Q :=
  acalls2 (E := env_r03_reach) (envOk _ _ _ _ _) 0 Try.func75 (by kernel_rfl) h
def env_strings_TrimSuffix : Env := envA [] [] [] [] []
def vc_strings_TrimSuffix (a0 a1 : ByteArray) (Q : QD) : Prop :=
  cl f_stringslite_TrimSuffix [.v .str (V.s a0), .v .str (V.s a1)] [] fun r1 H2 => r1 = (.v .str (r1.V)) ∧ H2 = [] ∧ True ∧ Q (.v .str (r1.V)) []
theorem C_strings_TrimSuffix (a0 a1 : ByteArray) (Q : QD) (h : vc_strings_TrimSuffix a0 a1 Q) : cl f_strings_TrimSuffix [.v .str (V.s a0), .v .str (V.s a1)] [] Q :=
  acalls2 (E := env_strings_TrimSuffix) (envOk _ _ _ _ _) 0 Try.func90 (by kernel_rfl) h
def env_slices_ContainsFunc_byte_termIsName1 : Env := envA [] [] [] [] []
def vc_slices_ContainsFunc_byte_termIsName1 (a0 : LL) (Q : QD) : Prop :=
  cl f_slices_IndexFunc_byte [.v (.sl t_uint8) (V.l a0), .fn f_term_IsName_1 []] [] fun r1 H2 => r1 = (.v (.int .i64) (r1.V)) ∧ H2 = [] ∧ True ∧ Q (.v .bool (V.b (decide (r1.V.int ≥ (0 : Int))))) []
theorem C_slices_ContainsFunc_byte_termIsName1 (a0 : LL) (Q : QD) (h : vc_slices_ContainsFunc_byte_termIsName1 a0 Q) : cl f_slices_ContainsFunc_byte [.v (.sl t_uint8) (V.l a0), .fn f_term_IsName_1 []] [] Q :=
  acalls2 (E := env_slices_ContainsFunc_byte_termIsName1) (envOk _ _ _ _ _) 0 Try.func91 (by kernel_rfl) h
def env_slices_IndexFunc_Term_termformed1 : Env := envA [(2, ua 4 3 (ua 9 10 ([.dead 16])))] [] [] [] []
def kl_slices_IndexFunc_Term_termformed1_0 (Q : QD) : Post := blockK 0 (seqJ env_slices_IndexFunc_Term_termformed1 (fnAt [1, 1] Try.f94) (endK env_slices_IndexFunc_Term_termformed1 Try.f94 Q))
@[irreducible] def lp_slices_IndexFunc_Term_termformed1_0 (Q : QD) (m0 : Nat) (x0 : LL) (x7 x8 : Int) : Prop :=
  iter (adj (env_slices_IndexFunc_Term_termformed1.adj 2)) (evCode env_slices_IndexFunc_Term_termformed1 (fnAt [1, 0, 1, 0, 0] Try.f94)) (kl_slices_IndexFunc_Term_termformed1_0 Q) m0 ⟨(.v (.sl t_Term) (V.l x0)) :: (.fn f_term_formed_1 []) :: sk 2 (un 3 ((.v (.int .i64) (V.i x7)) :: (.v (.int .i64) (V.i x8)) :: un 10 ([]))), dd 19 ([])⟩ []
def st_slices_IndexFunc_Term_termformed1_0 (Q : QD) (m0 : Nat) (x0 : LL) (x7 x8 : Int) : Prop :=
  iff (decide (x8 < x7)) (0 ≤ x8 ∧ x8 < x0.length ∧ cl f_term_formed_1 [.agg [.v .str (((x0.getD x8.toNat []).drop 0).headD V.none), .v .bool ((((x0.getD x8.toNat []).drop 0).tail).headD V.none), .v (.sl t_Term) (((((x0.getD x8.toNat []).drop 0).tail).tail).headD V.none)]] [] fun r1 H2 => r1 = (.v .bool (r1.V)) ∧ H2 = [] ∧ iff r1.V.bool (True ∧ Q (.v (.int .i64) (V.i x8)) []) (lp_slices_IndexFunc_Term_termformed1_0 Q m0 x0 x7 (IntKind.i64.wrap (x8 + (1 : Int))))) (True ∧ Q (.v (.int .i64) (V.i (-1))) [])
theorem lp_slices_IndexFunc_Term_termformed1_0_s (Q : QD) (m0 : Nat) (x0 : LL) (x7 x8 : Int) : lp_slices_IndexFunc_Term_termformed1_0 Q (m0 + 1) x0 x7 x8 = st_slices_IndexFunc_Term_termformed1_0 Q m0 x0 x7 x8 := by kernel_rfl
theorem range_slices_IndexFunc_Term_termformed1_0 (Q : QD) (x0 : LL) (n : Nat) (hb : n ≤ big) (J : Nat → Prop)
    (step : ∀ (k : Nat), k < n → J k → ∀ K : Prop, (J (k + 1) → K) → (0 ≤ (k : Int) ∧ (k : Int) < x0.length ∧ cl f_term_formed_1 [.agg [.v .str (((x0.getD k []).drop 0).headD V.none), .v .bool ((((x0.getD k []).drop 0).tail).headD V.none), .v (.sl t_Term) (((((x0.getD k []).drop 0).tail).tail).headD V.none)]] [] fun r1 H2 => r1 = (.v .bool (r1.V)) ∧ H2 = [] ∧ iff r1.V.bool (True ∧ Q (.v (.int .i64) (V.i (k : Int))) []) (K)))
    (last : J n → (True ∧ Q (.v (.int .i64) (V.i (-1))) []))
    (k : Nat) (le0 : k ≤ n) (hj : J k) : ∃ m0, lp_slices_IndexFunc_Term_termformed1_0 Q m0 x0 (n : Int) ((k : Int)) := by
  exact rangeG0 n hb J (fun m0 i => lp_slices_IndexFunc_Term_termformed1_0 Q m0 x0 (n : Int) i) (fun m0 i => lp_slices_IndexFunc_Term_termformed1_0_s Q m0 x0 (n : Int) i) (fun k hl_ hj_ m_ ih_ => step k hl_ hj_ _ ih_) last k le0 hj
def vc_slices_IndexFunc_Term_termformed1 (a0 : LL) (Q : QD) : Prop :=
  (a0.length ≤ big → ∃ m0, lp_slices_IndexFunc_Term_termformed1_0 Q m0 a0 ((a0.length : Int)) 0)
theorem C_slices_IndexFunc_Term_termformed1 (a0 : LL) (Q : QD) (h : vc_slices_IndexFunc_Term_termformed1 a0 Q) : cl f_slices_IndexFunc_Term [.v (.sl t_Term) (V.l a0), .fn f_term_formed_1 []] [] Q :=
  acalls2 (E := env_slices_IndexFunc_Term_termformed1) (envOk _ _ _ _ _) 0 Try.func94 (by kernel_rfl) h
def env_term_Image_1 : Env := envA [] [] [] [] []
def vc_term_Image_1 (a0_0 a0_1 : ByteArray) (a0_2 : Bool) (a0_3 : LL) (a1 : ByteArray) (Q : QD) : Prop :=
  cl f_strings_Compare [.v .str (V.s a0_0), .v .str (V.s a1)] [] fun r1 H2 => r1 = (.v (.int .i64) (r1.V)) ∧ H2 = [] ∧ True ∧ Q (.v (.int .i64) (r1.V)) []
theorem C_term_Image_1 (a0_0 a0_1 : ByteArray) (a0_2 : Bool) (a0_3 : LL) (a1 : ByteArray) (Q : QD) (h : vc_term_Image_1 a0_0 a0_1 a0_2 a0_3 a1 Q) : cl f_term_Image_1 [.agg [.v .str (V.s a0_0), .v .str (V.s a0_1), .v .bool (V.b a0_2), .v (.sl t_Term) (V.l a0_3)], .v .str (V.s a1)] [] Q :=
  acalls2 (E := env_term_Image_1) (envOk _ _ _ _ _) 0 Try.func84 (by kernel_rfl) h
def env_slices_ContainsFunc_Term_unifyunifieroccurs1 : Env := envA [] [] [] [] []
def vc_slices_ContainsFunc_Term_unifyunifieroccurs1 (a0 h2 h3 : LL) (h4_0 : ByteArray) (h6 : LL) (Q : QD) : Prop :=
  cl f_slices_IndexFunc_Term [.v (.sl t_Term) (V.l a0), .fn f_unify_unifier_occurs_1 [.ptr (.own 0) 0, .ptr (.own 4) 0, .ptr (.own 5) 0]] [.cells [.ptr (.own 1) 0], .cells [.mp (.own 2), .mp (.own 3)], .map mt_9_24 h2, .map mt_82_4 h3, .cells [.v .str (V.s h4_0)], .cells [.mp (.own 6)], .map mt_9_4 h6] fun r1 H2 => r1 = (.v (.int .i64) (r1.V)) ∧ H2 = [.cells [.ptr (.own 1) 0], .cells [.mp (.own 2), .mp (.own 3)], .map mt_9_24 ((H2.tail.tail.headD .dead).xs), .map mt_82_4 ((H2.tail.tail.tail.headD .dead).xs), .cells [.v .str ((((H2.tail.tail.tail.tail.headD .dead).cs).headD .undef).V)], .cells [.mp (.own 6)], .map mt_9_4 ((H2.tail.tail.tail.tail.tail.tail.headD .dead).xs)] ∧ True ∧ Q (.v .bool (V.b (decide (r1.V.int ≥ (0 : Int))))) [.cells [.ptr (.own 1) 0], .cells [.mp (.own 2), .mp (.own 3)], .map mt_9_24 ((H2.tail.tail.headD .dead).xs), .map mt_82_4 ((H2.tail.tail.tail.headD .dead).xs), .cells [.v .str ((((H2.tail.tail.tail.tail.headD .dead).cs).headD .undef).V)], .cells [.mp (.own 6)], .map mt_9_4 ((H2.tail.tail.tail.tail.tail.tail.headD .dead).xs)]
theorem C_slices_ContainsFunc_Term_unifyunifieroccurs1 (a0 h2 h3 : LL) (h4_0 : ByteArray) (h6 : LL) (Q : QD) (h : vc_slices_ContainsFunc_Term_unifyunifieroccurs1 a0 h2 h3 h4_0 h6 Q) : cl f_slices_ContainsFunc_Term [.v (.sl t_Term) (V.l a0), .fn f_unify_unifier_occurs_1 [.ptr (.own 0) 0, .ptr (.own 4) 0, .ptr (.own 5) 0]] [.cells [.ptr (.own 1) 0], .cells [.mp (.own 2), .mp (.own 3)], .map mt_9_24 h2, .map mt_82_4 h3, .cells [.v .str (V.s h4_0)], .cells [.mp (.own 6)], .map mt_9_4 h6] Q :=
  acalls2 (E := env_slices_ContainsFunc_Term_unifyunifieroccurs1) (envOk _ _ _ _ _) 0 Try.func80 (by kernel_rfl) h
def env_strings_Compare : Env := envA [] [] [] [] []
def vc_strings_Compare (a0 a1 : ByteArray) (Q : QD) : Prop :=
  cl f_bytealg_CompareString [.v .str (V.s a0), .v .str (V.s a1)] [] fun r1 H2 => r1 = (.v (.int .i64) (r1.V)) ∧ H2 = [] ∧ True ∧ Q (.v (.int .i64) (r1.V)) []
theorem C_strings_Compare (a0 a1 : ByteArray) (Q : QD) (h : vc_strings_Compare a0 a1 Q) : cl f_strings_Compare [.v .str (V.s a0), .v .str (V.s a1)] [] Q :=
  acalls2 (E := env_strings_Compare) (envOk _ _ _ _ _) 0 Try.func72 (by kernel_rfl) h
def env_stringslite_TrimSuffix : Env := envA [] [] [] [] []
def vc_stringslite_TrimSuffix (a0 a1 : ByteArray) (Q : QD) : Prop :=
  cl f_stringslite_HasSuffix [.v .str (V.s a0), .v .str (V.s a1)] [] fun r1 H2 => r1 = (.v .bool (r1.V)) ∧ H2 = [] ∧ iff r1.V.bool ((a0.size ≤ big → (a1.size ≤ big → 0 ≤ (0 : Int) ∧ (0 : Int) ≤ (IntKind.i64.wrap (((a0.size : Int)) - ((a1.size : Int)))) ∧ (IntKind.i64.wrap (((a0.size : Int)) - ((a1.size : Int)))) ≤ a0.size ∧ True ∧ Q (.v .str (V.s (a0.extract (0 : Int).toNat ((IntKind.i64.wrap (((a0.size : Int)) - ((a1.size : Int))))).toNat))) []))) (True ∧ Q (.v .str (V.s a0)) [])
theorem C_stringslite_TrimSuffix (a0 a1 : ByteArray) (Q : QD) (h : vc_stringslite_TrimSuffix a0 a1 Q) : cl f_stringslite_TrimSuffix [.v .str (V.s a0), .v .str (V.s a1)] [] Q :=
  acalls2 (E := env_stringslite_TrimSuffix) (envOk _ _ _ _ _) 0 Try.func98 (by kernel_rfl) h
def env_slices_IndexFunc_byte_termIsName1 : Env := envA [(2, ua 4 3 (ua 9 10 ([.dead 16])))] [] [] [] []
def kl_slices_IndexFunc_byte_termIsName1_0 (Q : QD) : Post := blockK 0 (seqJ env_slices_IndexFunc_byte_termIsName1 (fnAt [1, 1] Try.f99) (endK env_slices_IndexFunc_byte_termIsName1 Try.f99 Q))
@[irreducible] def lp_slices_IndexFunc_byte_termIsName1_0 (Q : QD) (m0 : Nat) (x0 : LL) (x7 x8 : Int) : Prop :=
  iter (adj (env_slices_IndexFunc_byte_termIsName1.adj 2)) (evCode env_slices_IndexFunc_byte_termIsName1 (fnAt [1, 0, 1, 0, 0] Try.f99)) (kl_slices_IndexFunc_byte_termIsName1_0 Q) m0 ⟨(.v (.sl t_uint8) (V.l x0)) :: (.fn f_term_IsName_1 []) :: sk 2 (un 3 ((.v (.int .i64) (V.i x7)) :: (.v (.int .i64) (V.i x8)) :: un 10 ([]))), dd 19 ([])⟩ []
def st_slices_IndexFunc_byte_termIsName1_0 (Q : QD) (m0 : Nat) (x0 : LL) (x7 x8 : Int) : Prop :=
  iff (decide (x8 < x7)) (0 ≤ x8 ∧ x8 < x0.length ∧ cl f_term_IsName_1 [.v (.int .u8) (((x0.getD x8.toNat []).drop 0).headD V.none)] [] fun r1 H2 => r1 = (.v .bool (r1.V)) ∧ H2 = [] ∧ iff r1.V.bool (True ∧ Q (.v (.int .i64) (V.i x8)) []) (lp_slices_IndexFunc_byte_termIsName1_0 Q m0 x0 x7 (IntKind.i64.wrap (x8 + (1 : Int))))) (True ∧ Q (.v (.int .i64) (V.i (-1))) [])
theorem lp_slices_IndexFunc_byte_termIsName1_0_s (Q : QD) (m0 : Nat) (x0 : LL) (x7 x8 : Int) : lp_slices_IndexFunc_byte_termIsName1_0 Q (m0 + 1) x0 x7 x8 = st_slices_IndexFunc_byte_termIsName1_0 Q m0 x0 x7 x8 := by kernel_rfl
theorem range_slices_IndexFunc_byte_termIsName1_0 (Q : QD) (x0 : LL) (n : Nat) (hb : n ≤ big) (J : Nat → Prop)
    (step : ∀ (k : Nat), k < n → J k → ∀ K : Prop, (J (k + 1) → K) → (0 ≤ (k : Int) ∧ (k : Int) < x0.length ∧ cl f_term_IsName_1 [.v (.int .u8) (((x0.getD k []).drop 0).headD V.none)] [] fun r1 H2 => r1 = (.v .bool (r1.V)) ∧ H2 = [] ∧ iff r1.V.bool (True ∧ Q (.v (.int .i64) (V.i (k : Int))) []) (K)))
    (last : J n → (True ∧ Q (.v (.int .i64) (V.i (-1))) []))
    (k : Nat) (le0 : k ≤ n) (hj : J k) : ∃ m0, lp_slices_IndexFunc_byte_termIsName1_0 Q m0 x0 (n : Int) ((k : Int)) := by
  exact rangeG0 n hb J (fun m0 i => lp_slices_IndexFunc_byte_termIsName1_0 Q m0 x0 (n : Int) i) (fun m0 i => lp_slices_IndexFunc_byte_termIsName1_0_s Q m0 x0 (n : Int) i) (fun k hl_ hj_ m_ ih_ => step k hl_ hj_ _ ih_) last k le0 hj
def vc_slices_IndexFunc_byte_termIsName1 (a0 : LL) (Q : QD) : Prop :=
  (a0.length ≤ big → ∃ m0, lp_slices_IndexFunc_byte_termIsName1_0 Q m0 a0 ((a0.length : Int)) 0)
theorem C_slices_IndexFunc_byte_termIsName1 (a0 : LL) (Q : QD) (h : vc_slices_IndexFunc_byte_termIsName1 a0 Q) : cl f_slices_IndexFunc_byte [.v (.sl t_uint8) (V.l a0), .fn f_term_IsName_1 []] [] Q :=
  acalls2 (E := env_slices_IndexFunc_byte_termIsName1) (envOk _ _ _ _ _) 0 Try.func99 (by kernel_rfl) h
def env_term_formed_1 : Env := envA [] [] [] [] []
def vc_term_formed_1 (a0_0 : ByteArray) (a0_1 : Bool) (a0_2 : LL) (Q : QD) : Prop :=
  cl f_term_formed [.agg [.v .str (V.s a0_0), .v .bool (V.b a0_1), .v (.sl t_Term) (V.l a0_2)]] [] fun r1 H2 => r1 = (.v .bool (r1.V)) ∧ H2 = [] ∧ True ∧ Q (.v .bool (V.b (!r1.V.bool))) []
theorem C_term_formed_1 (a0_0 : ByteArray) (a0_1 : Bool) (a0_2 : LL) (Q : QD) (h : vc_term_formed_1 a0_0 a0_1 a0_2 Q) : cl f_term_formed_1 [.agg [.v .str (V.s a0_0), .v .bool (V.b a0_1), .v (.sl t_Term) (V.l a0_2)]] [] Q :=
  acalls2 (E := env_term_formed_1) (envOk _ _ _ _ _) 0 Try.func81 (by kernel_rfl) h
def env_slices_IndexFunc_Term_unifyunifieroccurs1 : Env := envA [(2, ua 4 3 (ua 9 10 ([.dead 16])))] [] [] [] []
def kl_slices_IndexFunc_Term_unifyunifieroccurs1_0 (Q : QD) : Post := blockK 0 (seqJ env_slices_IndexFunc_Term_unifyunifieroccurs1 (fnAt [1, 1] Try.f94) (endK env_slices_IndexFunc_Term_unifyunifieroccurs1 Try.f94 Q))
@[irreducible] def lp_slices_IndexFunc_Term_unifyunifieroccurs1_0 (Q : QD) (m0 : Nat) (x0 : LL) (x7 x8 : Int) (h2 h3 : LL) (h4_0 : V) (h6 : LL) : Prop :=
  iter (adj (env_slices_IndexFunc_Term_unifyunifieroccurs1.adj 2)) (evCode env_slices_IndexFunc_Term_unifyunifieroccurs1 (fnAt [1, 0, 1, 0, 0] Try.f94)) (kl_slices_IndexFunc_Term_unifyunifieroccurs1_0 Q) m0 ⟨(.v (.sl t_Term) (V.l x0)) :: (.fn f_unify_unifier_occurs_1 [.ptr (.own 0) 0, .ptr (.own 4) 0, .ptr (.own 5) 0]) :: sk 2 (un 3 ((.v (.int .i64) (V.i x7)) :: (.v (.int .i64) (V.i x8)) :: un 10 ([]))), dd 19 ([])⟩ [.cells [.ptr (.own 1) 0], .cells [.mp (.own 2), .mp (.own 3)], .map mt_9_24 h2, .map mt_82_4 h3, .cells [.v .str (h4_0)], .cells [.mp (.own 6)], .map mt_9_4 h6]
def st_slices_IndexFunc_Term_unifyunifieroccurs1_0 (Q : QD) (m0 : Nat) (x0 : LL) (x7 x8 : Int) (h2 h3 : LL) (h4_0 : V) (h6 : LL) : Prop :=
  iff (decide (x8 < x7)) (0 ≤ x8 ∧ x8 < x0.length ∧ cl f_unify_unifier_occurs_1 [.agg [.v .str (((x0.getD x8.toNat []).drop 0).headD V.none), .v .bool ((((x0.getD x8.toNat []).drop 0).tail).headD V.none), .v (.sl t_Term) (((((x0.getD x8.toNat []).drop 0).tail).tail).headD V.none)], .ptr (.own 0) 0, .ptr (.own 4) 0, .ptr (.own 5) 0] [.cells [.ptr (.own 1) 0], .cells [.mp (.own 2), .mp (.own 3)], .map mt_9_24 h2, .map mt_82_4 h3, .cells [.v .str (h4_0)], .cells [.mp (.own 6)], .map mt_9_4 h6] fun r1 H2 => r1 = (.v .bool (r1.V)) ∧ H2 = [.cells [.ptr (.own 1) 0], .cells [.mp (.own 2), .mp (.own 3)], .map mt_9_24 ((H2.tail.tail.headD .dead).xs), .map mt_82_4 ((H2.tail.tail.tail.headD .dead).xs), .cells [.v .str ((((H2.tail.tail.tail.tail.headD .dead).cs).headD .undef).V)], .cells [.mp (.own 6)], .map mt_9_4 ((H2.tail.tail.tail.tail.tail.tail.headD .dead).xs)] ∧ iff r1.V.bool (True ∧ Q (.v (.int .i64) (V.i x8)) [.cells [.ptr (.own 1) 0], .cells [.mp (.own 2), .mp (.own 3)], .map mt_9_24 ((H2.tail.tail.headD .dead).xs), .map mt_82_4 ((H2.tail.tail.tail.headD .dead).xs), .cells [.v .str ((((H2.tail.tail.tail.tail.headD .dead).cs).headD .undef).V)], .cells [.mp (.own 6)], .map mt_9_4 ((H2.tail.tail.tail.tail.tail.tail.headD .dead).xs)]) (lp_slices_IndexFunc_Term_unifyunifieroccurs1_0 Q m0 x0 x7 (IntKind.i64.wrap (x8 + (1 : Int))) ((H2.tail.tail.headD .dead).xs) ((H2.tail.tail.tail.headD .dead).xs) ((((H2.tail.tail.tail.tail.headD .dead).cs).headD .undef).V) ((H2.tail.tail.tail.tail.tail.tail.headD .dead).xs))) (True ∧ Q (.v (.int .i64) (V.i (-1))) [.cells [.ptr (.own 1) 0], .cells [.mp (.own 2), .mp (.own 3)], .map mt_9_24 h2, .map mt_82_4 h3, .cells [.v .str (h4_0)], .cells [.mp (.own 6)], .map mt_9_4 h6])
theorem lp_slices_IndexFunc_Term_unifyunifieroccurs1_0_s (Q : QD) (m0 : Nat) (x0 : LL) (x7 x8 : Int) (h2 h3 : LL) (h4_0 : V) (h6 : LL) : lp_slices_IndexFunc_Term_unifyunifieroccurs1_0 Q (m0 + 1) x0 x7 x8 h2 h3 h4_0 h6 = st_slices_IndexFunc_Term_unifyunifieroccurs1_0 Q m0 x0 x7 x8 h2 h3 h4_0 h6 := by kernel_rfl
theorem range_slices_IndexFunc_Term_unifyunifieroccurs1_0 (Q : QD) (x0 : LL) (n : Nat) (hb : n ≤ big) (J : Nat → LL → LL → V → LL → Prop)
    (step : ∀ (k : Nat) (h2 h3 : LL) (h4_0 : V) (h6 : LL), k < n → J k h2 h3 h4_0 h6 → ∀ K : LL → LL → V → LL → Prop, (∀ (h2' h3' : LL) (h4_0' : V) (h6' : LL), J (k + 1) h2' h3' h4_0' h6' → K h2' h3' h4_0' h6') → (0 ≤ (k : Int) ∧ (k : Int) < x0.length ∧ cl f_unify_unifier_occurs_1 [.agg [.v .str (((x0.getD k []).drop 0).headD V.none), .v .bool ((((x0.getD k []).drop 0).tail).headD V.none), .v (.sl t_Term) (((((x0.getD k []).drop 0).tail).tail).headD V.none)], .ptr (.own 0) 0, .ptr (.own 4) 0, .ptr (.own 5) 0] [.cells [.ptr (.own 1) 0], .cells [.mp (.own 2), .mp (.own 3)], .map mt_9_24 h2, .map mt_82_4 h3, .cells [.v .str (h4_0)], .cells [.mp (.own 6)], .map mt_9_4 h6] fun r1 H2 => r1 = (.v .bool (r1.V)) ∧ H2 = [.cells [.ptr (.own 1) 0], .cells [.mp (.own 2), .mp (.own 3)], .map mt_9_24 ((H2.tail.tail.headD .dead).xs), .map mt_82_4 ((H2.tail.tail.tail.headD .dead).xs), .cells [.v .str ((((H2.tail.tail.tail.tail.headD .dead).cs).headD .undef).V)], .cells [.mp (.own 6)], .map mt_9_4 ((H2.tail.tail.tail.tail.tail.tail.headD .dead).xs)] ∧ iff r1.V.bool (True ∧ Q (.v (.int .i64) (V.i (k : Int))) [.cells [.ptr (.own 1) 0], .cells [.mp (.own 2), .mp (.own 3)], .map mt_9_24 ((H2.tail.tail.headD .dead).xs), .map mt_82_4 ((H2.tail.tail.tail.headD .dead).xs), .cells [.v .str ((((H2.tail.tail.tail.tail.headD .dead).cs).headD .undef).V)], .cells [.mp (.own 6)], .map mt_9_4 ((H2.tail.tail.tail.tail.tail.tail.headD .dead).xs)]) (K ((H2.tail.tail.headD .dead).xs) ((H2.tail.tail.tail.headD .dead).xs) ((((H2.tail.tail.tail.tail.headD .dead).cs).headD .undef).V) ((H2.tail.tail.tail.tail.tail.tail.headD .dead).xs))))
    (last : ∀ (h2 h3 : LL) (h4_0 : V) (h6 : LL), J n h2 h3 h4_0 h6 → (True ∧ Q (.v (.int .i64) (V.i (-1))) [.cells [.ptr (.own 1) 0], .cells [.mp (.own 2), .mp (.own 3)], .map mt_9_24 h2, .map mt_82_4 h3, .cells [.v .str (h4_0)], .cells [.mp (.own 6)], .map mt_9_4 h6]))
    (k : Nat) (h2 h3 : LL) (h4_0 : V) (h6 : LL) (le0 : k ≤ n) (hj : J k h2 h3 h4_0 h6) : ∃ m0, lp_slices_IndexFunc_Term_unifyunifieroccurs1_0 Q m0 x0 (n : Int) ((k : Int)) h2 h3 h4_0 h6 := by
  exact rangeG4 n hb J (fun m0 i h2 h3 h4_0 h6 => lp_slices_IndexFunc_Term_unifyunifieroccurs1_0 Q m0 x0 (n : Int) i h2 h3 h4_0 h6) (fun m0 i h2 h3 h4_0 h6 => lp_slices_IndexFunc_Term_unifyunifieroccurs1_0_s Q m0 x0 (n : Int) i h2 h3 h4_0 h6) (fun k h2 h3 h4_0 h6 hl_ hj_ m_ ih_ => step k h2 h3 h4_0 h6 hl_ hj_ _ ih_) last k h2 h3 h4_0 h6 le0 hj
def vc_slices_IndexFunc_Term_unifyunifieroccurs1 (a0 h2 h3 : LL) (h4_0 : ByteArray) (h6 : LL) (Q : QD) : Prop :=
  (a0.length ≤ big → ∃ m0, lp_slices_IndexFunc_Term_unifyunifieroccurs1_0 Q m0 a0 ((a0.length : Int)) 0 h2 h3 (V.s h4_0) h6)
theorem C_slices_IndexFunc_Term_unifyunifieroccurs1 (a0 h2 h3 : LL) (h4_0 : ByteArray) (h6 : LL) (Q : QD) (h : vc_slices_IndexFunc_Term_unifyunifieroccurs1 a0 h2 h3 h4_0 h6 Q) : cl f_slices_IndexFunc_Term [.v (.sl t_Term) (V.l a0), .fn f_unify_unifier_occurs_1 [.ptr (.own 0) 0, .ptr (.own 4) 0, .ptr (.own 5) 0]] [.cells [.ptr (.own 1) 0], .cells [.mp (.own 2), .mp (.own 3)], .map mt_9_24 h2, .map mt_82_4 h3, .cells [.v .str (V.s h4_0)], .cells [.mp (.own 6)], .map mt_9_4 h6] Q :=
  acalls2 (E := env_slices_IndexFunc_Term_unifyunifieroccurs1) (envOk _ _ _ _ _) 0 Try.func94 (by kernel_rfl) h
def env_bytealg_CompareString : Env := envA [] [] [] [] []
def vc_bytealg_CompareString (a0 a1 : ByteArray) (Q : QD) : Prop :=
  True ∧ Q (.v (.int .i64) (V.i (Lib.compareBytes a0.data.toList a1.data.toList))) []
theorem C_bytealg_CompareString (a0 a1 : ByteArray) (Q : QD) (h : vc_bytealg_CompareString a0 a1 Q) : cl f_bytealg_CompareString [.v .str (V.s a0), .v .str (V.s a1)] [] Q :=
  acalls2 (E := env_bytealg_CompareString) (envOk _ _ _ _ _) 0 Try.func87 (by kernel_rfl) h
def env_stringslite_HasSuffix : Env := envA [] [] [] [] []
def vc_stringslite_HasSuffix (a0 a1 : ByteArray) (Q : QD) : Prop :=
  (a0.size ≤ big → (a1.size ≤ big → iff (decide (((a0.size : Int)) ≥ ((a1.size : Int)))) ((a0.size ≤ big → (a1.size ≤ big → 0 ≤ (IntKind.i64.wrap (((a0.size : Int)) - ((a1.size : Int)))) ∧ (IntKind.i64.wrap (((a0.size : Int)) - ((a1.size : Int)))) ≤ (a0.size : Int) ∧ (a0.size : Int) ≤ a0.size ∧ True ∧ Q (.v .bool (V.b ((a0.extract (IntKind.i64.wrap (((a0.size : Int)) - ((a1.size : Int)))).toNat ((a0.size : Int)).toNat).toList == a1.toList))) []))) (True ∧ Q (.v .bool (V.b false)) [])))
theorem C_stringslite_HasSuffix (a0 a1 : ByteArray) (Q : QD) (h : vc_stringslite_HasSuffix a0 a1 Q) : cl f_stringslite_HasSuffix [.v .str (V.s a0), .v .str (V.s a1)] [] Q :=
  acalls2 (E := env_stringslite_HasSuffix) (envOk _ _ _ _ _) 0 Try.func101 (by kernel_rfl) h
def env_term_IsName_1 : Env := envA [] [] [] [] []
def vc_term_IsName_1 (a0 : Int) (Q : QD) : Prop :=
  cl f_term_inName [.v (.int .u8) (V.i a0)] [] fun r1 H2 => r1 = (.v .bool (r1.V)) ∧ H2 = [] ∧ True ∧ Q (.v .bool (V.b (!r1.V.bool))) []
theorem C_term_IsName_1 (a0 : Int) (Q : QD) (h : vc_term_IsName_1 a0 Q) : cl f_term_IsName_1 [.v (.int .u8) (V.i a0)] [] Q :=
  acalls2 (E := env_term_IsName_1) (envOk _ _ _ _ _) 0 Try.func92 (by kernel_rfl) h
def env_unify_unifier_occurs_1 : Env := envA [] [] [] [] []
def vc_unify_unifier_occurs_1 (a0_0 : ByteArray) (a0_1 : Bool) (a0_2 h2 h3 : LL) (h4_0 : ByteArray) (h6 : LL) (Q : QD) : Prop :=
  cl f_unify_unifier_occurs [.ptr (.own 0) 0, .v .str (V.s h4_0), .agg [.v .str (V.s a0_0), .v .bool (V.b a0_1), .v (.sl t_Term) (V.l a0_2)], .mp (.own 3)] [.cells [.mp (.own 1), .mp (.own 2)], .map mt_9_24 h2, .map mt_82_4 h3, .map mt_9_4 h6] fun r1 H2 => r1 = (.v .bool (r1.V)) ∧ H2 = [.cells [.mp (.own 1), .mp (.own 2)], .map mt_9_24 ((H2.tail.headD .dead).xs), .map mt_82_4 ((H2.tail.tail.headD .dead).xs), .map mt_9_4 ((H2.tail.tail.tail.headD .dead).xs)] ∧ True ∧ Q (.v .bool (r1.V)) [.cells [.ptr (.own 1) 0], .cells [.mp (.own 2), .mp (.own 3)], .map mt_9_24 ((H2.tail.headD .dead).xs), .map mt_82_4 ((H2.tail.tail.headD .dead).xs), .cells [.v .str (V.s h4_0)], .cells [.mp (.own 6)], .map mt_9_4 ((H2.tail.tail.tail.headD .dead).xs)]
theorem C_unify_unifier_occurs_1 (a0_0 : ByteArray) (a0_1 : Bool) (a0_2 h2 h3 : LL) (h4_0 : ByteArray) (h6 : LL) (Q : QD) (h : vc_unify_unifier_occurs_1 a0_0 a0_1 a0_2 h2 h3 h4_0 h6 Q) : cl f_unify_unifier_occurs_1 [.agg [.v .str (V.s a0_0), .v .bool (V.b a0_1), .v (.sl t_Term) (V.l a0_2)], .ptr (.own 0) 0, .ptr (.own 4) 0, .ptr (.own 5) 0] [.cells [.ptr (.own 1) 0], .cells [.mp (.own 2), .mp (.own 3)], .map mt_9_24 h2, .map mt_82_4 h3, .cells [.v .str (V.s h4_0)], .cells [.mp (.own 6)], .map mt_9_4 h6] Q :=
  acalls2 (E := env_unify_unifier_occurs_1) (envOk _ _ _ _ _) 0 Try.func95 (by kernel_rfl) h
def env_term_inName : Env := envA [] [] [] [] []
def vc_term_inName (a0 : Int) (Q : QD) : Prop :=
  iff (decide (a0 ≥ (97 : Int))) (iff (decide (a0 ≤ (122 : Int))) (True ∧ Q (.v .bool (V.b true)) []) (iff (decide (a0 ≥ (65 : Int))) (iff (decide (a0 ≤ (90 : Int))) (True ∧ Q (.v .bool (V.b true)) []) (iff (decide (a0 ≥ (48 : Int))) (iff (decide (a0 ≤ (57 : Int))) (True ∧ Q (.v .bool (V.b true)) []) (iff (a0 == (95 : Int)) (True ∧ Q (.v .bool (V.b true)) []) (True ∧ Q (.v .bool (V.b (a0 == (39 : Int)))) []))) (iff (a0 == (95 : Int)) (True ∧ Q (.v .bool (V.b true)) []) (True ∧ Q (.v .bool (V.b (a0 == (39 : Int)))) [])))) (iff (decide (a0 ≥ (48 : Int))) (iff (decide (a0 ≤ (57 : Int))) (True ∧ Q (.v .bool (V.b true)) []) (iff (a0 == (95 : Int)) (True ∧ Q (.v .bool (V.b true)) []) (True ∧ Q (.v .bool (V.b (a0 == (39 : Int)))) []))) (iff (a0 == (95 : Int)) (True ∧ Q (.v .bool (V.b true)) []) (True ∧ Q (.v .bool (V.b (a0 == (39 : Int)))) []))))) (iff (decide (a0 ≥ (65 : Int))) (iff (decide (a0 ≤ (90 : Int))) (True ∧ Q (.v .bool (V.b true)) []) (iff (decide (a0 ≥ (48 : Int))) (iff (decide (a0 ≤ (57 : Int))) (True ∧ Q (.v .bool (V.b true)) []) (iff (a0 == (95 : Int)) (True ∧ Q (.v .bool (V.b true)) []) (True ∧ Q (.v .bool (V.b (a0 == (39 : Int)))) []))) (iff (a0 == (95 : Int)) (True ∧ Q (.v .bool (V.b true)) []) (True ∧ Q (.v .bool (V.b (a0 == (39 : Int)))) [])))) (iff (decide (a0 ≥ (48 : Int))) (iff (decide (a0 ≤ (57 : Int))) (True ∧ Q (.v .bool (V.b true)) []) (iff (a0 == (95 : Int)) (True ∧ Q (.v .bool (V.b true)) []) (True ∧ Q (.v .bool (V.b (a0 == (39 : Int)))) []))) (iff (a0 == (95 : Int)) (True ∧ Q (.v .bool (V.b true)) []) (True ∧ Q (.v .bool (V.b (a0 == (39 : Int)))) []))))
theorem C_term_inName (a0 : Int) (Q : QD) (h : vc_term_inName a0 Q) : cl f_term_inName [.v (.int .u8) (V.i a0)] [] Q :=
  acalls2 (E := env_term_inName) (envOk _ _ _ _ _) 0 Try.func93 (by kernel_rfl) h
end Go.Proofs.Ytgohjdaepcmonaa
set_option linter.unusedVariables false
set_option linter.unusedSimpArgs false
namespace Go.Proofs.Ytgohjdaepcmonaa
open Go.Abs
theorem r01_letter_ok (c : Int) : Fn f_r01_letter [uD c] (bD (letterB c)) := by
  intro Q hQ
  refine C_r01_letter _ _ ?_
  have key : ∀ b, b = letterB c → True ∧ Q (bD b) [] := by rintro _ rfl; exact ⟨trivial, hQ⟩
  unfold vc_r01_letter
  repeat' (first | (refine iff_dec (fun _ => ?_) (fun _ => ?_)) | (refine iff_beq (fun _ => ?_) (fun _ => ?_)))
  all_goals
    refine key _ ?_
    unfold letterB
    rw [Bool.eq_iff_iff]
    simp only [decide_eq_true_iff, beq_iff_eq, true_iff]
    omega
theorem r01_CompareInts_ok (a b : Int) : Fn f_r01_CompareInts [iD a, iD b] (iD (if a < b then -1 else if b < a then 1 else 0)) := by
  intro Q hQ
  refine C_r01_CompareInts _ _ _ ?_
  unfold vc_r01_CompareInts
  refine iff_dec (fun h => ?_) (fun h => iff_dec (fun h2 => ?_) (fun h2 => ?_))
  · rw [if_pos h] at hQ; exact ⟨trivial, hQ⟩
  · rw [if_neg h, if_pos h2] at hQ; exact ⟨trivial, hQ⟩
  · rw [if_neg h, if_neg h2] at hQ; exact ⟨trivial, hQ⟩
theorem r01_Letters_ok (s : ByteArray) : Fn f_r01_Letters [sD s] (bD (lettersL s.data.toList)) := by
  intro Q hQ
  refine C_r01_Letters _ _ fun hb => ?_
  have hl := ba_size s
  refine range_r01_Letters_0 Q s s.size hb (fun k => lettersL (s.data.toList.take k) = true) (fun k hk hJ K hK => ?_) (fun hJ => ?_) 0 (Nat.zero_le _) rfl
  · refine ⟨by omega, by omega, r01_letter_ok _ _ ⟨rfl, rfl, ?_⟩⟩
    have hk' : k < s.data.toList.length := by omega
    have e : s.data.toList.getD k 0 = s.data.toList[k] := by rw [List.getD_eq_getElem?_getD, List.getElem?_eq_getElem hk']; rfl
    rw [e]
    refine iff_not (iff_intro (fun h => hK ?_) (fun h => ⟨trivial, ?_⟩))
    · rw [List.take_succ_eq_append_getElem hk']
      have h' : letterB (s.data.toList[k].toNat : Int) = true := h
      simp only [lettersL, List.all_append, Bool.and_eq_true] at hJ ⊢
      exact ⟨hJ, by rw [List.all_cons, List.all_nil, h']; rfl⟩
    · have : lettersL s.data.toList = false := by
        rw [← Bool.not_eq_true]
        intro ha
        have := List.all_eq_true.1 ha _ (List.getElem_mem hk')
        have h' : letterB (s.data.toList[k].toNat : Int) = false := h
        rw [h'] at this; cases this
      rw [this] at hQ; exact hQ
  · rw [List.take_of_length_le (by omega)] at hJ
    rw [hJ] at hQ
    exact ⟨trivial, hQ⟩
theorem r01_Marked_ok (s : ByteArray) : Fn f_r01_Marked [sD s] (bD (markedL s.data.toList)) := by
  intro Q hQ
  refine C_r01_Marked _ _ ?_
  unfold vc_r01_Marked
  have hl := ba_size s
  rw [ba_beq]
  refine iff_not (iff_dec (fun h => ?_) (fun h hb => ?_))
  · subst h
    exact ⟨trivial, hQ⟩
  · rw [ba_nil] at h
    rw [wrap_in _ (by omega) (by rw [big_eq] at hb; omega)]
    have e1 : ((s.size : Int) - 1).toNat = s.data.toList.length - 1 := by omega
    refine ⟨by omega, by omega, trivial, ?_⟩
    have : (((s.data.toList.getD ((s.size : Int) - 1).toNat 0).toNat : Int) == 35) = markedL s.data.toList := by
      rw [e1]
      unfold markedL
      rw [List.getLast?_eq_getElem?, Bool.eq_iff_iff, decide_eq_true_iff, beq_iff_eq, List.getD_eq_getElem?_getD]
      have hk : s.data.toList.length - 1 < s.data.toList.length := by omega
      rw [List.getElem?_eq_getElem hk]
      simp only [Option.getD_some, Option.some.injEq]
      constructor
      · intro h2
        apply UInt8.toNat_inj.1
        show _ = 35
        omega
      · rintro h2; rw [h2]; rfl
    rw [this]
    exact hQ
theorem r01_IsName_ok (s : ByteArray) (m : Bool) : Fn f_r01_IsName [sD s, bD m] (bD (nameOk s m)) := by
  intro Q hQ
  refine C_r01_IsName _ _ _ fun hb => ?_
  rw [big_eq] at hb
  have hl := ba_size s
  have last : ∀ x : ByteArray, nameOk s m = (decide (0 < x.size) && lettersL x.data.toList) → jp_r01_IsName_1 Q x := fun x hx => by
    rw [jp_r01_IsName_1_s]
    unfold je_r01_IsName_1
    rw [ba_beq]
    refine iff_not (iff_dec (fun h => ⟨trivial, ?_⟩) (fun h => r01_Letters_ok x _ ⟨rfl, rfl, trivial, ?_⟩))
    · rw [ba_nil] at h
      rw [hx] at hQ
      simpa [h] using hQ
    · rw [ba_nil] at h
      rw [hx] at hQ
      have h0 : 0 < x.size := by omega
      simp only [h0, decide_true, Bool.true_and] at hQ
      exact hQ
  have mid : ∀ b : Bool, b = (m && markedL s.data.toList) → s.size ≤ 24 → jp_r01_IsName_0 Q s (.b b) := fun b hbm hs => by
    rw [jp_r01_IsName_0_s]
    unfold je_r01_IsName_0
    refine iff_intro (fun h _ => ?_) (fun h => last s ?_)
    · have hbt : b = true := h
      rw [hbt] at hbm
      have hmk : markedL s.data.toList = true := by
        cases hmm : markedL s.data.toList with
        | true => rfl
        | false => rw [hmm] at hbm; simp at hbm
      have hne : s.data.toList ≠ [] := by
        intro h0
        rw [h0] at hmk
        simp [markedL] at hmk
      have hpos : 0 < s.data.toList.length := List.length_pos_iff.2 hne
      rw [wrap_in _ (by omega) (by omega)]
      refine ⟨by omega, by omega, by omega, last _ ?_⟩
      have hx := extract_list s (0 : Int).toNat ((s.size : Int) - 1).toNat
      have hxs : (s.extract (0 : Int).toNat ((s.size : Int) - 1).toNat).size = s.size - 1 := by
        rw [← ba_size, hx]; simp
      have e1 : ((s.size : Int) - 1).toNat = s.data.toList.length - 1 := by omega
      rw [hx, hxs, e1]
      unfold nameOk
      rw [← hbm]
      have h1 : decide (1 < s.size) = decide (0 < s.size - 1) := by
        rw [Bool.eq_iff_iff]; simp only [decide_eq_true_iff]; omega
      simp [hs, h1, List.dropLast_eq_take]
    · have hbf : b = false := h
      unfold nameOk
      rw [← hbm, hbf]
      simp [hs]
  refine iff_dec (fun h => ⟨trivial, ?_⟩) (fun h => iff_intro (fun hm => r01_Marked_ok s _ ⟨rfl, rfl, mid _ ?_ (by omega)⟩) (fun hm => mid _ ?_ (by omega)))
  · have : nameOk s m = false := by unfold nameOk; simp; intro h2; omega
    rw [this] at hQ; exact hQ
  · rw [hm]; rfl
  · rw [hm]; rfl
end Go.Proofs.Ytgohjdaepcmonaa
set_option linter.unusedVariables false
set_option linter.unusedSimpArgs false
namespace Go.Proofs.Ytgohjdaepcmonaa
open Go.Abs
inductive Tm where
  | mk (name : ByteArray) (var : Bool) (args : List Tm)
namespace Tm
def name : Tm → ByteArray | mk n _ _ => n
def var : Tm → Bool | mk _ v _ => v
def args : Tm → List Tm | mk _ _ xs => xs
theorem eta : ∀ t : Tm, t = mk t.name t.var t.args | mk _ _ _ => rfl
theorem ext {s t : Tm} (h1 : s.name = t.name) (h2 : s.var = t.var) (h3 : s.args = t.args) : s = t := by
  rw [eta s, eta t, h1, h2, h3]
mutual
def enc : Tm → List V | mk n v xs => [.s n, .b v, .l (encL xs)]
def encL : List Tm → List (List V) | [] => [] | t :: r => t.enc :: encL r
end
mutual
def size : Tm → Nat | mk _ _ xs => 1 + sizeL xs
def sizeL : List Tm → Nat | [] => 0 | t :: r => t.size + sizeL r
end
mutual
def depth : Tm → Nat | mk _ _ xs => depthL xs + 1
def depthL : List Tm → Nat | [] => 0 | t :: r => max t.depth (depthL r)
end
mutual
def formed : Tm → Bool | mk n v xs => if v then nameOk n false && xs.isEmpty else nameOk n true && decide (xs.length ≤ 8) && formedL xs
def formedL : List Tm → Bool | [] => true | t :: r => t.formed && formedL r
end
theorem enc_eq : ∀ t : Tm, t.enc = [.s t.name, .b t.var, .l (encL t.args)] | mk _ _ _ => rfl
theorem size_eq : ∀ t : Tm, t.size = 1 + sizeL t.args | mk _ _ _ => rfl
theorem depth_eq : ∀ t : Tm, t.depth = depthL t.args + 1 | mk _ _ _ => rfl
theorem encL_eq : ∀ (l : List Tm), encL l = l.map enc
  | [] => rfl
  | t :: r => by simp [encL, encL_eq r]
theorem encL_length (l : List Tm) : (encL l).length = l.length := by simp [encL_eq]
theorem encL_getD (l : List Tm) (k : Nat) (h : k < l.length) : (encL l).getD k [] = (l[k]).enc := by
  rw [encL_eq, List.getD_eq_getElem?_getD, List.getElem?_map, List.getElem?_eq_getElem h]; rfl
theorem ind {p : Tm → Prop} (h : ∀ t : Tm, (∀ a ∈ t.args, p a) → p t) : ∀ t, p t
  | mk n v xs => h (mk n v xs) fun a ha => ind h a
termination_by t => SizeOf.sizeOf t
decreasing_by
  have := List.sizeOf_lt_of_mem (show a ∈ xs from ha)
  simp; omega
theorem size_pos (t : Tm) : 1 ≤ t.size := by rw [size_eq]; omega
theorem sizeL_mem : ∀ {l : List Tm} {a : Tm}, a ∈ l → a.size ≤ sizeL l
  | t :: r, a, h => by
    rcases List.mem_cons.1 h with rfl | h
    · simp [sizeL]
    · have := sizeL_mem h; simp [sizeL]; omega
theorem size_mem {t a : Tm} (h : a ∈ t.args) : a.size < t.size := by have := sizeL_mem h; rw [size_eq t]; omega
theorem sizeL_append : ∀ (l r : List Tm), sizeL (l ++ r) = sizeL l + sizeL r
  | [], r => by simp [sizeL]
  | t :: l, r => by simp [sizeL, sizeL_append l r]; omega
theorem sizeL_take (l : List Tm) (k : Nat) (h : k < l.length) : sizeL (l.take (k + 1)) = sizeL (l.take k) + l[k].size := by
  rw [List.take_succ_eq_append_getElem h, sizeL_append]; simp [sizeL]
theorem sizeL_take_le (l : List Tm) (k : Nat) : sizeL (l.take k) ≤ sizeL l := by
  have := sizeL_append (l.take k) (l.drop k)
  rw [List.take_append_drop] at this; omega
theorem length_sizeL : ∀ (l : List Tm), l.length ≤ sizeL l
  | [] => by simp [sizeL]
  | t :: r => by have := length_sizeL r; have := size_pos t; simp [sizeL]; omega
theorem depthL_append : ∀ (l r : List Tm), depthL (l ++ r) = max (depthL l) (depthL r)
  | [], r => by simp [depthL]
  | t :: l, r => by simp [depthL, depthL_append l r, Nat.max_assoc]
theorem depthL_take (l : List Tm) (k : Nat) (h : k < l.length) : depthL (l.take (k + 1)) = max (depthL (l.take k)) l[k].depth := by
  rw [List.take_succ_eq_append_getElem h, depthL_append]; simp [depthL]
theorem depthL_le_sizeL {l : List Tm} (h : ∀ a ∈ l, a.depth ≤ a.size) : depthL l ≤ sizeL l := by
  induction l with
  | nil => simp [depthL]
  | cons t r ih =>
    have h1 := h t (by simp)
    have h2 := ih fun a ha => h a (by simp [ha])
    simp [depthL, sizeL]; omega
theorem depth_le_size : ∀ t : Tm, t.depth ≤ t.size := ind fun t ih => by
  have := depthL_le_sizeL ih
  rw [depth_eq, size_eq]; omega
theorem depthL_mem : ∀ {l : List Tm} {a : Tm}, a ∈ l → a.depth ≤ depthL l
  | t :: r, a, h => by
    simp only [depthL]
    rcases List.mem_cons.1 h with rfl | h
    · omega
    · have := depthL_mem h; omega
theorem formedL_eq : ∀ (l : List Tm), formedL l = l.all formed
  | [] => rfl
  | t :: r => by simp [formedL, formedL_eq r]
theorem formed_eq : ∀ t : Tm, t.formed = if t.var then nameOk t.name false && t.args.isEmpty else nameOk t.name true && decide (t.args.length ≤ 8) && t.args.all formed
  | mk n v xs => by
    simp only [formed, name, var, args, formedL_eq]
    try rfl
def check (t : Tm) : Int := if t.formed then (if t.size ≤ 4000 ∧ t.depth ≤ 200 then 0 else 3) else 4
def checkAll : List Tm → Int
  | [] => 0
  | t :: r => if t.check = 0 then checkAll r else t.check
theorem check_zero {t : Tm} : t.check = 0 ↔ t.formed = true ∧ t.size ≤ 4000 ∧ t.depth ≤ 200 := by
  unfold check
  cases t.formed with
  | false => simp
  | true => by_cases h : t.size ≤ 4000 ∧ t.depth ≤ 200 <;> simp [h]
theorem checkAll_zero : ∀ {l : List Tm}, checkAll l = 0 ↔ ∀ t ∈ l, t.check = 0
  | [] => by simp [checkAll]
  | t :: r => by
    simp only [checkAll]
    by_cases h : t.check = 0
    · simp [h, checkAll_zero (l := r)]
    · simp [h]
def cmpI (a b : Int) : Int := if a < b then -1 else if b < a then 1 else 0
mutual
def cmp : Tm → Tm → Int
  | mk n v xs, mk m w ys =>
    if v ≠ w then (if v then -1 else 1)
    else if cmpN n m ≠ 0 then cmpN n m
    else if cmpI xs.length ys.length ≠ 0 then cmpI xs.length ys.length
    else cmpL xs ys
def cmpL : List Tm → List Tm → Int
  | t :: r, s :: q => if cmp t s ≠ 0 then cmp t s else cmpL r q
  | _, _ => 0
end
theorem cmp_eq : ∀ a b : Tm, cmp a b = if a.var ≠ b.var then (if a.var then -1 else 1)
    else if cmpN a.name b.name ≠ 0 then cmpN a.name b.name
    else if cmpI a.args.length b.args.length ≠ 0 then cmpI a.args.length b.args.length
    else cmpL a.args b.args
  | mk _ _ _, mk _ _ _ => rfl
theorem cmpI_zero {a b : Int} : cmpI a b = 0 ↔ a = b := by unfold cmpI; split <;> (try split) <;> omega
theorem cmpL_zero : ∀ {l r : List Tm}, l.length = r.length → (∀ a ∈ l, ∀ b, cmp a b = 0 ↔ a = b) → (cmpL l r = 0 ↔ l = r)
  | [], [], _, _ => by simp [cmpL]
  | [], _ :: _, h, _ => by simp at h
  | _ :: _, [], h, _ => by simp at h
  | t :: l, s :: r, h, ih => by
    have h1 := ih t (by simp) s
    have h2 := cmpL_zero (l := l) (r := r) (by simpa using h) fun a ha => ih a (by simp [ha])
    simp only [cmpL]
    by_cases h3 : cmp t s = 0
    · rw [if_neg (by simp [h3]), h2]
      have := h1.1 h3
      subst this
      simp
    · simp [h3]
      intro h4; exact absurd (h1.2 h4) h3
theorem cmp_zero : ∀ {a b : Tm}, cmp a b = 0 ↔ a = b := fun {a b} => ind (p := fun a => ∀ b, cmp a b = 0 ↔ a = b) (fun a ih b => by
  rw [cmp_eq]
  by_cases h1 : a.var = b.var
  · rw [if_neg (by simp [h1])]
    by_cases h2 : cmpN a.name b.name = 0
    · rw [if_neg (by simp [h2])]
      by_cases h3 : cmpI a.args.length b.args.length = 0
      · rw [if_neg (by simp [h3])]
        have h4 := cmpI_zero.1 h3
        rw [cmpL_zero (by omega) ih]
        exact ⟨fun h => ext (cmpN_zero.1 h2) h1 h, fun h => by rw [h]⟩
      · rw [if_pos h3]
        exact ⟨fun h => absurd h h3, fun h => by rw [h] at h3; exact absurd (cmpI_zero.2 rfl) h3⟩
    · rw [if_pos h2]
      exact ⟨fun h => absurd h h2, fun h => by rw [h] at h2; exact absurd (cmpN_self _) h2⟩
  · rw [if_pos h1]
    constructor
    · intro h; exfalso; revert h; cases a.var <;> simp
    · intro h; exact absurd (by rw [h]) h1) a b
def eqB (a b : Tm) : Bool := decide (cmp a b = 0)
theorem eqB_iff {a b : Tm} : eqB a b = true ↔ a = b := by unfold eqB; rw [decide_eq_true_iff, cmp_zero]
theorem eqB_false {a b : Tm} : eqB a b = false ↔ a ≠ b := by rw [← Bool.not_eq_true, eqB_iff]
theorem eqB_self (a : Tm) : eqB a a = true := eqB_iff.2 rfl
end Tm
abbrev tD (t : Tm) : D := .agg [.v .str (.s t.name), .v .bool (.b t.var), .v (.sl t_Term) (.l (Tm.encL t.args))]
abbrev tsD (l : List Tm) : D := .v (.sl t_Term) (.l (Tm.encL l))
end Go.Proofs.Ytgohjdaepcmonaa
set_option linter.unusedVariables false
set_option linter.unusedSimpArgs false
namespace Go.Proofs.Ytgohjdaepcmonaa
open Go.Abs
def small : Nat := 1152921504606846976
theorem small_eq : small = 1152921504606846976 := rfl
theorem r01_Formed_ok : ∀ t : Tm, Fn f_r01_Formed [tD t] (bD t.formed) := Tm.ind fun t ih Q hQ => by
  refine C_r01_Formed _ _ _ _ ?_
  unfold vc_r01_Formed
  have hl := Tm.encL_length t.args
  have hf := Tm.formed_eq t
  have key : ∀ b, b = t.formed → True ∧ Q (bD b) [] := by rintro _ rfl; exact ⟨trivial, hQ⟩
  refine iff_intro (fun hv => ?_) (fun hv => ?_)
  · rw [hv, if_pos rfl] at hf
    refine r01_IsName_ok _ _ _ ⟨rfl, rfl, iff_intro (fun h _ => key _ ?_) (fun h => key _ ?_)⟩
    · have h' : nameOk t.name false = true := h
      rw [hf, h', hl, Bool.true_and, Bool.eq_iff_iff, beq_iff_eq, List.isEmpty_iff]
      constructor
      · intro h0; exact List.eq_nil_of_length_eq_zero (by omega)
      · intro h0; rw [h0]; rfl
    · have h' : nameOk t.name false = false := h
      rw [hf, h']; rfl
  · rw [hv, if_neg (by simp)] at hf
    refine r01_IsName_ok _ _ _ ⟨rfl, rfl, iff_not (iff_intro (fun h hb => ?_) (fun h => key _ ?_))⟩
    · have h' : nameOk t.name true = true := h
      rw [h', Bool.true_and] at hf
      rw [hl] at hb ⊢
      refine iff_dec (fun h8 => key _ ?_) (fun h8 => ?_)
      · rw [hf, decide_eq_false (by omega)]; rfl
      · rw [decide_eq_true (by omega), Bool.true_and] at hf
        rw [jp_r01_Formed_0_s]
        intro hb2
        rw [hl]
        refine range_r01_Formed_0 Q _ _ hb (fun k => (t.args.take k).all Tm.formed = true) (fun k hk hJ K hK => ?_) (fun hJ => ?_) 0 (Nat.zero_le _) rfl
        · simp only [Tm.encL_getD _ k hk, Tm.enc_eq, List.drop_zero, List.headD_cons, List.tail_cons]
          refine ⟨by omega, by omega, ih _ (List.getElem_mem hk) _ ⟨rfl, rfl, iff_not (iff_intro (fun h => hK ?_) (fun h => key _ ?_))⟩⟩
          · have h2 : (t.args[k]).formed = true := h
            rw [List.take_succ_eq_append_getElem hk, List.all_append, hJ, List.all_cons, List.all_nil, h2]; rfl
          · have h2 : (t.args[k]).formed = false := h
            rw [hf]
            symm
            rw [← Bool.not_eq_true]
            intro ha
            have := List.all_eq_true.1 ha _ (List.getElem_mem hk)
            rw [h2] at this; cases this
        · rw [List.take_length] at hJ
          exact key _ (by rw [hf, hJ])
    · have h' : nameOk t.name true = false := h
      rw [hf, h']; rfl
theorem r01_Size_ok : ∀ t : Tm, t.size ≤ small → Fn f_r01_Size [tD t] (iD t.size) := Tm.ind fun t ih hB Q hQ => by
  refine C_r01_Size _ _ _ _ fun hb => ?_
  have hl := Tm.encL_length t.args
  have hs := Tm.size_eq t
  rw [small_eq] at hB
  rw [hl] at hb ⊢
  refine range_r01_Size_0 Q _ _ hb (fun k n => n = ((1 + Tm.sizeL (t.args.take k) : Nat) : Int)) (fun k n hk hJ K hK => ?_) (fun n hJ => ?_) 0 1 (Nat.zero_le _) rfl
  · simp only [Tm.encL_getD _ k hk, Tm.enc_eq, List.drop_zero, List.headD_cons, List.tail_cons]
    have hm := Tm.size_mem (List.getElem_mem hk)
    refine ⟨by omega, by omega, ih _ (List.getElem_mem hk) (by rw [small_eq]; omega) _ ⟨rfl, rfl, hK _ ?_⟩⟩
    have h1 := Tm.sizeL_take t.args k hk
    have h2 := Tm.sizeL_take_le t.args (k + 1)
    subst hJ
    show IntKind.i64.wrap (_ + ((t.args[k]).size : Int)) = _
    rw [wrap_in _ (by omega) (by omega)]
    omega
  · rw [List.take_length] at hJ
    subst hJ
    rw [hs] at hQ
    exact ⟨trivial, hQ⟩
theorem r01_Depth_ok : ∀ t : Tm, t.size ≤ small → Fn f_r01_Depth [tD t] (iD t.depth) := Tm.ind fun t ih hB Q hQ => by
  refine C_r01_Depth _ _ _ _ fun hb => ?_
  have hl := Tm.encL_length t.args
  have hd := Tm.depth_eq t
  have hds := Tm.depth_le_size t
  rw [small_eq] at hB
  rw [hl] at hb ⊢
  refine range_r01_Depth_0 Q _ _ hb (fun k n => n = (Tm.depthL (t.args.take k) : Int)) (fun k n hk hJ K hK => ?_) (fun n hJ => ?_) 0 0 (Nat.zero_le _) rfl
  · simp only [Tm.encL_getD _ k hk, Tm.enc_eq, List.drop_zero, List.headD_cons, List.tail_cons]
    have hm := Tm.size_mem (List.getElem_mem hk)
    refine ⟨by omega, by omega, ih _ (List.getElem_mem hk) (by rw [small_eq]; omega) _ ⟨rfl, rfl, hK _ ?_⟩⟩
    subst hJ
    show (if ((t.args[k]).depth : Int) > _ then ((t.args[k]).depth : Int) else _) = _
    rw [Tm.depthL_take t.args k hk]
    split <;> omega
  · rw [List.take_length] at hJ
    subst hJ
    rw [wrap_in _ (by omega) (by omega)]
    rw [hd] at hQ
    exact ⟨trivial, hQ⟩
theorem r01_Check_ok (t : Tm) (hB : t.size ≤ small) : Fn f_r01_Check [tD t] (iD t.check) := fun Q hQ => by
  refine C_r01_Check _ _ _ _ ?_
  unfold vc_r01_Check
  unfold Tm.check at hQ
  refine r01_Formed_ok t _ ⟨rfl, rfl, iff_not (iff_intro (fun h => ?_) (fun h => ?_))⟩
  · have h' : t.formed = true := h
    rw [h', if_pos rfl] at hQ
    refine r01_Size_ok t hB _ ⟨rfl, rfl, iff_dec (fun h2 => ⟨trivial, ?_⟩) (fun h2 => r01_Depth_ok t hB _ ⟨rfl, rfl, iff_dec (fun h3 => ⟨trivial, ?_⟩) (fun h3 => ⟨trivial, ?_⟩)⟩)⟩
    · have h2 : (t.size : Int) > 4000 := h2
      rw [if_neg (by omega)] at hQ; exact hQ
    · have h3 : (t.depth : Int) > 200 := h3
      rw [if_neg (by omega)] at hQ; exact hQ
    · have h2 : ¬ (t.size : Int) > 4000 := h2
      have h3 : ¬ (t.depth : Int) > 200 := h3
      rw [if_pos (by omega)] at hQ; exact hQ
  · have h' : t.formed = false := h
    rw [h', if_neg (by simp)] at hQ
    exact ⟨trivial, hQ⟩
theorem checkAll_take {l : List Tm} {k : Nat} (h : Tm.checkAll (l.take k) = 0) (hk : k < l.length) (hn : (l[k]).check ≠ 0) : Tm.checkAll l = (l[k]).check := by
  induction l generalizing k with
  | nil => simp at hk
  | cons t r ih =>
    cases k with
    | zero => simp only [List.getElem_cons_zero] at hn ⊢; simp only [Tm.checkAll]; rw [if_neg hn]
    | succ k =>
      simp only [List.take_succ_cons, Tm.checkAll] at h
      have h0 : t.check = 0 := by
        by_cases h0 : t.check = 0
        · exact h0
        · rw [if_neg h0] at h; exact h
      rw [if_pos h0] at h
      simp only [List.getElem_cons_succ] at hn ⊢
      simp only [Tm.checkAll]
      rw [if_pos h0]
      exact ih h (by simpa using hk) hn
theorem r01_CheckAll_ok (l : List Tm) (hB : ∀ t ∈ l, t.size ≤ small) : Fn f_r01_CheckAll [tsD l] (iD (Tm.checkAll l)) := fun Q hQ => by
  refine C_r01_CheckAll _ _ fun hb => ?_
  have hl := Tm.encL_length l
  rw [hl] at hb ⊢
  refine range_r01_CheckAll_0 Q _ _ hb (fun k => Tm.checkAll (l.take k) = 0) (fun k hk hJ K hK => ?_) (fun hJ => ?_) 0 (Nat.zero_le _) rfl
  · simp only [Tm.encL_getD _ k hk, Tm.enc_eq, List.drop_zero, List.headD_cons, List.tail_cons]
    refine ⟨by omega, by omega, r01_Check_ok _ (hB _ (List.getElem_mem hk)) _ ⟨rfl, rfl, iff_bne (fun h => ⟨trivial, ?_⟩) (fun h => hK ?_)⟩⟩
    · have h' : (l[k]).check ≠ 0 := h
      rw [checkAll_take hJ hk h'] at hQ
      exact hQ
    · have h' : (l[k]).check = 0 := h
      rw [Tm.checkAll_zero] at hJ ⊢
      rw [List.take_succ_eq_append_getElem hk]
      intro t ht
      rcases List.mem_append.1 ht with ht | ht
      · exact hJ t ht
      · rw [List.mem_singleton.1 ht]; exact h'
  · rw [List.take_length] at hJ
    rw [hJ] at hQ
    exact ⟨trivial, hQ⟩
theorem cmp_take : ∀ (l m : List UInt8) (k : Nat), k ≤ l.length → k ≤ m.length → l.take k = m.take k → Lib.compareBytes l m = Lib.compareBytes (l.drop k) (m.drop k)
  | l, m, 0, _, _, _ => by simp
  | a :: l, b :: m, k + 1, h1, h2, h => by
    simp only [List.take_succ_cons, List.cons.injEq] at h
    obtain ⟨rfl, h⟩ := h
    have h0 : ¬ a < a := by rw [u8_lt]; omega
    simp only [Lib.compareBytes, if_neg h0, List.drop_succ_cons]
    exact cmp_take l m k (by simpa using h1) (by simpa using h2) h
  | [], _, k + 1, h, _, _ => by simp at h
  | _ :: _, [], k + 1, _, h, _ => by simp at h
theorem r01_CompareNames_ok (a b : ByteArray) : Fn f_r01_CompareNames [sD a, sD b] (iD (cmpN a b)) := fun Q hQ => by
  refine C_r01_CompareNames _ _ _ fun ha hb => ?_
  rw [big_eq] at ha hb
  have hla := ba_size a
  have hlb := ba_size b
  have e0 : (if ((b.size : Int)) < ((a.size : Int)) then ((b.size : Int)) else ((a.size : Int))) = ((min a.size b.size : Nat) : Int) := by split <;> omega
  rw [e0]
  unfold cmpN at hQ
  generalize hx : a.data.toList = x at *
  generalize hy : b.data.toList = y at *
  refine range_r01_CompareNames_0 Q a b _ (by rw [big_eq]; omega) (fun k => x.take k = y.take k) (fun k hk hJ K hK => ?_) (fun hJ => ?_) 0 (Nat.zero_le _) rfl
  · have hkx : k < x.length := by omega
    have hky : k < y.length := by omega
    have ex : x.getD k 0 = x[k] := by rw [List.getD_eq_getElem?_getD, List.getElem?_eq_getElem hkx]; rfl
    have ey : y.getD k 0 = y[k] := by rw [List.getD_eq_getElem?_getD, List.getElem?_eq_getElem hky]; rfl
    rw [hx, hy, ex, ey]
    have bx := (x[k]).toNat_lt
    have by_ := (y[k]).toNat_lt
    refine ⟨by omega, by omega, by omega, by omega, iff_bne (fun h => ⟨by omega, by omega, by omega, by omega, r01_CompareInts_ok _ _ _ ⟨rfl, rfl, trivial, ?_⟩⟩) (fun h => hK ?_)⟩
    · rw [wrap_in _ (by omega) (by omega), wrap_in _ (by omega) (by omega)]
      have := cmp_take x y k (by omega) (by omega) hJ
      rw [List.drop_eq_getElem_cons hkx, List.drop_eq_getElem_cons hky] at this
      simp only [Lib.compareBytes, u8_lt] at this
      rw [this] at hQ
      by_cases h1 : (x[k]).toNat < (y[k]).toNat
      · rw [if_pos h1] at hQ; rw [if_pos (by omega)]; exact hQ
      · rw [if_neg h1, if_pos (by omega)] at hQ; rw [if_neg (by omega), if_pos (by omega)]; exact hQ
    · rw [List.take_succ_eq_append_getElem hkx, List.take_succ_eq_append_getElem hky, hJ]
      congr 1
      simp only [List.cons.injEq, and_true]
      apply UInt8.toNat_inj.1
      omega
  · intro _ _
    refine r01_CompareInts_ok _ _ _ ⟨rfl, rfl, trivial, ?_⟩
    have := cmp_take x y (min a.size b.size) (by omega) (by omega) hJ
    rw [this] at hQ
    by_cases h1 : a.size < b.size
    · rw [if_pos (by omega)]
      rw [List.drop_eq_nil_of_le (by omega), show min a.size b.size = a.size by omega, List.drop_eq_getElem_cons (show a.size < y.length by omega)] at hQ
      exact hQ
    · by_cases h2 : b.size < a.size
      · rw [if_neg (by omega), if_pos (by omega)]
        rw [show min a.size b.size = b.size by omega, List.drop_eq_nil_of_le (show y.length ≤ b.size by omega), List.drop_eq_getElem_cons (show b.size < x.length by omega)] at hQ
        exact hQ
      · rw [if_neg (by omega), if_neg (by omega)]
        rw [List.drop_eq_nil_of_le (by omega), List.drop_eq_nil_of_le (by omega)] at hQ
        exact hQ
theorem cmpL_take : ∀ (l m : List Tm) (k : Nat) (h1 : k < l.length) (h2 : k < m.length), (∀ i, (h : i < k) → Tm.cmp (l[i]'(by omega)) (m[i]'(by omega)) = 0) → Tm.cmpL l m = if Tm.cmp l[k] m[k] ≠ 0 then Tm.cmp l[k] m[k] else Tm.cmpL (l.drop (k + 1)) (m.drop (k + 1))
  | a :: l, b :: m, 0, _, _, _ => by simp [Tm.cmpL]
  | a :: l, b :: m, k + 1, h1, h2, h => by
    have h0 := h 0 (by omega)
    simp only [List.getElem_cons_zero] at h0
    simp only [Tm.cmpL]
    rw [if_neg (by simp [h0])]
    simp only [List.getElem_cons_succ, List.drop_succ_cons]
    exact cmpL_take l m k (by simpa using h1) (by simpa using h2) fun i hi => by
      have := h (i + 1) (by omega)
      simpa using this
  | [], _, _, h, _, _ => by simp at h
  | _ :: _, [], _, _, h, _ => by simp at h
theorem cmpL_all : ∀ (l m : List Tm), l.length = m.length → (∀ i (h : i < l.length) (h' : i < m.length), Tm.cmp l[i] m[i] = 0) → Tm.cmpL l m = 0
  | [], [], _, _ => by simp [Tm.cmpL]
  | a :: l, b :: m, hl, h => by
    have h0 := h 0 (by simp) (by simp)
    simp only [List.getElem_cons_zero] at h0
    simp only [Tm.cmpL]
    rw [if_neg (by simp [h0])]
    exact cmpL_all l m (by simpa using hl) fun i h1 h2 => by
      have := h (i + 1) (by simpa using h1) (by simpa using h2)
      simpa using this
  | [], _ :: _, h, _ => by simp at h
  | _ :: _, [], h, _ => by simp at h
theorem r01_Compare_ok : ∀ (a b : Tm), Fn f_r01_Compare [tD a, tD b] (iD (Tm.cmp a b)) := Tm.ind fun a ih b Q hQ => by
  refine C_r01_Compare _ _ _ _ _ _ _ ?_
  unfold vc_r01_Compare
  rw [Tm.cmp_eq] at hQ
  have hla := Tm.encL_length a.args
  have hlb := Tm.encL_length b.args
  refine iff_not (iff_beq (fun h => ?_) (fun h => ?_))
  · rw [if_neg (by simp [h])] at hQ
    refine r01_CompareNames_ok _ _ _ ⟨rfl, rfl, iff_bne (fun h2 => ⟨trivial, ?_⟩) (fun h2 ha hb => ?_)⟩
    · have h2 : cmpN a.name b.name ≠ 0 := h2
      rw [if_pos h2] at hQ; exact hQ
    · have h2 : cmpN a.name b.name = 0 := h2
      rw [if_neg (by simp [h2])] at hQ
      rw [hla, hlb]
      refine r01_CompareInts_ok _ _ _ ⟨rfl, rfl, iff_bne (fun h3 => ⟨trivial, ?_⟩) (fun h3 _ => ?_)⟩
      · have h3 : Tm.cmpI a.args.length b.args.length ≠ 0 := h3
        rw [if_pos h3] at hQ; exact hQ
      · have h3 : Tm.cmpI a.args.length b.args.length = 0 := h3
        rw [if_neg (by simp [h3])] at hQ
        have h4 := Tm.cmpI_zero.1 h3
        rw [hla] at ha
        refine range_r01_Compare_0 Q _ _ _ _ _ _ _ ha (fun k => ∀ i (hi : i < k) (h1 : i < a.args.length) (h2 : i < b.args.length), Tm.cmp (a.args[i]) (b.args[i]) = 0) (fun k hk hJ K hK => ?_) (fun hJ => ?_) 0 (Nat.zero_le _) (fun i hi => by omega)
        · have hk2 : k < b.args.length := by omega
          simp only [Tm.encL_getD _ k hk, Tm.encL_getD _ k hk2, Tm.enc_eq, List.drop_zero, List.headD_cons, List.tail_cons]
          refine ⟨by omega, by omega, by omega, by omega, ih _ (List.getElem_mem hk) _ _ ⟨rfl, rfl, iff_bne (fun h5 => ⟨trivial, ?_⟩) (fun h5 => hK ?_)⟩⟩
          · have h5 : Tm.cmp (a.args[k]) (b.args[k]) ≠ 0 := h5
            rw [cmpL_take _ _ k hk hk2 (fun i hi => hJ i hi _ _), if_pos h5] at hQ
            exact hQ
          · intro i hi h6 h7
            rcases Nat.lt_succ_iff_lt_or_eq.1 hi with h8 | rfl
            · exact hJ i h8 h6 h7
            · exact h5
        · rw [cmpL_all _ _ (by omega) (fun i h1 h2 => hJ i (by omega) h1 h2)] at hQ
          exact ⟨trivial, hQ⟩
  · rw [if_pos h] at hQ
    refine iff_intro (fun hv => ⟨trivial, ?_⟩) (fun hv => ⟨trivial, ?_⟩)
    · rw [hv, if_pos rfl] at hQ; exact hQ
    · rw [hv, if_neg (by simp)] at hQ; exact hQ
theorem r01_Equal_ok (a b : Tm) : Fn f_r01_Equal [tD a, tD b] (bD (Tm.eqB a b)) := fun Q hQ => by
  refine C_r01_Equal _ _ _ _ _ _ _ ?_
  unfold vc_r01_Equal
  refine r01_Compare_ok a b _ ⟨rfl, rfl, trivial, ?_⟩
  unfold Tm.eqB at hQ
  exact hQ
end Go.Proofs.Ytgohjdaepcmonaa
set_option linter.unusedVariables false
set_option linter.unusedSimpArgs false
namespace Go.Proofs.Ytgohjdaepcmonaa
open Go.Abs
theorem Fn.as {f : FuncId} {args : List D} {r : D} (h : ∀ Q : D → Heap → Prop, (∀ r0, As r0 r → Q r0 []) → cl f args [] Q) : Fn f args r := fun Q hQ =>
  ACalls.as (h _ fun r0 h0 => ⟨r, h0, hQ⟩)
abbrev Su := List (ByteArray × Tm)
def encB (x : ByteArray × Tm) : List V := .s x.1 :: x.2.enc
def encS (l : Su) : List (List V) := l.map encB
abbrev suD (l : Su) : D := .v (.sl t_Bind) (.l (encS l))
theorem encS_length (l : Su) : (encS l).length = l.length := by simp [encS]
theorem encS_getD (l : Su) (k : Nat) (h : k < l.length) : (encS l).getD k [] = .s (l[k]).1 :: (l[k]).2.enc := by
  rw [encS, List.getD_eq_getElem?_getD, List.getElem?_map, List.getElem?_eq_getElem h]; rfl
namespace Tm
def image (l : Su) (x : ByteArray) : Tm := match l with
  | [] => mk x true []
  | (y, t) :: r => if y = x then t else image r x
mutual
def app (l : Su) : Tm → Tm | mk n v xs => if v then image l n else mk n false (appL l xs)
def appL (l : Su) : List Tm → List Tm | [] => [] | t :: r => app l t :: appL l r
end
theorem app_eq (l : Su) : ∀ t : Tm, app l t = if t.var then image l t.name else mk t.name false (t.args.map (app l)) := by
  have : ∀ xs, appL l xs = xs.map (app l) := by
    intro xs
    induction xs with
    | nil => rfl
    | cons t r ih => simp [appL, ih]
  intro t
  cases t with
  | mk n v xs =>
    show (if v then image l n else mk n false (appL l xs)) = _
    rw [this]
    rfl
def fits (l : Su) (t : Tm) : Bool := decide ((app l t).size ≤ 4000) && decide ((app l t).depth ≤ 200)
theorem image_take {l : Su} {x : ByteArray} {k : Nat} (hk : k < l.length) (h : ∀ i (hi : i < k), (l[i]'(by omega)).1 ≠ x) (he : (l[k]).1 = x) : image l x = (l[k]).2 := by
  induction l generalizing k with
  | nil => simp at hk
  | cons y r ih =>
    cases k with
    | zero => simp only [List.getElem_cons_zero] at he ⊢; simp only [image]; rw [if_pos he]
    | succ k =>
      have h0 := h 0 (by omega)
      simp only [List.getElem_cons_zero] at h0
      simp only [image]
      rw [if_neg h0]
      simp only [List.getElem_cons_succ] at he ⊢
      exact ih (by simpa using hk) (fun i hi => by have := h (i + 1) (by omega); simpa using this) he
theorem image_none {l : Su} {x : ByteArray} (h : ∀ i (hi : i < l.length), (l[i]).1 ≠ x) : image l x = mk x true [] := by
  induction l with
  | nil => rfl
  | cons y r ih =>
    have h0 := h 0 (by simp)
    simp only [List.getElem_cons_zero] at h0
    simp only [image]
    rw [if_neg h0]
    exact ih fun i hi => by have := h (i + 1) (by simpa using hi); simpa using this
end Tm
theorem r01_Image_ok (l : Su) (x : ByteArray) : Fn f_r01_Image [suD l, sD x] (tD (Tm.image l x)) := Fn.as fun Q hQ => by
  refine C_r01_Image _ _ _ fun hb => ?_
  have hl := encS_length l
  rw [hl] at hb ⊢
  refine range_r01_Image_0 Q _ _ _ _ _ hb (fun k => ∀ i (hi : i < k) (h : i < l.length), (l[i]).1 ≠ x) (fun k hk hJ K hK => ?_) (fun hJ => ?_) 0 (Nat.zero_le _) (fun i hi => by omega)
  · simp only [encS_getD _ k hk, Tm.enc_eq, List.drop_zero, List.headD_cons, List.tail_cons, V.str]
    refine ⟨by omega, by omega, ?_⟩
    rw [ba_beq]
    refine iff_dec (fun h => ⟨⟨trivial, trivial, trivial, trivial⟩, ?_⟩) (fun h => hK ?_)
    · rw [Tm.image_take hk (fun i hi => hJ i hi _) h] at hQ
      exact hQ _ (.refl _)
    · intro i hi h6
      rcases Nat.lt_succ_iff_lt_or_eq.1 hi with h8 | rfl
      · exact hJ i h8 h6
      · exact h
  · refine ⟨⟨trivial, trivial, trivial, trivial⟩, ?_⟩
    rw [Tm.image_none fun i hi => hJ i hi hi] at hQ
    exact hQ _ (.last3 _ _ _)
theorem r01_Apply_ok (l : Su) : ∀ t : Tm, t.size ≤ lim → Fn f_r01_Apply [suD l, tD t] (tD (Tm.app l t)) := Tm.ind fun t ih hB Q hQ => by
  refine C_r01_Apply _ _ _ _ _ ?_
  unfold vc_r01_Apply
  have ha := Tm.app_eq l t
  refine iff_intro (fun h => ?_) (fun h hb => ?_)
  · rw [h, if_pos rfl] at ha
    rw [ha] at hQ
    exact r01_Image_ok l _ _ ⟨rfl, rfl, ⟨trivial, trivial, trivial, trivial⟩, hQ⟩
  · rw [h, if_neg (by simp)] at ha
    have hl := Tm.encL_length t.args
    rw [hl] at hb ⊢
    have hsz := Tm.size_eq t
    have hls := Tm.length_sizeL t.args
    refine range_r01_Apply_0 Q _ _ _ _ _ _ _ hb (fun k n y => n = k ∧ y = Tm.encL ((t.args.take k).map (Tm.app l))) (fun k n y hk hJ K hK => ?_) (fun n y hJ => ?_) 0 0 _ (Nat.zero_le _) ⟨rfl, rfl⟩
    · simp only [Tm.encL_getD _ k hk, Tm.enc_eq, List.drop_zero, List.headD_cons, List.tail_cons]
      obtain ⟨rfl, rfl⟩ := hJ
      have hm := Tm.size_mem (List.getElem_mem hk)
      refine ⟨by omega, by omega, tD (Tm.app l (t.args[n])), (ih _ (List.getElem_mem hk) (by omega)).here rfl, ?_, ?_, hK _ _ ⟨?_, ?_⟩⟩
      · rw [Tm.encL_length, List.length_map, List.length_take]; omega
      · show n + 1 ≤ lim; omega
      · rfl
      · rw [List.take_succ_eq_append_getElem hk, List.map_append, Tm.encL_eq, Tm.encL_eq, List.map_append]
        congr 1
        simp only [List.map_cons, List.map_nil]
        rw [Tm.enc_eq]
        rfl
    · obtain ⟨rfl, rfl⟩ := hJ
      rw [List.take_length]
      refine ⟨⟨trivial, trivial, ?_, trivial⟩, ?_⟩
      · rw [Tm.encL_length, List.length_map]
      · rw [ha] at hQ; exact hQ
theorem r01_Grown_ok (l : Su) : ∀ t : Tm, (Tm.app l t).size ≤ small → Fn f_r01_Grown [suD l, tD t] (.tup [iD (Tm.app l t).size, iD (Tm.app l t).depth]) := Tm.ind fun t ih hB Q hQ => by
  refine C_r01_Grown _ _ _ _ _ ?_
  unfold vc_r01_Grown
  have ha := Tm.app_eq l t
  refine iff_intro (fun h => ?_) (fun h hb => ?_)
  · rw [h, if_pos rfl] at ha
    rw [ha] at hQ hB
    exact r01_Image_ok l _ _ ⟨rfl, rfl, iD (Tm.image l t.name).size, (r01_Size_ok _ hB).here rfl, r01_Depth_ok _ hB _ ⟨rfl, rfl, ⟨trivial, trivial, trivial⟩, hQ⟩⟩
  · rw [h, if_neg (by simp)] at ha
    have hl := Tm.encL_length t.args
    rw [hl] at hb ⊢
    have hs : (Tm.app l t).size = 1 + Tm.sizeL (t.args.map (Tm.app l)) := by rw [ha, Tm.size_eq]; rfl
    have hd : (Tm.app l t).depth = Tm.depthL (t.args.map (Tm.app l)) + 1 := by rw [ha, Tm.depth_eq]; rfl
    have hds := Tm.depth_le_size (Tm.app l t)
    rw [small_eq] at hB
    rw [hs, hd] at hQ
    rw [hs] at hB hds
    rw [hd] at hds
    refine range_r01_Grown_0 Q _ _ _ hb (fun k n d => n = ((1 + Tm.sizeL ((t.args.map (Tm.app l)).take k) : Nat) : Int) ∧ d = (Tm.depthL ((t.args.map (Tm.app l)).take k) : Int)) (fun k n d hk hJ K hK => ?_) (fun n d hJ => ?_) 0 1 0 (Nat.zero_le _) ⟨rfl, rfl⟩
    · simp only [Tm.encL_getD _ k hk, Tm.enc_eq, List.drop_zero, List.headD_cons, List.tail_cons]
      have hk' : k < (t.args.map (Tm.app l)).length := by simpa using hk
      have hm := Tm.sizeL_mem (List.getElem_mem hk')
      have h1 := Tm.sizeL_take _ k hk'
      have h2 := Tm.sizeL_take_le (t.args.map (Tm.app l)) (k + 1)
      have h3 := Tm.depthL_take _ k hk'
      rw [List.getElem_map] at hm h1 h3
      refine ⟨by omega, by omega, ih _ (List.getElem_mem hk) (by rw [small_eq]; omega) _ ⟨rfl, rfl, hK _ _ ⟨?_, ?_⟩⟩⟩
      · rw [hJ.1]
        show IntKind.i64.wrap (_ + ((Tm.app l (t.args[k])).size : Int)) = _
        rw [wrap_in _ (by omega) (by omega)]
        omega
      · rw [hJ.2]
        show (if ((Tm.app l (t.args[k])).depth : Int) > _ then ((Tm.app l (t.args[k])).depth : Int) else _) = _
        rw [h3]
        split <;> omega
    · rw [List.take_of_length_le (by simp)] at hJ
      obtain ⟨rfl, rfl⟩ := hJ
      rw [wrap_in _ (by omega) (by omega)]
      exact ⟨⟨trivial, trivial, trivial⟩, hQ⟩
theorem r01_Fits_ok (l : Su) (t : Tm) (hB : (Tm.app l t).size ≤ small) : Fn f_r01_Fits [suD l, tD t] (bD (Tm.fits l t)) := fun Q hQ => by
  refine C_r01_Fits _ _ _ _ _ ?_
  unfold vc_r01_Fits
  refine r01_Grown_ok l t hB _ ⟨rfl, rfl, iff_dec (fun h => ⟨trivial, ?_⟩) (fun h => ⟨trivial, ?_⟩)⟩
  · have h : ((Tm.app l t).size : Int) ≤ 4000 := h
    unfold Tm.fits at hQ
    rw [decide_eq_true (show (Tm.app l t).size ≤ 4000 by omega), Bool.true_and] at hQ
    show Q (bD (decide (((Tm.app l t).depth : Int) ≤ 200))) []
    have e : decide (((Tm.app l t).depth : Int) ≤ 200) = decide ((Tm.app l t).depth ≤ 200) := by
      rw [Bool.eq_iff_iff]; simp only [decide_eq_true_iff]; omega
    rw [e]; exact hQ
  · have h : ¬ ((Tm.app l t).size : Int) ≤ 4000 := h
    unfold Tm.fits at hQ
    rw [decide_eq_false (show ¬ (Tm.app l t).size ≤ 4000 by omega), Bool.false_and] at hQ
    exact hQ
end Go.Proofs.Ytgohjdaepcmonaa
set_option linter.unusedVariables false
set_option linter.unusedSimpArgs false
namespace Go.Proofs.Ytgohjdaepcmonaa
open Go.Abs
def bz : ByteArray := ByteArray.mk #[]
def nameAt (m : Bool) (l : List ByteArray) (k : Nat) : Bool := nameOk (l.getD k bz) m && (decide (k = 0) || decide (cmpN (l.getD (k - 1) bz) (l.getD k bz) = -1))
def namesOk (m : Bool) (l : List ByteArray) : Bool := (List.range l.length).all (nameAt m l)
theorem namesOk_all {m : Bool} {l : List ByteArray} (h : ∀ k, k < l.length → nameAt m l k = true) : namesOk m l = true := by
  unfold namesOk; rw [List.all_eq_true]; intro k hk; exact h k (by simpa using hk)
theorem namesOk_not {m : Bool} {l : List ByteArray} {k : Nat} (hk : k < l.length) (h : nameAt m l k = false) : namesOk m l = false := by
  rw [← Bool.not_eq_true]
  intro ha
  unfold namesOk at ha
  have := (List.all_eq_true.1 ha) k (by simpa using hk)
  rw [h] at this; cases this
theorem cmpN_lt (a b : ByteArray) : cmpN a b ≥ 0 ↔ ¬ cmpN a b = -1 := by rcases cmpN_cases a b with h | h | h <;> omega
def suNames (l : Su) : List ByteArray := l.map (·.1)
theorem suNames_getD (l : Su) (k : Nat) (h : k < l.length) : (suNames l).getD k bz = (l[k]).1 := by
  rw [suNames, List.getD_eq_getElem?_getD, List.getElem?_map, List.getElem?_eq_getElem h]; rfl
def suErr (l : Su) : Int := if namesOk false (suNames l) then Tm.checkAll (l.map (·.2)) else 4
theorem r01_CheckSubst_ok (l : Su) (hB : ∀ x ∈ l, x.2.size ≤ small) : Fn f_r01_CheckSubst [suD l] (iD (suErr l)) := fun Q hQ => by
  refine C_r01_CheckSubst _ _ fun hb => ?_
  have hl := encS_length l
  have hl2 : (suNames l).length = l.length := by simp [suNames]
  rw [hl] at hb ⊢
  rw [big_eq] at hb
  unfold suErr at hQ
  have bad : namesOk false (suNames l) = false → Q (iD 4) [] := fun h => by rw [h] at hQ; exact hQ
  refine range_r01_CheckSubst_0 Q _ _ _ (by rw [big_eq]; exact hb) (fun k => ∀ i, i < k → nameAt false (suNames l) i = true) (fun k hk hJ K hK => ?_) (fun hJ hb => ?_) 0 (Nat.zero_le _) (fun i hi => by omega)
  · simp only [encS_getD _ k hk, Tm.enc_eq, List.drop_zero, List.headD_cons, List.tail_cons]
    have hn := suNames_getD l k hk
    refine ⟨by omega, by omega, bD (nameOk (l[k]).1 false), (r01_IsName_ok _ _).here rfl, ?_⟩
    have next : nameAt false (suNames l) k = true → ∀ i, i < k + 1 → nameAt false (suNames l) i = true := fun h i hi => by
      rcases Nat.lt_succ_iff_lt_or_eq.1 hi with h8 | rfl
      · exact hJ i h8
      · exact h
    refine iff_not (iff_intro (fun h => iff_dec (fun h0 => ?_) (fun h0 => hK (next ?_))) (fun h => ⟨trivial, bad (namesOk_not (k := k) (by omega) ?_)⟩))
    · have h : nameOk (l[k]).1 false = true := h
      have hk1 : k - 1 < l.length := by omega
      have hp := suNames_getD l (k - 1) hk1
      rw [wrap_in _ (by omega) (by omega)]
      have e1 : ((k : Int) - 1).toNat = k - 1 := by omega
      rw [e1]
      simp only [encS_getD _ (k - 1) hk1, Tm.enc_eq, List.drop_zero, List.headD_cons, List.tail_cons]
      have hk0 : ¬ k = 0 := by omega
      refine ⟨by omega, by omega, r01_CompareNames_ok _ _ _ ⟨rfl, rfl, iff_dec (fun h2 => ⟨trivial, bad (namesOk_not (k := k) (by omega) ?_)⟩) (fun h2 => hK (next ?_))⟩⟩
      · have h2 : cmpN (l[k-1]).1 (l[k]).1 ≥ 0 := h2
        unfold nameAt
        rw [hn, hp, h, Bool.true_and, decide_eq_false hk0, decide_eq_false ((cmpN_lt _ _).1 h2)]; rfl
      · have h2 : ¬ cmpN (l[k-1]).1 (l[k]).1 ≥ 0 := h2
        unfold nameAt
        rw [hn, hp, h, Bool.true_and, decide_eq_false hk0, decide_eq_true (Classical.byContradiction fun h3 => h2 ((cmpN_lt _ _).2 h3))]; rfl
    · have h : nameOk (l[k]).1 false = true := h
      unfold nameAt
      rw [hn, h, decide_eq_true (show k = 0 by omega)]; rfl
    · have h : nameOk (l[k]).1 false = false := h
      unfold nameAt
      rw [hn, h]; rfl
  · rw [namesOk_all (fun k hk => hJ k (by omega)), if_pos rfl] at hQ
    have hl3 : (l.map (·.2)).length = l.length := by simp
    rw [hl] at hb ⊢
    refine range_r01_CheckSubst_1 Q _ _ hb (fun k => Tm.checkAll ((l.map (·.2)).take k) = 0) (fun k hk hJ K hK => ?_) (fun hJ => ?_) 0 (Nat.zero_le _) rfl
    · simp only [encS_getD _ k hk, Tm.enc_eq, List.drop_zero, List.headD_cons, List.tail_cons]
      have hk' : k < (l.map (·.2)).length := by omega
      have he : (l.map (·.2))[k] = (l[k]).2 := by simp
      refine ⟨by omega, by omega, r01_Check_ok _ (hB _ (List.getElem_mem hk)) _ ⟨rfl, rfl, iff_bne (fun h => ⟨trivial, ?_⟩) (fun h => hK ?_)⟩⟩
      · have h' : ((l[k]).2).check ≠ 0 := h
        rw [checkAll_take hJ hk' (by rw [he]; exact h'), he] at hQ
        exact hQ
      · have h' : ((l[k]).2).check = 0 := h
        rw [Tm.checkAll_zero] at hJ ⊢
        rw [List.take_succ_eq_append_getElem hk']
        intro t ht
        rcases List.mem_append.1 ht with ht | ht
        · exact hJ t ht
        · rw [List.mem_singleton.1 ht, he]; exact h'
    · rw [← hl3, List.take_length] at hJ
      rw [hJ] at hQ
      exact ⟨trivial, hQ⟩
end Go.Proofs.Ytgohjdaepcmonaa
set_option linter.unusedVariables false
set_option linter.unusedSimpArgs false
namespace Go.Proofs.Ytgohjdaepcmonaa
open Go.Abs
def encN (l : List ByteArray) : List (List V) := l.map fun s => [.s s]
abbrev nsD (l : List ByteArray) : D := .v (.sl t_string) (.l (encN l))
theorem encN_length (l : List ByteArray) : (encN l).length = l.length := by simp [encN]
theorem encN_getD (l : List ByteArray) (k : Nat) (h : k < l.length) : (encN l).getD k [] = [.s l[k]] := by
  rw [encN, List.getD_eq_getElem?_getD, List.getElem?_map, List.getElem?_eq_getElem h]; rfl
theorem encN_append (l r : List ByteArray) : encN (l ++ r) = encN l ++ encN r := by simp [encN]
theorem encN_take (l : List ByteArray) (k : Nat) : encN (l.take k) = (encN l).take k := by simp [encN, List.map_take]
theorem encN_drop (l : List ByteArray) (k : Nat) : encN (l.drop k) = (encN l).drop k := by simp [encN, List.map_drop]
def hasN (l : List ByteArray) (x : ByteArray) : Bool := l.any fun y => decide (y = x)
theorem hasN_iff {l : List ByteArray} {x : ByteArray} : hasN l x = true ↔ x ∈ l := by
  unfold hasN; rw [List.any_eq_true]
  constructor
  · rintro ⟨y, hy, h⟩
    rw [decide_eq_true_iff] at h; exact h ▸ hy
  · exact fun h => ⟨x, h, by simp⟩
theorem hasN_false {l : List ByteArray} {x : ByteArray} : hasN l x = false ↔ x ∉ l := by rw [← hasN_iff, Bool.not_eq_true]
theorem r01_Has_ok (l : List ByteArray) (x : ByteArray) : Fn f_r01_Has [nsD l, sD x] (bD (hasN l x)) := fun Q hQ => by
  refine C_r01_Has _ _ _ fun hb => ?_
  have hl := encN_length l
  rw [hl] at hb ⊢
  refine range_r01_Has_0 Q _ _ _ hb (fun k => x ∉ l.take k) (fun k hk hJ K hK => ?_) (fun hJ => ?_) 0 (Nat.zero_le _) (by simp)
  · simp only [encN_getD _ k hk, List.drop_zero, List.headD_cons, V.str]
    refine ⟨by omega, by omega, ?_⟩
    rw [ba_beq]
    refine iff_dec (fun h => ⟨trivial, ?_⟩) (fun h => hK ?_)
    · rw [hasN_iff.2 (h ▸ List.getElem_mem hk)] at hQ; exact hQ
    · rw [List.take_succ_eq_append_getElem hk]
      intro hm
      rcases List.mem_append.1 hm with hm | hm
      · exact hJ hm
      · exact h (List.mem_singleton.1 hm).symm
  · rw [List.take_length] at hJ
    rw [hasN_false.2 hJ] at hQ
    exact ⟨trivial, hQ⟩
def insN (l : List ByteArray) (s : ByteArray) : List ByteArray := match l with
  | [] => [s]
  | x :: r => if cmpN x s = -1 then x :: insN r s else if x = s then x :: r else s :: x :: r
theorem insN_at (s : ByteArray) : ∀ (k : Nat) (l : List ByteArray), k ≤ l.length → (∀ i (h : i < l.length), i < k → cmpN l[i] s = -1) → insN l s = l.take k ++ insN (l.drop k) s
  | 0, l, _, _ => by simp
  | k + 1, [], h, _ => by simp at h
  | k + 1, x :: r, h, hc => by
    have h0 := hc 0 (by simp) (by omega)
    simp only [List.getElem_cons_zero] at h0
    rw [insN, if_pos h0, List.take_succ_cons, List.drop_succ_cons, List.cons_append, insN_at s k r (by simpa using h) fun i hi hk => by
      have := hc (i + 1) (by simpa using hi) (by omega); simpa using this]
theorem insN_length (l : List ByteArray) (s : ByteArray) : (insN l s).length ≤ l.length + 1 := by
  induction l with
  | nil => simp [insN]
  | cons x r ih => unfold insN; split <;> (try split) <;> simp <;> omega
theorem r01_Insert_ok (l : List ByteArray) (s : ByteArray) (hB : l.length + 1 ≤ lim) : Fn f_r01_Insert [nsD l, sD s] (nsD (insN l s)) := fun Q hQ => by
  refine C_r01_Insert _ _ _ ?_
  unfold vc_r01_Insert
  have hl := encN_length l
  have hlim : lim = 549755813888 := rfl
  have here : ∀ k : Nat, k ≤ l.length → (∀ i (h : i < l.length), i < k → cmpN l[i] s = -1) → (∀ h : k < l.length, cmpN l[k] s ≠ -1 ∧ l[k] ≠ s) → jp_r01_Insert_0 Q (encN l) s k := fun k hk hJ hne => by
    rw [jp_r01_Insert_0_s]
    unfold je_r01_Insert_0
    have e : insN l s = l.take k ++ s :: l.drop k := by
      rw [insN_at s k l hk hJ]
      congr 1
      cases hd : l.drop k with
      | nil => rfl
      | cons x r =>
        have hk' : k < l.length := by
          rcases Nat.lt_or_ge k l.length with h | h
          · exact h
          · rw [List.drop_eq_nil_of_le h] at hd; cases hd
        have hx : x = l[k] := by
          rw [List.drop_eq_getElem_cons hk'] at hd; cases hd; rfl
        obtain ⟨g1, g2⟩ := hne hk'
        rw [insN, if_neg (hx ▸ g1), if_neg (hx ▸ g2)]
    have t1 : ((encN l).take ((k : Nat) : Int).toNat).drop (0 : Int).toNat = encN (l.take k) := by simp [encN_take]
    have t2 : ((encN l).take (((encN l).length : Int)).toNat).drop ((k : Nat) : Int).toNat = encN (l.drop k) := by simp [encN_drop]
    have l1 : (encN (l.take k)).length = k := by rw [encN_length, List.length_take]; omega
    have l2 : (encN (l.drop k)).length = l.length - k := by rw [encN_length, List.length_drop]
    rw [t1, t2, l1, l2]
    simp only [List.nil_append, List.length_nil, List.length_append, List.length_cons, l1, l2]
    refine ⟨by omega, by omega, by omega, trivial, by omega, by omega, by omega, by omega, by omega, by omega, by omega, by omega, by omega, ?_⟩
    have e2 : encN (l.take k) ++ [[V.s s]] ++ encN (l.drop k) = encN (insN l s) := by rw [e]; simp [encN]
    rw [e2]; exact hQ
  refine rule_r01_Insert_0 Q (fun x0 x1 x5 => x0 = encN l ∧ x1 = s ∧ ∃ k : Nat, x5 = k ∧ k ≤ l.length ∧ ∀ i (h : i < l.length), i < k → cmpN l[i] s = -1) (fun x0 x1 x5 => l.length - x5.toNat) ?_ _ _ _ ⟨rfl, rfl, 0, rfl, Nat.zero_le _, fun i _ h => by omega⟩
  intro x0 x1 x5 hI m0 ih
  obtain ⟨e0, e1, k, e5, hk, hJ⟩ := hI
  rw [e5] at ih
  rw [e0, e1, e5]
  unfold st_r01_Insert_0
  intro hb
  rw [hl]
  refine iff_dec (fun h => ?_) (fun h _ => ?_)
  · have hk' : k < l.length := by omega
    have hx := encN_getD l k hk'
    simp only [Int.toNat_natCast, hx, List.drop_zero, List.headD_cons]
    refine ⟨by omega, by omega, r01_CompareNames_ok _ _ _ ⟨rfl, rfl, iff_dec (fun h2 => ?_) (fun h2 hb2 => iff_dec (fun _ => ⟨by omega, by omega, ?_⟩) (fun h3 => by omega))⟩⟩
    · have h2 : cmpN l[k] s < 0 := h2
      have hm : cmpN l[k] s = -1 := by rcases cmpN_cases l[k] s with h | h | h <;> omega
      rw [wrap_in _ (by omega) (by omega)]
      refine ih _ _ _ ⟨rfl, rfl, k + 1, by omega, by omega, fun i hi hik => ?_⟩ (by omega)
      rcases Nat.lt_succ_iff_lt_or_eq.1 hik with h | h
      · exact hJ i hi h
      · subst h; exact hm
    · have h2 : ¬ cmpN l[k] s < 0 := h2
      show iff (l[k].toList == s.toList) _ _
      rw [ba_beq]
      refine iff_dec (fun h4 => ⟨trivial, ?_⟩) (fun h4 => here k hk hJ fun _ => ⟨by omega, h4⟩)
      have e : insN l s = l := by
        rw [insN_at s k l hk hJ, List.drop_eq_getElem_cons hk', insN, if_neg (by omega), if_pos h4]
        rw [← List.drop_eq_getElem_cons hk', List.take_append_drop]
      rw [e] at hQ
      exact hQ
  · refine iff_dec (fun h3 => by omega) (fun h3 => here k hk hJ fun h4 => by omega)
namespace Tm
mutual
def collect : Tm → List ByteArray → List ByteArray | mk n v xs, l => collectL xs (if v then insN l n else l)
def collectL : List Tm → List ByteArray → List ByteArray | [], l => l | t :: r, l => collectL r (collect t l)
end
theorem collect_eq : ∀ (t : Tm) (l : List ByteArray), collect t l = collectL t.args (if t.var then insN l t.name else l) | mk _ _ _, _ => rfl
theorem collectL_append : ∀ (a b : List Tm) (l : List ByteArray), collectL (a ++ b) l = collectL b (collectL a l)
  | [], _, _ => rfl
  | t :: r, b, l => by rw [List.cons_append, collectL, collectL, collectL_append r b]
theorem collectL_take (a : List Tm) (k : Nat) (h : k < a.length) (l : List ByteArray) : collectL (a.take (k + 1)) l = collect a[k] (collectL (a.take k) l) := by
  rw [List.take_succ_eq_append_getElem h, collectL_append]; rfl
theorem collectL_length : ∀ (a : List Tm), (∀ t ∈ a, ∀ l, (collect t l).length ≤ l.length + t.size) → ∀ l, (collectL a l).length ≤ l.length + sizeL a
  | [], _, l => by simp [collectL, sizeL]
  | t :: r, h, l => by
    have h1 := h t (by simp) l
    have h2 := collectL_length r (fun t ht => h t (List.mem_cons_of_mem _ ht)) (collect t l)
    simp only [collectL, sizeL]; omega
theorem collect_length : ∀ (t : Tm) (l : List ByteArray), (collect t l).length ≤ l.length + t.size := ind fun t ih l => by
  rw [collect_eq, size_eq]
  have h := collectL_length t.args ih (if t.var then insN l t.name else l)
  have h2 := insN_length l t.name
  by_cases hv : t.var = true
  · rw [if_pos hv] at h ⊢; omega
  · rw [if_neg hv] at h ⊢; omega
theorem collectL_len (a : List Tm) (l : List ByteArray) : (collectL a l).length ≤ l.length + sizeL a := collectL_length a (fun t _ => collect_length t) l
def vars (l : List Tm) : List ByteArray := collectL l []
end Tm
theorem r01_collect_ok : ∀ (t : Tm) (l : List ByteArray), l.length + t.size ≤ lim → Fn f_r01_collect [tD t, nsD l] (nsD (Tm.collect t l)) := Tm.ind fun t ih l hB Q hQ => by
  refine C_r01_collect _ _ _ _ _ ?_
  unfold vc_r01_collect
  have hlim : lim = 549755813888 := rfl
  have hsz := Tm.size_eq t
  rw [Tm.collect_eq] at hQ
  have rest : ∀ m : List ByteArray, m.length ≤ l.length + 1 → Q (nsD (Tm.collectL t.args m)) [] → jp_r01_collect_0 Q (.l (encN m)) t.name t.var (Tm.encL t.args) := fun m hm hQ => by
    rw [jp_r01_collect_0_s]
    intro hb
    have hl := Tm.encL_length t.args
    rw [hl] at hb ⊢
    have hls := Tm.length_sizeL t.args
    refine range_r01_collect_0 Q _ _ hb (fun k y => y = .l (encN (Tm.collectL (t.args.take k) m))) (fun k y hk hJ K hK => ?_) (fun y hJ => ?_) 0 _ (Nat.zero_le _) rfl
    · simp only [Tm.encL_getD _ k hk, Tm.enc_eq, List.drop_zero, List.headD_cons, List.tail_cons]
      subst hJ
      have h1 := Tm.collectL_len (t.args.take k) m
      have h2 := Tm.sizeL_take _ k hk
      have h3 := Tm.sizeL_take_le t.args (k + 1)
      exact ⟨by omega, by omega, ih _ (List.getElem_mem hk) _ (by omega) _ ⟨rfl, rfl, hK _ (by rw [Tm.collectL_take _ k hk]; rfl)⟩⟩
    · subst hJ
      rw [List.take_length]
      exact ⟨trivial, hQ⟩
  refine iff_intro (fun h => ?_) (fun h => ?_)
  · rw [if_pos h] at hQ
    exact r01_Insert_ok l _ (by have := Tm.size_pos t; omega) _ ⟨rfl, rfl, rest _ (insN_length _ _) hQ⟩
  · rw [if_neg (by rw [h]; simp)] at hQ
    exact rest l (by omega) hQ
theorem r01_Vars_ok (l : List Tm) (hB : Tm.sizeL l ≤ lim) : Fn f_r01_Vars [tsD l] (nsD (Tm.vars l)) := fun Q hQ => by
  refine C_r01_Vars _ _ fun hb => ?_
  have hl := Tm.encL_length l
  rw [hl] at hb ⊢
  have hlim : lim = 549755813888 := rfl
  have hls := Tm.length_sizeL l
  refine range_r01_Vars_0 Q _ _ hb (fun k y => y = .l (encN (Tm.collectL (l.take k) []))) (fun k y hk hJ K hK => ?_) (fun y hJ => ?_) 0 _ (Nat.zero_le _) rfl
  · simp only [Tm.encL_getD _ k hk, Tm.enc_eq, List.drop_zero, List.headD_cons, List.tail_cons]
    subst hJ
    have h1 := Tm.collectL_len (l.take k) []
    have h2 := Tm.sizeL_take _ k hk
    have h3 := Tm.sizeL_take_le l (k + 1)
    simp only [List.length_nil] at h1
    exact ⟨by omega, by omega, r01_collect_ok _ _ (by omega) _ ⟨rfl, rfl, hK _ (by rw [Tm.collectL_take _ k hk]; rfl)⟩⟩
  · subst hJ
    rw [List.take_length]
    exact ⟨trivial, hQ⟩
open Classical in
noncomputable def sameS (l m : Su) : Bool := decide (l = m)
theorem sameS_iff {l m : Su} : sameS l m = true ↔ l = m := by unfold sameS; simp
theorem sameS_false {l m : Su} : sameS l m = false ↔ l ≠ m := by rw [← Bool.not_eq_true, sameS_iff]
theorem r01_SameSubst_ok (l m : Su) : Fn f_r01_SameSubst [suD l, suD m] (bD (sameS l m)) := fun Q hQ => by
  refine C_r01_SameSubst _ _ _ fun hb hb2 => ?_
  rw [encS_length l, encS_length m]
  rw [encS_length] at hb hb2
  have bad : l ≠ m → Q (bD false) [] := fun h => by rw [sameS_false.2 h] at hQ; exact hQ
  refine iff_bne (fun h => ⟨trivial, bad fun e => h (by rw [e])⟩) (fun h hb => ?_)
  have he : l.length = m.length := by omega
  refine range_r01_SameSubst_0 Q _ _ _ (by omega) (fun k => l.take k = m.take k) (fun k hk hJ K hK => ?_) (fun hJ => ?_) 0 (Nat.zero_le _) rfl
  · have hk2 : k < m.length := by omega
    simp only [encS_getD _ k hk, encS_getD _ k hk2, Tm.enc_eq, List.drop_zero, List.drop_succ_cons, List.headD_cons, List.tail_cons]
    rw [encS_length l, encS_length m]
    refine ⟨by omega, by omega, by omega, by omega, ?_⟩
    show iff (!((l[k]).1.toList == (m[k]).1.toList)) _ _
    rw [ba_beq]
    have hne : l[k] ≠ m[k] → l ≠ m := fun h e => h (by subst e; rfl)
    refine iff_not (iff_dec (fun h1 => ⟨by omega, by omega, by omega, by omega, r01_Equal_ok _ _ _ ⟨rfl, rfl, iff_not (iff_intro (fun h2 => hK ?_) (fun h2 => ⟨trivial, bad (hne fun e => ?_)⟩))⟩⟩) (fun h1 => ⟨trivial, bad (hne fun e => h1 (by rw [e]))⟩))
    · have h2 : Tm.eqB (l[k]).2 (m[k]).2 = true := h2
      rw [Tm.eqB_iff] at h2
      rw [List.take_succ_eq_append_getElem hk, List.take_succ_eq_append_getElem hk2, hJ, Prod.ext h1 h2]
    · have h2 : Tm.eqB (l[k]).2 (m[k]).2 = false := h2
      rw [Tm.eqB_false] at h2
      exact h2 (by rw [e])
  · rw [List.take_length, he, List.take_length] at hJ
    rw [sameS_iff.2 hJ] at hQ
    exact ⟨trivial, hQ⟩
abbrev Ru := List (Tm × Tm)
def encR (x : Tm × Tm) : List V := x.1.enc ++ x.2.enc
def encRs (l : Ru) : List (List V) := l.map encR
abbrev ruD (l : Ru) : D := .v (.sl t_Rule) (.l (encRs l))
theorem encRs_length (l : Ru) : (encRs l).length = l.length := by simp [encRs]
theorem encRs_getD (l : Ru) (k : Nat) (h : k < l.length) : (encRs l).getD k [] = [.s (l[k]).1.name, .b (l[k]).1.var, .l (Tm.encL (l[k]).1.args), .s (l[k]).2.name, .b (l[k]).2.var, .l (Tm.encL (l[k]).2.args)] := by
  rw [encRs, List.getD_eq_getElem?_getD, List.getElem?_map, List.getElem?_eq_getElem h]
  simp [encR, Tm.enc_eq]
def rulesL : Ru → Int
  | [] => 0
  | x :: r => if Tm.checkAll [x.1, x.2] ≠ 0 then Tm.checkAll [x.1, x.2] else rulesL r
def rules (l : Ru) : Int := if l.length > 64 then 3 else rulesL l
theorem rulesL_take {l : Ru} : ∀ {k : Nat} (hk : k < l.length), (∀ i (h : i < k), Tm.checkAll [(l[i]'(by omega)).1, (l[i]'(by omega)).2] = 0) → Tm.checkAll [(l[k]).1, (l[k]).2] ≠ 0 → rulesL l = Tm.checkAll [(l[k]).1, (l[k]).2] := by
  induction l with
  | nil => intro k hk; simp at hk
  | cons x r ih =>
    intro k hk h hn
    cases k with
    | zero => simp only [List.getElem_cons_zero] at hn ⊢; rw [rulesL, if_pos hn]
    | succ k =>
      have h0 := h 0 (by omega)
      simp only [List.getElem_cons_zero] at h0
      simp only [List.getElem_cons_succ] at hn ⊢
      rw [rulesL, if_neg (by simp [h0])]
      exact ih (by simpa using hk) (fun i hi => by have := h (i + 1) (by omega); simpa using this) hn
theorem rulesL_all {l : Ru} (h : ∀ i (h : i < l.length), Tm.checkAll [(l[i]).1, (l[i]).2] = 0) : rulesL l = 0 := by
  induction l with
  | nil => rfl
  | cons x r ih =>
    have h0 := h 0 (by simp)
    simp only [List.getElem_cons_zero] at h0
    rw [rulesL, if_neg (by simp [h0])]
    exact ih fun i hi => by have := h (i + 1) (by simpa using hi); simpa using this
theorem r01_Rules_ok (l : Ru) (hB : ∀ x ∈ l, x.1.size ≤ small ∧ x.2.size ≤ small) : Fn f_r01_Rules [ruD l] (iD (rules l)) := fun Q hQ => by
  refine C_r01_Rules _ _ fun hb => ?_
  have hl := encRs_length l
  rw [hl] at hb ⊢
  unfold rules at hQ
  refine iff_dec (fun h => ⟨trivial, ?_⟩) (fun h hb => ?_)
  · rw [if_pos (by omega)] at hQ; exact hQ
  · rw [if_neg (by omega)] at hQ
    refine range_r01_Rules_0 Q _ _ hb (fun k => ∀ i (h : i < l.length), i < k → Tm.checkAll [(l[i]).1, (l[i]).2] = 0) (fun k hk hJ K hK => ?_) (fun hJ => ?_) 0 (Nat.zero_le _) (fun i _ h => by omega)
    · simp only [encRs_getD _ k hk, List.drop_zero, List.headD_cons, List.tail_cons]
      have hm := hB _ (List.getElem_mem hk)
      rw [show [[V.s (l[k]).1.name, V.b (l[k]).1.var, V.l (Tm.encL (l[k]).1.args)], [V.s (l[k]).2.name, V.b (l[k]).2.var, V.l (Tm.encL (l[k]).2.args)]] = Tm.encL [(l[k]).1, (l[k]).2] by simp [Tm.encL, Tm.enc_eq]]
      refine ⟨by omega, by omega, r01_CheckAll_ok [(l[k]).1, (l[k]).2] (fun t ht => ?_) _ ⟨rfl, rfl, iff_bne (fun h2 => ⟨trivial, ?_⟩) (fun h2 => hK fun i hi hik => ?_)⟩⟩
      · simp only [List.mem_cons, List.not_mem_nil, or_false] at ht
        rcases ht with rfl | rfl
        · exact hm.1
        · exact hm.2
      · have h2 : Tm.checkAll [(l[k]).1, (l[k]).2] ≠ 0 := h2
        rw [rulesL_take hk (fun i hi => hJ i (by omega) hi) h2] at hQ
        exact hQ
      · rcases Nat.lt_succ_iff_lt_or_eq.1 hik with h8 | h8
        · exact hJ i hi h8
        · subst h8; exact h2
    · rw [rulesL_all fun i hi => hJ i hi hi] at hQ
      exact ⟨trivial, hQ⟩
end Go.Proofs.Ytgohjdaepcmonaa
set_option linter.unusedVariables false
set_option linter.unusedSimpArgs false
namespace Go.Proofs.Ytgohjdaepcmonaa
open Go.Abs
def boundS (l : Su) (x : ByteArray) : Bool := hasN (suNames l) x
theorem boundS_iff {l : Su} {x : ByteArray} : boundS l x = true ↔ ∃ y ∈ l, y.1 = x := by
  unfold boundS; rw [hasN_iff]; simp [suNames]
theorem boundS_false {l : Su} {x : ByteArray} : boundS l x = false ↔ ∀ y ∈ l, y.1 ≠ x := by
  rw [← Bool.not_eq_true, boundS_iff]
  exact ⟨fun h y hy e => h ⟨y, hy, e⟩, fun h ⟨y, hy, e⟩ => h y hy e⟩
def withS (l : Su) (v : ByteArray) (t : Tm) : Su := match l with
  | [] => [(v, t)]
  | x :: r => if cmpN x.1 v = -1 then x :: withS r v t else (v, t) :: x :: r
theorem withS_at (v : ByteArray) (t : Tm) : ∀ (k : Nat) (l : Su), k ≤ l.length → (∀ i (h : i < l.length), i < k → cmpN (l[i]).1 v = -1) → (∀ h : k < l.length, cmpN (l[k]).1 v ≠ -1) → withS l v t = l.take k ++ (v, t) :: l.drop k
  | 0, [], _, _, _ => rfl
  | 0, x :: r, _, _, h => by
    have := h (by simp)
    simp only [List.getElem_cons_zero] at this
    rw [withS, if_neg this]; rfl
  | k + 1, [], h, _, _ => by simp at h
  | k + 1, x :: r, h, hc, hn => by
    have h0 := hc 0 (by simp) (by omega)
    simp only [List.getElem_cons_zero] at h0
    rw [withS, if_pos h0, List.take_succ_cons, List.drop_succ_cons, List.cons_append, withS_at v t k r (by simpa using h) (fun i hi hk => by
      have := hc (i + 1) (by simpa using hi) (by omega); simpa using this) (fun h1 => by have := hn (by simpa using h1); simpa using this)]
theorem withS_length (l : Su) (v : ByteArray) (t : Tm) : (withS l v t).length = l.length + 1 := by
  induction l with
  | nil => rfl
  | cons x r ih => unfold withS; split <;> simp_all
theorem withS_mem {l : Su} {v : ByteArray} {t : Tm} {y : ByteArray × Tm} : y ∈ withS l v t ↔ y = (v, t) ∨ y ∈ l := by
  induction l with
  | nil => simp [withS]
  | cons x r ih =>
    unfold withS
    split
    · rw [List.mem_cons, ih, List.mem_cons]
      constructor
      · rintro (h | h | h)
        · exact .inr (.inl h)
        · exact .inl h
        · exact .inr (.inr h)
      · rintro (h | h | h)
        · exact .inr (.inl h)
        · exact .inl h
        · exact .inr (.inr h)
    · simp
def SortS : Su → Prop
  | [] => True
  | x :: r => (∀ y ∈ r, cmpN x.1 y.1 = -1) ∧ SortS r
theorem SortS.lt : ∀ {l : Su}, SortS l → ∀ i j (hi : i < l.length) (hj : j < l.length), i < j → cmpN (l[i]).1 (l[j]).1 = -1
  | [], _, i, _, hi, _, _ => by simp at hi
  | x :: r, h, i, j, hi, hj, hij => by
    cases j with
    | zero => omega
    | succ j =>
      simp only [List.getElem_cons_succ]
      cases i with
      | zero => exact h.1 _ (List.getElem_mem _)
      | succ i => simp only [List.getElem_cons_succ]; exact SortS.lt h.2 i j (by simpa using hi) (by simpa using hj) (by omega)
theorem withS_sort {v : ByteArray} {t : Tm} : ∀ {l : Su}, SortS l → (∀ y ∈ l, y.1 ≠ v) → SortS (withS l v t)
  | [], _, _ => ⟨fun y hy => by simp at hy, trivial⟩
  | x :: r, h, hn => by
    unfold withS
    split
    · rename_i hx
      refine ⟨fun y hy => ?_, withS_sort h.2 fun y hy => hn y (List.mem_cons_of_mem _ hy)⟩
      rcases withS_mem.1 hy with rfl | hy
      · exact hx
      · exact h.1 y hy
    · rename_i hx
      have hvx : cmpN v x.1 = -1 := by
        rcases cmpN_cases x.1 v with g | g | g
        · exact absurd g.1 hx
        · exact absurd g.2 (hn x (by simp))
        · exact g.2
      refine ⟨fun y hy => ?_, h⟩
      rcases List.mem_cons.1 hy with rfl | hy
      · exact hvx
      · exact cmpN_trans hvx (h.1 y hy)
theorem image_bound {l : Su} {x : ByteArray} (h : boundS l x = true) : ∃ y ∈ l, y.1 = x ∧ Tm.image l x = y.2 := by
  induction l with
  | nil => simp [boundS, hasN, suNames] at h
  | cons y r ih =>
    by_cases hy : y.1 = x
    · exact ⟨y, by simp, hy, by rw [Tm.image, if_pos hy]⟩
    · rw [boundS_iff] at h
      obtain ⟨z, hz, hzx⟩ := h
      rcases List.mem_cons.1 hz with rfl | hz
      · exact absurd hzx hy
      · obtain ⟨w, h1, h2, h3⟩ := ih (boundS_iff.2 ⟨z, hz, hzx⟩)
        exact ⟨w, List.mem_cons_of_mem _ h1, h2, by rw [Tm.image, if_neg hy]; exact h3⟩
theorem image_sort {l : Su} (h : SortS l) {y : ByteArray × Tm} (hy : y ∈ l) : Tm.image l y.1 = y.2 := by
  induction l with
  | nil => simp at hy
  | cons x r ih =>
    rcases List.mem_cons.1 hy with rfl | hy
    · rw [Tm.image, if_pos rfl]
    · have hne : x.1 ≠ y.1 := fun e => by
        have := h.1 y hy
        rw [e, cmpN_self] at this; omega
      rw [Tm.image, if_neg hne]; exact ih h.2 hy
theorem image_free {l : Su} {x : ByteArray} (h : boundS l x = false) : Tm.image l x = .mk x true [] := by
  induction l with
  | nil => rfl
  | cons y r ih =>
    rw [boundS_false] at h
    rw [Tm.image, if_neg (h y (by simp))]
    exact ih (boundS_false.2 fun z hz => h z (List.mem_cons_of_mem _ hz))
theorem encS_take (l : Su) (k : Nat) : encS (l.take k) = (encS l).take k := by simp [encS, List.map_take]
theorem encS_drop (l : Su) (k : Nat) : encS (l.drop k) = (encS l).drop k := by simp [encS, List.map_drop]
theorem encS_withS (v : ByteArray) (t : Tm) (k : Nat) (l : Su) (h1 : k ≤ l.length) (h2 : ∀ i (h : i < l.length), i < k → cmpN (l[i]).1 v = -1) (h3 : ∀ h : k < l.length, cmpN (l[k]).1 v ≠ -1) :
    encS (withS l v t) = (encS l).take k ++ (V.s v :: t.enc) :: (encS l).drop k := by
  rw [withS_at v t k l h1 h2 h3]; simp [encS, encB, List.map_take, List.map_drop]
theorem r03_Bound_ok (l : Su) (x : ByteArray) : Fn f_r03_Bound [suD l, sD x] (bD (boundS l x)) := fun Q hQ => by
  refine C_r03_Bound _ _ _ fun hb => ?_
  have hl := encS_length l
  rw [hl] at hb ⊢
  refine range_r03_Bound_0 Q _ _ _ hb (fun k => ∀ i (h : i < l.length), i < k → (l[i]).1 ≠ x) (fun k hk hJ K hK => ?_) (fun hJ => ?_) 0 (Nat.zero_le _) (fun i _ h => by omega)
  · simp only [encS_getD _ k hk, List.drop_zero, List.headD_cons, V.str]
    refine ⟨by omega, by omega, ?_⟩
    rw [ba_beq]
    refine iff_dec (fun h => ⟨trivial, ?_⟩) (fun h => hK fun i hi hik => ?_)
    · rw [boundS_iff.2 ⟨_, List.getElem_mem hk, h⟩] at hQ; exact hQ
    · rcases Nat.lt_succ_iff_lt_or_eq.1 hik with h8 | h8
      · exact hJ i hi h8
      · subst h8; exact h
  · rw [boundS_false.2 fun y hy => by
      obtain ⟨k, hk, rfl⟩ := List.mem_iff_getElem.1 hy
      exact hJ k hk hk] at hQ
    exact ⟨trivial, hQ⟩
theorem r03_with_ok (l : Su) (v : ByteArray) (t : Tm) (hB : l.length + 1 ≤ lim) : Fn f_r03_with [suD l, sD v, tD t] (suD (withS l v t)) := fun Q hQ => by
  refine C_r03_with _ _ _ _ _ _ ?_
  unfold vc_r03_with
  have hl := encS_length l
  have hlim : lim = 549755813888 := rfl
  refine rule_r03_with_0 Q (fun x0 x1 x7 y0 y1 y2 => x0 = encS l ∧ x1 = v ∧ (y0 = t.name ∧ y1 = t.var ∧ y2 = Tm.encL t.args) ∧ ∃ k : Nat, x7 = k ∧ k ≤ l.length ∧ ∀ i (h : i < l.length), i < k → cmpN (l[i]).1 v = -1) (fun x0 x1 x7 _ _ _ => l.length - x7.toNat) ?_ _ _ _ _ _ _ ⟨rfl, rfl, ⟨rfl, rfl, rfl⟩, 0, rfl, Nat.zero_le _, fun i _ h => by omega⟩
  intro x0 x1 x7 y0 y1 y2 hI m0 ih
  obtain ⟨e0, e1, ⟨e2, e3, e4⟩, k, e5, hk, hJ⟩ := hI
  rw [e5] at ih
  rw [e0, e1, e2, e3, e4, e5]
  unfold st_r03_with_0
  intro hb
  have t1 : ((encS l).take ((k : Nat) : Int).toNat).drop (0 : Int).toNat = encS (l.take k) := by simp [encS_take]
  have t2 : ((encS l).take (((encS l).length : Int)).toNat).drop ((k : Nat) : Int).toNat = encS (l.drop k) := by simp [encS_drop]
  have l1 : (encS (l.take k)).length = k := by rw [encS_length, List.length_take]; omega
  have l2 : (encS (l.drop k)).length = l.length - k := by rw [encS_length, List.length_drop]
  rw [t1, t2, l1, l2, hl]
  simp only [List.nil_append, List.length_nil, List.length_append, List.length_cons, l1, l2]
  have fin : ∀ _ : Unit, (∀ h : k < l.length, cmpN (l[k]).1 v ≠ -1) → Q (.v (.sl t_Bind) (V.l (encS (l.take k) ++ [[V.s v, V.s t.name, V.b t.var, V.l (Tm.encL t.args)]] ++ encS (l.drop k)))) [] := fun _ h => by
    have e := encS_withS v t k l hk hJ h
    have e2 : encS (l.take k) ++ [[V.s v, V.s t.name, V.b t.var, V.l (Tm.encL t.args)]] ++ encS (l.drop k) = encS (withS l v t) := by
      rw [e, encS_take, encS_drop, Tm.enc_eq]; simp
    rw [e2]; exact hQ
  refine iff_dec (fun h => ?_) (fun h => ?_)
  · have hk' : k < l.length := by omega
    have hx := encS_getD l k hk'
    simp only [Int.toNat_natCast, hx, List.drop_zero, List.headD_cons]
    refine ⟨by omega, by omega, r01_CompareNames_ok _ _ _ ⟨rfl, rfl, iff_dec (fun h2 => ?_) (fun h2 => ?_)⟩⟩
    · have h2 : cmpN (l[k]).1 v < 0 := h2
      have hm : cmpN (l[k]).1 v = -1 := by rcases cmpN_cases (l[k]).1 v with h | h | h <;> omega
      rw [wrap_in _ (by omega) (by omega)]
      refine ih _ _ _ _ _ _ ⟨rfl, rfl, ⟨rfl, rfl, rfl⟩, k + 1, by omega, by omega, fun i hi hik => ?_⟩ (by omega)
      rcases Nat.lt_succ_iff_lt_or_eq.1 hik with h | h
      · exact hJ i hi h
      · subst h; exact hm
    · have h2 : ¬ cmpN (l[k]).1 v < 0 := h2
      have h2' : cmpN (l[k]).1 v ≠ -1 := by omega
      exact ⟨by omega, by omega, by omega, trivial, by omega, by omega, by omega, by omega, by omega, by omega, by omega, by omega, by omega, fin () fun _ => h2'⟩
  · exact ⟨by omega, by omega, by omega, trivial, by omega, by omega, by omega, by omega, by omega, by omega, by omega, by omega, by omega, fin () fun h4 => absurd h4 (by omega)⟩
namespace Tm
mutual
def mat : Tm → Su → Tm → Su × Bool
  | mk n v xs, s, t => if v then (if boundS s n then (s, eqB (image s n) t) else (withS s n t, true)) else
      if t.var || !(decide (t.name = n)) || !(decide (t.args.length = xs.length)) then ([], false) else matL xs s t.args
def matL : List Tm → Su → List Tm → Su × Bool
  | [], s, _ => (s, true)
  | p :: r, s, ts => match ts with
    | [] => (s, true)
    | t :: ts => if (mat p s t).2 then matL r (mat p s t).1 ts else ([], false)
end
theorem mat_eq : ∀ (p : Tm) (s : Su) (t : Tm), mat p s t = if p.var then (if boundS s p.name then (s, eqB (image s p.name) t) else (withS s p.name t, true)) else
      if t.var || !(decide (t.name = p.name)) || !(decide (t.args.length = p.args.length)) then ([], false) else matL p.args s t.args
  | mk _ _ _, _, _ => rfl
theorem matL_length : ∀ (ps : List Tm), (∀ p ∈ ps, ∀ (s : Su) (t : Tm), (mat p s t).1.length ≤ s.length + p.size) → ∀ (s : Su) (ts : List Tm), (matL ps s ts).1.length ≤ s.length + sizeL ps
  | [], _, s, ts => by simp [matL, sizeL]
  | p :: r, h, s, [] => by simp [matL]
  | p :: r, h, s, t :: ts => by
    have h1 := h p (by simp) s t
    have h2 := matL_length r (fun q hq => h q (List.mem_cons_of_mem _ hq)) (mat p s t).1 ts
    simp only [matL, sizeL]
    split
    · omega
    · simp
theorem mat_length : ∀ (p : Tm) (s : Su) (t : Tm), (mat p s t).1.length ≤ s.length + p.size := ind fun p ih s t => by
  rw [mat_eq]
  have h := matL_length p.args ih s t.args
  have hz := size_eq p
  split
  · split
    · show s.length ≤ _; omega
    · show (withS s p.name t).length ≤ _
      rw [withS_length]; have := size_pos p; omega
  · split
    · simp
    · omega
def matK (ps : List Tm) (s : Su) (ts : List Tm) (k : Nat) : Su × Bool := matL (ps.take k) s ts
theorem matL_step : ∀ (k : Nat) (ps : List Tm) (s : Su) (ts : List Tm) (h1 : k < ps.length) (h2 : k < ts.length), (matK ps s ts k).2 = true → matK ps s ts (k + 1) = if (mat ps[k] (matK ps s ts k).1 ts[k]).2 then mat ps[k] (matK ps s ts k).1 ts[k] else ([], false)
  | 0, p :: r, s, t :: ts, _, _, _ => by
    simp only [matK, List.take_succ_cons, List.take_zero, matL, List.getElem_cons_zero]
    split
    · rename_i h; rw [← h]
    · rfl
  | k + 1, p :: r, s, t :: ts, h1, h2, h => by
    simp only [matK, List.take_succ_cons, matL, List.getElem_cons_succ] at h ⊢
    split
    · rename_i hm
      rw [if_pos hm] at h
      have := matL_step k r (mat p s t).1 ts (by simpa using h1) (by simpa using h2) h
      exact this
    · rename_i hm
      rw [if_neg hm] at h; cases h
theorem matK_false : ∀ (k : Nat) (ps : List Tm) (s : Su) (ts : List Tm), k ≤ ps.length → (matK ps s ts k).2 = false → matL ps s ts = ([], false)
  | 0, ps, s, ts, _, h => by simp [matK, matL] at h
  | k + 1, p :: r, s, [], hk, h => by simp [matK, matL] at h
  | k + 1, p :: r, s, t :: ts, hk, h => by
    simp only [matK, List.take_succ_cons, matL] at h ⊢
    split
    · rename_i hm
      rw [if_pos hm] at h
      exact matK_false k r _ ts (by simpa using hk) h
    · rfl
theorem matK_length (ps : List Tm) (s : Su) (ts : List Tm) (k : Nat) : (matK ps s ts k).1.length ≤ s.length + sizeL (ps.take k) := matL_length _ (fun p _ => mat_length p) s ts
end Tm
theorem r03_match_ok : ∀ (p : Tm) (s : Su) (t : Tm), s.length + p.size ≤ lim → Fn f_r03_match [suD s, tD p, tD t] (.tup [suD (Tm.mat p s t).1, bD (Tm.mat p s t).2]) := Tm.ind fun p ih s t hB => Fn.as fun Q hQ => by
  refine C_r03_match _ _ _ _ _ _ _ _ ?_
  unfold vc_r03_match
  have hlim : lim = 549755813888 := rfl
  have hsz := Tm.size_eq p
  have hp := Tm.size_pos p
  rw [Tm.mat_eq] at hQ
  have bad : (if p.var then (if boundS s p.name then (s, Tm.eqB (Tm.image s p.name) t) else (withS s p.name t, true)) else
      if t.var || !(decide (t.name = p.name)) || !(decide (t.args.length = p.args.length)) then ([], false) else Tm.matL p.args s t.args) = (([], false) : Su × Bool) → Q (.tup [.nil, .v .bool (V.b false)]) [] := fun h => by
    rw [h] at hQ
    refine hQ _ (.tup _ _ rfl fun j => ?_)
    match j with
    | 0 => exact .nil _ _ rfl
    | 1 => exact .refl _
    | j + 2 => exact .refl _
  refine iff_intro (fun h => ?_) (fun h => ?_)
  · rw [if_pos h] at hQ
    refine r03_Bound_ok s p.name _ ⟨rfl, rfl, iff_intro (fun h1 => ?_) (fun h1 => ?_)⟩
    · have h1 : boundS s p.name = true := h1
      rw [if_pos h1] at hQ
      exact ⟨tD (Tm.image s p.name), (r01_Image_ok s p.name).here rfl, r01_Equal_ok _ _ _ ⟨rfl, rfl, ⟨trivial, trivial, trivial⟩, hQ _ (.refl _)⟩⟩
    · have h1 : boundS s p.name = false := h1
      rw [if_neg (by rw [h1]; simp)] at hQ
      exact r03_with_ok s p.name t (by omega) _ ⟨rfl, rfl, ⟨trivial, trivial, trivial⟩, hQ _ (.refl _)⟩
  · rw [if_neg (by rw [h]; simp)] at hQ bad
    refine iff_intro (fun h1 => ⟨⟨trivial, trivial, trivial⟩, bad (by rw [h1]; rfl)⟩) (fun h1 => ?_)
    rw [ba_beq]
    refine iff_not (iff_dec (fun h2 hb hb2 => ?_) (fun h2 => ⟨⟨trivial, trivial, trivial⟩, bad (by rw [h1, decide_eq_false h2]; rfl)⟩))
    have l1 := Tm.encL_length t.args
    have l2 := Tm.encL_length p.args
    rw [l1, l2]
    rw [l1] at hb
    refine iff_bne (fun h3 => ⟨⟨trivial, trivial, trivial⟩, bad (by rw [h1, decide_eq_true h2, decide_eq_false (show ¬ t.args.length = p.args.length by omega)]; rfl)⟩) (fun h3 => ?_)
    have h3 : t.args.length = p.args.length := by omega
    rw [h1, decide_eq_true h2, decide_eq_true h3] at hQ bad
    simp only [Bool.not_true, Bool.or_false, Bool.false_eq_true, if_false] at hQ bad
    rw [jp_r03_match_0_s]
    intro _
    rw [l1]
    refine range_r03_match_0 Q _ _ _ _ _ _ _ hb (fun k y => y = .l (encS (Tm.matK p.args s t.args k).1) ∧ (Tm.matK p.args s t.args k).2 = true) (fun k y hk hJ K hK => ?_) (fun y hJ => ?_) 0 _ (Nat.zero_le _) ⟨rfl, rfl⟩
    · have hk2 : k < p.args.length := by omega
      obtain ⟨rfl, hJ⟩ := hJ
      simp only [Tm.encL_getD _ k hk, Tm.encL_getD _ k hk2, Tm.enc_eq, List.drop_zero, List.headD_cons, List.tail_cons]
      have hst := Tm.matL_step k p.args s t.args hk2 hk hJ
      have hlen := Tm.matK_length p.args s t.args k
      have g1 := Tm.sizeL_take _ k hk2
      have g2 := Tm.sizeL_take_le p.args (k + 1)
      refine ⟨by omega, by omega, by omega, by omega, .tup [suD _, bD _], (ih _ (List.getElem_mem hk2) (Tm.matK p.args s t.args k).1 (t.args[k]) (by omega)).here rfl, ?_⟩
      refine iff_not (iff_intro (fun h4 => hK _ ⟨?_, ?_⟩) (fun h4 => ⟨⟨trivial, trivial, trivial⟩, bad ?_⟩))
      · have h4 : (Tm.mat (p.args[k]) (Tm.matK p.args s t.args k).1 (t.args[k])).2 = true := h4
        rw [hst, if_pos h4]; rfl
      · have h4 : (Tm.mat (p.args[k]) (Tm.matK p.args s t.args k).1 (t.args[k])).2 = true := h4
        rw [hst, if_pos h4]; exact h4
      · have h4 : (Tm.mat (p.args[k]) (Tm.matK p.args s t.args k).1 (t.args[k])).2 = false := h4
        exact Tm.matK_false (k + 1) _ _ _ hk2 (by rw [hst, if_neg (by rw [h4]; simp)])
    · obtain ⟨rfl, hJ⟩ := hJ
      have e : Tm.matK p.args s t.args t.args.length = Tm.matL p.args s t.args := by rw [Tm.matK, h3, List.take_length]
      rw [e] at hJ ⊢
      rw [hJ] at hQ
      exact ⟨⟨trivial, trivial, trivial⟩, hQ _ (.refl _)⟩
theorem r03_Match_ok (p t : Tm) (hB : p.size ≤ lim) : Fn f_r03_Match [tD p, tD t] (.tup [suD (Tm.mat p [] t).1, bD (Tm.mat p [] t).2]) := fun Q hQ => by
  refine C_r03_Match _ _ _ _ _ _ _ ?_
  unfold vc_r03_Match
  exact r03_match_ok p [] t (by simpa using hB) _ ⟨rfl, rfl, ⟨trivial, trivial, trivial⟩, hQ⟩
end Go.Proofs.Ytgohjdaepcmonaa
set_option linter.unusedVariables false
set_option linter.unusedSimpArgs false
namespace Go.Proofs.Ytgohjdaepcmonaa
open Go.Abs
def idx {α : Type} (p : α → Bool) (l : List α) : Int := match l.findIdx? p with | some i => i | none => -1
theorem idx_at {α : Type} {p : α → Bool} {l : List α} {k : Nat} (hk : k < l.length) (h : (l.take k).any p = false) (hp : p l[k] = true) : idx p l = k := by
  have e : l.findIdx? p = some k := by
    rw [List.findIdx?_eq_some_iff_getElem]
    refine ⟨hk, hp, fun j hj => ?_⟩
    have := List.any_eq_false.1 h (l[j]'(by omega)) (List.mem_take_iff_getElem.2 ⟨j, by omega, rfl⟩)
    exact this
  unfold idx; rw [e]
theorem idx_none {α : Type} {p : α → Bool} {l : List α} (h : l.any p = false) : idx p l = -1 := by
  have e : l.findIdx? p = none := by
    rw [List.findIdx?_eq_none_iff]
    intro x hx
    have := List.any_eq_false.1 h x hx
    simpa using this
  unfold idx; rw [e]
theorem idx_any {α : Type} (p : α → Bool) (l : List α) : decide (idx p l ≥ 0) = l.any p := by
  cases h : l.any p with
  | false => rw [idx_none h]; rfl
  | true =>
    unfold idx
    cases e : l.findIdx? p with
    | some i => exact decide_eq_true (by show (i : Int) ≥ 0; omega)
    | none =>
      rw [List.findIdx?_eq_none_iff] at e
      obtain ⟨x, hx, hp⟩ := List.any_eq_true.1 h
      rw [e x hx] at hp; cases hp
theorem any_take {α : Type} {p : α → Bool} {l : List α} {k : Nat} (hk : k < l.length) (h : (l.take k).any p = false) (hp : p l[k] = false) : (l.take (k + 1)).any p = false := by
  rw [List.take_succ_eq_append_getElem hk, List.any_append, h, List.any_cons, List.any_nil, hp]; rfl
theorem term_inName_ok (c : Int) : Fn f_term_inName [uD c] (bD (letterB c)) := by
  intro Q hQ
  refine C_term_inName _ _ ?_
  have key : ∀ b, b = letterB c → True ∧ Q (bD b) [] := by rintro _ rfl; exact ⟨trivial, hQ⟩
  unfold vc_term_inName
  repeat' (first | (refine iff_dec (fun _ => ?_) (fun _ => ?_)) | (refine iff_beq (fun _ => ?_) (fun _ => ?_)) | fail)
  all_goals
    refine key _ ?_
    unfold letterB
    rw [Bool.eq_iff_iff]
    simp only [decide_eq_true_iff, beq_iff_eq, true_iff]
    omega
theorem term_IsName_1_ok (c : Int) : Fn f_term_IsName_1 [uD c] (bD (!letterB c)) := fun Q hQ => by
  refine C_term_IsName_1 _ _ ?_
  unfold vc_term_IsName_1
  exact term_inName_ok c _ ⟨rfl, rfl, trivial, hQ⟩
theorem stringslite_HasSuffix_ok (a b : ByteArray) : Fn f_stringslite_HasSuffix [sD a, sD b] (bD (decide (b.data.toList <:+ a.data.toList))) := fun Q hQ => by
  refine C_stringslite_HasSuffix _ _ _ fun ha hb => ?_
  rw [big_eq] at ha hb
  have hla := ba_size a
  have hlb := ba_size b
  refine iff_dec (fun h _ _ => ?_) (fun h => ⟨trivial, ?_⟩)
  · rw [wrap_in _ (by omega) (by omega)]
    refine ⟨by omega, by omega, by omega, trivial, ?_⟩
    rw [ba_beq]
    have e : (a.extract ((a.size : Int) - (b.size : Int)).toNat ((a.size : Int)).toNat = b) ↔ b.data.toList <:+ a.data.toList := by
      rw [List.suffix_iff_eq_drop, ← ba_eq_iff, extract_list, List.take_of_length_le (by omega)]
      have : ((a.size : Int) - (b.size : Int)).toNat = a.data.toList.length - b.data.toList.length := by omega
      rw [this]
      exact eq_comm
    rw [decide_eq_decide.2 e]
    exact hQ
  · have : ¬ b.data.toList <:+ a.data.toList := fun h2 => by have := h2.length_le; omega
    rw [decide_eq_false this] at hQ
    exact hQ
def trim (a b : ByteArray) : ByteArray := if b.data.toList <:+ a.data.toList then a.extract 0 (a.size - b.size) else a
theorem stringslite_TrimSuffix_ok (a b : ByteArray) : Fn f_stringslite_TrimSuffix [sD a, sD b] (sD (trim a b)) := fun Q hQ => by
  refine C_stringslite_TrimSuffix _ _ _ ?_
  unfold vc_stringslite_TrimSuffix
  unfold trim at hQ
  refine stringslite_HasSuffix_ok a b _ ⟨rfl, rfl, iff_dec (fun h ha hb => ?_) (fun h => ⟨trivial, ?_⟩)⟩
  · rw [if_pos h] at hQ
    rw [big_eq] at ha hb
    have hla := ba_size a
    have hlb := ba_size b
    have := h.length_le
    rw [wrap_in _ (by omega) (by omega)]
    refine ⟨by omega, by omega, by omega, trivial, ?_⟩
    have e : ((a.size : Int) - (b.size : Int)).toNat = a.size - b.size := by omega
    rw [e]; exact hQ
  · rw [if_neg h] at hQ; exact hQ
theorem strings_TrimSuffix_ok (a b : ByteArray) : Fn f_strings_TrimSuffix [sD a, sD b] (sD (trim a b)) := fun Q hQ => by
  refine C_strings_TrimSuffix _ _ _ ?_
  unfold vc_strings_TrimSuffix
  exact stringslite_TrimSuffix_ok a b _ ⟨rfl, rfl, trivial, hQ⟩
theorem bytesV_getD (s : ByteArray) (k : Nat) (h : k < s.data.toList.length) : (bytesV s).getD k [] = [.i ((s.data.toList[k]).toNat : Int)] := by
  rw [bytesV, List.getD_eq_getElem?_getD, List.getElem?_map, List.getElem?_eq_getElem h]; rfl
theorem slices_IndexFunc_byte_ok (s : ByteArray) : Fn f_slices_IndexFunc_byte [.v (.sl t_uint8) (.l (bytesV s)), .fn f_term_IsName_1 []] (iD (idx (fun c : UInt8 => !letterB (c.toNat : Int)) s.data.toList)) := fun Q hQ => by
  refine C_slices_IndexFunc_byte_termIsName1 _ _ fun hb => ?_
  have hl : (bytesV s).length = s.data.toList.length := by simp [bytesV]
  rw [hl] at hb ⊢
  refine range_slices_IndexFunc_byte_termIsName1_0 Q _ _ hb (fun k => (s.data.toList.take k).any (fun c : UInt8 => !letterB (c.toNat : Int)) = false) (fun k hk hJ K hK => ?_) (fun hJ => ⟨trivial, ?_⟩) 0 (Nat.zero_le _) rfl
  · simp only [bytesV_getD _ k hk, List.drop_zero, List.headD_cons]
    refine ⟨by omega, by omega, term_IsName_1_ok _ _ ⟨rfl, rfl, iff_intro (fun h => ⟨trivial, ?_⟩) (fun h => hK (any_take hk hJ h))⟩⟩
    rw [idx_at hk hJ h] at hQ
    exact hQ
  · rw [List.take_length] at hJ
    rw [idx_none hJ] at hQ
    exact hQ
theorem slices_ContainsFunc_byte_ok (s : ByteArray) : Fn f_slices_ContainsFunc_byte [.v (.sl t_uint8) (.l (bytesV s)), .fn f_term_IsName_1 []] (bD (s.data.toList.any fun c : UInt8 => !letterB (c.toNat : Int))) := fun Q hQ => by
  refine C_slices_ContainsFunc_byte_termIsName1 _ _ ?_
  unfold vc_slices_ContainsFunc_byte_termIsName1
  refine slices_IndexFunc_byte_ok s _ ⟨rfl, rfl, trivial, ?_⟩
  rw [← idx_any] at hQ
  exact hQ
theorem hash_suffix (l : List UInt8) : ([35] <:+ l) ↔ markedL l = true := by
  unfold markedL
  rw [decide_eq_true_iff]
  constructor
  · rintro ⟨m, rfl⟩; simp
  · intro h
    have hne : l ≠ [] := by rintro rfl; simp at h
    refine ⟨l.dropLast, ?_⟩
    rw [List.getLast?_eq_some_getLast hne] at h
    have := List.dropLast_concat_getLast hne
    rw [Option.some.inj h] at this
    exact this
theorem term_IsName_ok (s : ByteArray) (m : Bool) : Fn f_term_IsName [sD s, bD m] (bD (nameOk s m)) := fun Q hQ => by
  refine C_term_IsName _ _ _ fun hb => ?_
  have hl := ba_size s
  have fin : ∀ x : ByteArray, s.size ≤ 24 → nameOk s m = (decide (0 < x.size) && lettersL x.data.toList) → jp_term_IsName_0 Q (.s x) := fun x _ hx => by
    rw [jp_term_IsName_0_s]
    unfold je_term_IsName_0
    rw [hx] at hQ
    show iff (!(x.toList == (ByteArray.mk #[]).toList)) _ _
    rw [ba_beq]
    refine iff_not (iff_dec (fun h => ⟨trivial, ?_⟩) (fun h => ?_))
    · rw [ba_nil] at h
      rw [decide_eq_false (by omega)] at hQ
      exact hQ
    · rw [ba_nil] at h
      rw [decide_eq_true (by omega)] at hQ
      refine slices_ContainsFunc_byte_ok x _ ⟨rfl, rfl, trivial, ?_⟩
      have e : (!(x.data.toList.any fun c : UInt8 => !letterB (c.toNat : Int))) = (true && lettersL x.data.toList) := by
        unfold lettersL
        rw [List.all_eq_not_any_not]; rfl
      rw [← e] at hQ
      exact hQ
  refine iff_dec (fun h => ⟨trivial, ?_⟩) (fun h => iff_intro (fun hm => ?_) (fun hm => fin s (by omega) ?_))
  · have : nameOk s m = false := by unfold nameOk; rw [decide_eq_false (by omega)]; rfl
    rw [this] at hQ; exact hQ
  · refine strings_TrimSuffix_ok s _ _ ⟨rfl, rfl, fin _ (by omega) ?_⟩
    unfold nameOk trim
    have e35 : (ByteArray.mk #[35]).data.toList = [35] := rfl
    have es : (ByteArray.mk #[35]).size = 1 := rfl
    rw [decide_eq_true (show s.size ≤ 24 by omega), hm, Bool.true_and, Bool.true_and, e35, es]
    by_cases hk : markedL s.data.toList = true
    · rw [if_pos hk, if_pos ((hash_suffix _).2 hk)]
      have hx := extract_list s 0 (s.size - 1)
      have hxs : (s.extract 0 (s.size - 1)).size = s.size - 1 := by rw [← ba_size, hx]; simp
      rw [hx, hxs, List.drop_zero, List.dropLast_eq_take]
      have h1 : decide (1 < s.size) = decide (0 < s.size - 1) := by
        rw [Bool.eq_iff_iff]; simp only [decide_eq_true_iff]; omega
      rw [h1, hl]
    · rw [if_neg hk, if_neg (fun h => hk ((hash_suffix _).1 h))]
  · unfold nameOk
    rw [decide_eq_true (show s.size ≤ 24 by omega), hm]; rfl
theorem formed_any (l : List Tm) : (!(l.any fun a => !a.formed)) = l.all Tm.formed := by rw [List.all_eq_not_any_not]
theorem term_formed_1_ok (t : Tm) (ih : Fn f_term_formed [tD t] (bD t.formed)) : Fn f_term_formed_1 [tD t] (bD (!t.formed)) := fun Q hQ => by
  refine C_term_formed_1 _ _ _ _ ?_
  unfold vc_term_formed_1
  exact ih _ ⟨rfl, rfl, trivial, hQ⟩
theorem slices_IndexFunc_Term_ok (l : List Tm) (ih : ∀ a ∈ l, Fn f_term_formed [tD a] (bD a.formed)) : Fn f_slices_IndexFunc_Term [tsD l, .fn f_term_formed_1 []] (iD (idx (fun a : Tm => !a.formed) l)) := fun Q hQ => by
  refine C_slices_IndexFunc_Term_termformed1 _ _ fun hb => ?_
  have hl := Tm.encL_length l
  rw [hl] at hb ⊢
  refine range_slices_IndexFunc_Term_termformed1_0 Q _ _ hb (fun k => (l.take k).any (fun a : Tm => !a.formed) = false) (fun k hk hJ K hK => ?_) (fun hJ => ⟨trivial, ?_⟩) 0 (Nat.zero_le _) rfl
  · simp only [Tm.encL_getD _ k hk, Tm.enc_eq, List.drop_zero, List.headD_cons, List.tail_cons]
    refine ⟨by omega, by omega, term_formed_1_ok _ (ih _ (List.getElem_mem hk)) _ ⟨rfl, rfl, iff_intro (fun h => ⟨trivial, ?_⟩) (fun h => hK (any_take hk hJ h))⟩⟩
    rw [idx_at hk hJ h] at hQ
    exact hQ
  · rw [List.take_length] at hJ
    rw [idx_none hJ] at hQ
    exact hQ
theorem slices_ContainsFunc_Term_ok (l : List Tm) (ih : ∀ a ∈ l, Fn f_term_formed [tD a] (bD a.formed)) : Fn f_slices_ContainsFunc_Term [tsD l, .fn f_term_formed_1 []] (bD (l.any fun a : Tm => !a.formed)) := fun Q hQ => by
  refine C_slices_ContainsFunc_Term_termformed1 _ _ ?_
  unfold vc_slices_ContainsFunc_Term_termformed1
  refine slices_IndexFunc_Term_ok l ih _ ⟨rfl, rfl, trivial, ?_⟩
  rw [← idx_any] at hQ
  exact hQ
theorem term_formed_ok : ∀ t : Tm, Fn f_term_formed [tD t] (bD t.formed) := Tm.ind fun t ih Q hQ => by
  refine C_term_formed _ _ _ _ ?_
  unfold vc_term_formed
  have hl := Tm.encL_length t.args
  have hf := Tm.formed_eq t
  refine iff_intro (fun hv hb => ?_) (fun hv hb => ?_)
  · rw [hv, if_pos rfl] at hf
    rw [hl]
    refine iff_beq (fun h => term_IsName_ok _ _ _ ⟨rfl, rfl, trivial, ?_⟩) (fun h => ⟨trivial, ?_⟩)
    · have : t.args.isEmpty = true := by rw [List.isEmpty_iff]; exact List.eq_nil_of_length_eq_zero (by omega)
      rw [this, Bool.and_true] at hf
      rw [hf] at hQ; exact hQ
    · have : t.args.isEmpty = false := by
        cases he : t.args.isEmpty with
        | false => rfl
        | true => rw [List.isEmpty_iff] at he; rw [he] at h; simp at h
      rw [this, Bool.and_false] at hf
      rw [hf] at hQ; exact hQ
  · rw [hv, if_neg (by simp)] at hf
    rw [hl]
    refine iff_dec (fun h => term_IsName_ok _ _ _ ⟨rfl, rfl, iff_intro (fun h2 => ?_) (fun h2 => ⟨trivial, ?_⟩)⟩) (fun h => ⟨trivial, ?_⟩)
    · have h2 : nameOk t.name true = true := h2
      rw [h2, decide_eq_true (by omega), Bool.true_and, Bool.true_and, ← formed_any] at hf
      refine slices_ContainsFunc_Term_ok t.args ih _ ⟨rfl, rfl, trivial, ?_⟩
      rw [hf] at hQ
      exact hQ
    · have h2 : nameOk t.name true = false := h2
      rw [h2] at hf
      rw [hf] at hQ; exact hQ
    · rw [decide_eq_false (by omega), Bool.and_false] at hf
      rw [hf] at hQ; exact hQ
theorem term_Size_ok : ∀ t : Tm, t.size ≤ small → Fn f_term_Size [tD t] (iD t.size) := Tm.ind fun t ih hB Q hQ => by
  refine C_term_Size _ _ _ _ fun hb => ?_
  have hl := Tm.encL_length t.args
  have hs := Tm.size_eq t
  rw [small_eq] at hB
  rw [hl] at hb ⊢
  refine range_term_Size_0 Q _ _ hb (fun k n => n = ((1 + Tm.sizeL (t.args.take k) : Nat) : Int)) (fun k n hk hJ K hK => ?_) (fun n hJ => ?_) 0 1 (Nat.zero_le _) rfl
  · simp only [Tm.encL_getD _ k hk, Tm.enc_eq, List.drop_zero, List.headD_cons, List.tail_cons]
    have hm := Tm.size_mem (List.getElem_mem hk)
    refine ⟨by omega, by omega, ih _ (List.getElem_mem hk) (by rw [small_eq]; omega) _ ⟨rfl, rfl, hK _ ?_⟩⟩
    have h1 := Tm.sizeL_take t.args k hk
    have h2 := Tm.sizeL_take_le t.args (k + 1)
    subst hJ
    show IntKind.i64.wrap (_ + ((t.args[k]).size : Int)) = _
    rw [wrap_in _ (by omega) (by omega)]
    omega
  · rw [List.take_length] at hJ
    subst hJ
    rw [hs] at hQ
    exact ⟨trivial, hQ⟩
theorem term_Depth_ok : ∀ t : Tm, t.size ≤ small → Fn f_term_Depth [tD t] (iD t.depth) := Tm.ind fun t ih hB Q hQ => by
  refine C_term_Depth _ _ _ _ fun hb => ?_
  have hl := Tm.encL_length t.args
  have hd := Tm.depth_eq t
  have hds := Tm.depth_le_size t
  rw [small_eq] at hB
  rw [hl] at hb ⊢
  refine range_term_Depth_0 Q _ _ hb (fun k n => n = (Tm.depthL (t.args.take k) : Int)) (fun k n hk hJ K hK => ?_) (fun n hJ => ?_) 0 0 (Nat.zero_le _) rfl
  · simp only [Tm.encL_getD _ k hk, Tm.enc_eq, List.drop_zero, List.headD_cons, List.tail_cons]
    have hm := Tm.size_mem (List.getElem_mem hk)
    refine ⟨by omega, by omega, ih _ (List.getElem_mem hk) (by rw [small_eq]; omega) _ ⟨rfl, rfl, hK _ ?_⟩⟩
    subst hJ
    show (if ((t.args[k]).depth : Int) > _ then ((t.args[k]).depth : Int) else _) = _
    rw [Tm.depthL_take t.args k hk]
    split <;> omega
  · rw [List.take_length] at hJ
    subst hJ
    rw [wrap_in _ (by omega) (by omega)]
    rw [hd] at hQ
    exact ⟨trivial, hQ⟩
theorem term_fits_ok (t : Tm) (hB : t.size ≤ small) : Fn f_term_fits [tD t] (bD (decide (t.size ≤ 4000 ∧ t.depth ≤ 200))) := fun Q hQ => by
  refine C_term_fits _ _ _ _ ?_
  unfold vc_term_fits
  refine term_Size_ok t hB _ ⟨rfl, rfl, iff_dec (fun h => term_Depth_ok t hB _ ⟨rfl, rfl, trivial, ?_⟩) (fun h => ⟨trivial, ?_⟩)⟩
  · have h : (t.size : Int) ≤ 4000 := h
    show Q (bD (decide ((t.depth : Int) ≤ 200))) []
    have e : decide ((t.depth : Int) ≤ 200) = decide (t.size ≤ 4000 ∧ t.depth ≤ 200) := by
      rw [Bool.eq_iff_iff]; simp only [decide_eq_true_iff]; omega
    rw [e]; exact hQ
  · have h : ¬ (t.size : Int) ≤ 4000 := h
    rw [decide_eq_false (by omega)] at hQ
    exact hQ
theorem term_Check_ok (t : Tm) (hB : t.size ≤ small) : Fn f_term_Check [tD t] (iD t.check) := fun Q hQ => by
  refine C_term_Check _ _ _ _ ?_
  unfold vc_term_Check
  unfold Tm.check at hQ
  refine term_formed_ok t _ ⟨rfl, rfl, iff_not (iff_intro (fun h => ?_) (fun h => ⟨trivial, ?_⟩))⟩
  · have h' : t.formed = true := h
    rw [h', if_pos rfl] at hQ
    refine term_fits_ok t hB _ ⟨rfl, rfl, iff_not (iff_dec (fun h2 => ⟨trivial, ?_⟩) (fun h2 => ⟨trivial, ?_⟩))⟩
    · rw [if_pos h2] at hQ; exact hQ
    · rw [if_neg h2] at hQ; exact hQ
  · have h' : t.formed = false := h
    rw [h', if_neg (by simp)] at hQ
    exact hQ
theorem term_All_ok (l : List Tm) (hB : ∀ t ∈ l, t.size ≤ small) : Fn f_term_All [tsD l] (iD (Tm.checkAll l)) := fun Q hQ => by
  refine C_term_All _ _ fun hb => ?_
  have hl := Tm.encL_length l
  rw [hl] at hb ⊢
  refine range_term_All_0 Q _ _ hb (fun k => Tm.checkAll (l.take k) = 0) (fun k hk hJ K hK => ?_) (fun hJ => ?_) 0 (Nat.zero_le _) rfl
  · simp only [Tm.encL_getD _ k hk, Tm.enc_eq, List.drop_zero, List.headD_cons, List.tail_cons]
    refine ⟨by omega, by omega, term_Check_ok _ (hB _ (List.getElem_mem hk)) _ ⟨rfl, rfl, iff_bne (fun h => ⟨trivial, ?_⟩) (fun h => hK ?_)⟩⟩
    · have h' : (l[k]).check ≠ 0 := h
      rw [checkAll_take hJ hk h'] at hQ
      exact hQ
    · have h' : (l[k]).check = 0 := h
      rw [Tm.checkAll_zero] at hJ ⊢
      rw [List.take_succ_eq_append_getElem hk]
      intro t ht
      rcases List.mem_append.1 ht with ht | ht
      · exact hJ t ht
      · rw [List.mem_singleton.1 ht]; exact h'
  · rw [List.take_length] at hJ
    rw [hJ] at hQ
    exact ⟨trivial, hQ⟩
end Go.Proofs.Ytgohjdaepcmonaa
