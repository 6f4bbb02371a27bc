/-
  What calls of the functions come to, printed by a program and checked by the kernel.
-/
import Derived.Test.YtehchnjnbbnkbaaT
set_option linter.unusedVariables false
set_option maxRecDepth 100000
namespace Go.Proofs.Ytehchnjnbbnkbaa
open Go.Abs
/-! dwindle/dwindlelaw06.fixed -/
def adj_l06_fixed : List (Nat × List Adj) := [(5, [.undef 1, .undef 6, .undef 7, .undef 10, .undef 15, .undef 16, .undef 21, .undef 22, .undef 23, .undef 24, .undef 25, .undef 26, .undef 27, .undef 28, .undef 29, .undef 30, .undef 31, .undef 32, .undef 33, .undef 34, .undef 35, .undef 36, .undef 37, .undef 38, .undef 39, .undef 40, .undef 41, .undef 42, .undef 43, .undef 44, .undef 45, .undef 46, .undef 47, .undef 48, .undef 49, .undef 50, .undef 51, .undef 52, .undef 53, .undef 54, .undef 55, .undef 56, .undef 57, .undef 58, .undef 59, .undef 60, .undef 61, .undef 62, .undef 63, .undef 64, .undef 65, .undef 66, .dead 10, .dead 34, .dead 47, .dead 52]), (14, [.undef 4, .undef 6, .undef 7, .undef 12, .undef 13, .undef 14, .undef 78, .undef 82, .undef 83, .undef 84, .undef 85, .undef 86, .undef 87, .undef 88, .undef 89, .undef 90, .undef 91, .undef 92, .undef 93, .undef 94, .undef 95, .undef 96, .dead 4, .dead 12, .dead 89]), (3000009, [.undef 6, .undef 7, .undef 21, .undef 22, .undef 23, .undef 24, .undef 25, .undef 26, .undef 27, .undef 28, .undef 29, .undef 30, .undef 31, .undef 32, .undef 33, .undef 34, .undef 35, .undef 36, .undef 37, .undef 38, .undef 39, .undef 40, .undef 41, .undef 42, .undef 43, .undef 44, .undef 45, .undef 46, .undef 47, .undef 48, .undef 49, .undef 50, .undef 51, .undef 52, .undef 53, .undef 54, .undef 55, .undef 56, .undef 57, .dead 34, .dead 47, .dead 52]), (3000013, [.undef 8, .undef 18, .undef 19, .undef 20, .undef 21, .undef 67, .undef 68, .undef 69, .undef 70, .undef 71, .undef 72, .undef 73, .undef 74, .undef 75, .undef 76, .undef 77, .dead 74, .dead 76, .dead 77])]
def cut_l06_fixed : List (Nat × Nat) := [(7, 30)]
def lit_l06_fixed : List Nat := []
def frz_l06_fixed : List (Nat × List Frz) := []
def jns_l06_fixed : List Nat := [9, 13]
def env_l06_fixed : Env := envA adj_l06_fixed cut_l06_fixed lit_l06_fixed frz_l06_fixed jns_l06_fixed
@[irreducible] def jp_l06_fixed_0 (Q : D → Heap → Prop) (m0 : Nat) (x0 : List (List V)) (x2n : Nat) (x8 : Bool) (x18n : Nat) (x19 : Int) (x20 : Int) (y4_0 : ByteArray) (y4_1 : Bool) (y4_2 : List (List V)) (y10_0 : V) (y10_1 : V) (h0 : List (List V)) : Prop :=
  joinM (evCode env_l06_fixed (fnAt [1, 1, 1, 0, 1, 0, 0, 1, 1, 0, 0, 1, 1] Try.f21)) ⟨[.v (.sl t_Rank) (V.l x0), .undef, .osl (.own 0) x2n, .skip, .ptr (.loc 4) 0, .skip, .undef, .undef, .v .bool (V.b x8), .skip, .ptr (.loc 10) 0, .skip, .skip, .skip, .skip, .undef, .undef, .skip, .osl (.own 0) x18n, .v (.int .i64) (V.i x19), .v (.int .i64) (V.i x20), .undef, .undef, .undef, .undef, .undef, .undef, .undef, .undef, .undef, .undef, .undef, .undef, .undef, .undef, .undef, .undef, .undef, .undef, .undef, .undef, .undef, .undef, .undef, .undef, .undef, .undef, .undef, .undef, .undef, .undef, .undef, .undef, .undef, .undef, .undef, .undef, .undef, .undef, .undef, .undef, .undef, .undef, .undef, .undef, .undef, .undef, .skip, .skip, .skip, .skip, .skip, .skip, .skip, .skip, .skip, .skip, .skip, .skip, .skip, .skip, .skip, .skip, .skip, .skip, .skip, .skip, .skip, .skip, .skip, .skip, .skip, .skip, .skip, .skip, .skip, .skip, .skip], [.dead, .dead, .dead, .dead, .cells [.v .str (V.s y4_0), .v .bool (V.b y4_1), .v (.sl t_Term) (V.l y4_2)], .dead, .dead, .dead, .dead, .dead, .cells [.v .str (y10_0), .v (.int .i64) (y10_1)], .dead, .dead, .dead, .dead, .dead, .dead, .dead, .dead, .dead, .dead, .dead, .dead, .dead, .dead, .dead, .dead, .dead, .dead, .dead, .dead, .dead, .dead, .dead, .dead, .dead, .dead, .dead, .dead, .dead, .dead, .dead, .dead, .dead, .dead, .dead, .dead, .dead, .dead, .dead, .dead, .dead, .dead, .dead, .dead, .dead, .dead, .dead, .dead, .dead, .dead, .dead, .dead, .dead, .dead, .dead, .dead, .dead, .dead, .dead, .dead, .dead, .dead, .dead, .dead, .dead, .dead, .dead, .dead, .dead, .dead, .dead, .dead, .dead, .dead, .dead, .dead, .dead, .dead, .dead, .dead, .dead, .dead, .dead, .dead, .dead, .dead, .dead]⟩ [.row t_Symbol h0] (blockK 1 (seqK (adj (adjLook adj_l06_fixed (3000000 + key (fnAt [1, 1, 1, 0, 1, 0, 0, 1, 1, 1] Try.f21)))) (joinIf (env_l06_fixed.join (key (fnAt [1, 1, 1, 0, 1, 0, 0, 1, 1, 1] Try.f21))) (evCode env_l06_fixed (fnAt [1, 1, 1, 0, 1, 0, 0, 1, 1, 1] Try.f21))) (loopK (adj (adjLook adj_l06_fixed 5)) (iter (adj (adjLook adj_l06_fixed 5)) (evCode env_l06_fixed (fnAt [1, 1, 1, 0, 1, 0, 0] Try.f21)) (blockK 0 (seqK (adj (adjLook adj_l06_fixed (3000000 + key (fnAt [1, 1, 1, 1] Try.f21)))) (joinIf (env_l06_fixed.join (key (fnAt [1, 1, 1, 1] Try.f21))) (evCode env_l06_fixed (fnAt [1, 1, 1, 1] Try.f21))) (endK env_l06_fixed Try.f21 Q))) m0) (blockK 0 (seqK (adj (adjLook adj_l06_fixed (3000000 + key (fnAt [1, 1, 1, 1] Try.f21)))) (joinIf (env_l06_fixed.join (key (fnAt [1, 1, 1, 1] Try.f21))) (evCode env_l06_fixed (fnAt [1, 1, 1, 1] Try.f21))) (endK env_l06_fixed Try.f21 Q))))))
@[irreducible] def lp_l06_fixed_1 (Q : D → Heap → Prop) (m1 : Nat) (x0 : List (List V)) (x2n : Nat) (x79 : List (List V)) (x80 : Int) (x81 : Int) (h0 : List (List V)) : Prop :=
  iter (adj (adjLook adj_l06_fixed 14)) (evCode env_l06_fixed (fnAt [1, 1, 1, 1, 1, 0, 1, 0, 0] Try.f21)) (blockK 2 (seqK (adj (adjLook adj_l06_fixed (3000000 + key (fnAt [1, 1, 1, 1, 1, 1] Try.f21)))) (joinIf (env_l06_fixed.join (key (fnAt [1, 1, 1, 1, 1, 1] Try.f21))) (evCode env_l06_fixed (fnAt [1, 1, 1, 1, 1, 1] Try.f21))) (endK env_l06_fixed Try.f21 Q))) m1 ⟨[.v (.sl t_Rank) (V.l x0), .undef, .osl (.own 0) x2n, .skip, .undef, .skip, .undef, .undef, .undef, .skip, .undef, .skip, .undef, .undef, .undef, .undef, .undef, .skip, .undef, .undef, .undef, .undef, .undef, .undef, .undef, .undef, .undef, .undef, .undef, .undef, .undef, .undef, .undef, .undef, .undef, .undef, .undef, .undef, .undef, .undef, .undef, .undef, .undef, .undef, .undef, .undef, .undef, .undef, .undef, .undef, .undef, .undef, .undef, .undef, .undef, .undef, .undef, .undef, .undef, .undef, .undef, .undef, .undef, .undef, .undef, .undef, .undef, .undef, .undef, .undef, .undef, .undef, .undef, .undef, .undef, .undef, .undef, .undef, .undef, .v (.sl t_Term) (V.l x79), .v (.int .i64) (V.i x80), .v (.int .i64) (V.i x81), .undef, .undef, .undef, .undef, .undef, .undef, .undef, .undef, .undef, .undef, .undef, .undef, .undef, .undef, .undef, .skip], [.dead, .dead, .dead, .dead, .dead, .dead, .dead, .dead, .dead, .dead, .dead, .dead, .dead, .dead, .dead, .dead, .dead, .dead, .dead, .dead, .dead, .dead, .dead, .dead, .dead, .dead, .dead, .dead, .dead, .dead, .dead, .dead, .dead, .dead, .dead, .dead, .dead, .dead, .dead, .dead, .dead, .dead, .dead, .dead, .dead, .dead, .dead, .dead, .dead, .dead, .dead, .dead, .dead, .dead, .dead, .dead, .dead, .dead, .dead, .dead, .dead, .dead, .dead, .dead, .dead, .dead, .dead, .dead, .dead, .dead, .dead, .dead, .dead, .dead, .dead, .dead, .dead, .dead, .dead, .dead, .dead, .dead, .dead, .dead, .dead, .dead, .dead, .dead, .dead, .dead, .dead, .dead, .dead, .dead, .dead, .dead, .dead, .dead]⟩ [.row t_Symbol h0]
@[irreducible] def jp_l06_fixed_1 (Q : D → Heap → Prop) (x0 : List (List V)) (x2n : Nat) (y4_0 : ByteArray) (y4_1 : Bool) (y4_2 : List (List V)) (h0 : List (List V)) : Prop :=
  joinM (evCode env_l06_fixed (fnAt [1, 1, 1, 1, 1] Try.f21)) ⟨[.v (.sl t_Rank) (V.l x0), .undef, .osl (.own 0) x2n, .skip, .ptr (.loc 4) 0, .skip, .undef, .undef, .undef, .skip, .undef, .skip, .skip, .skip, .skip, .undef, .undef, .skip, .undef, .undef, .undef, .undef, .undef, .undef, .undef, .undef, .undef, .undef, .undef, .undef, .undef, .undef, .undef, .undef, .undef, .undef, .undef, .undef, .undef, .undef, .undef, .undef, .undef, .undef, .undef, .undef, .undef, .undef, .undef, .undef, .undef, .undef, .undef, .undef, .undef, .undef, .undef, .undef, .undef, .undef, .undef, .undef, .undef, .undef, .undef, .undef, .undef, .undef, .undef, .undef, .undef, .undef, .undef, .undef, .undef, .undef, .undef, .undef, .skip, .skip, .skip, .skip, .skip, .skip, .skip, .skip, .skip, .skip, .skip, .skip, .skip, .skip, .skip, .skip, .skip, .skip, .skip, .skip], [.dead, .dead, .dead, .dead, .cells [.v .str (V.s y4_0), .v .bool (V.b y4_1), .v (.sl t_Term) (V.l y4_2)], .dead, .dead, .dead, .dead, .dead, .dead, .dead, .dead, .dead, .dead, .dead, .dead, .dead, .dead, .dead, .dead, .dead, .dead, .dead, .dead, .dead, .dead, .dead, .dead, .dead, .dead, .dead, .dead, .dead, .dead, .dead, .dead, .dead, .dead, .dead, .dead, .dead, .dead, .dead, .dead, .dead, .dead, .dead, .dead, .dead, .dead, .dead, .dead, .dead, .dead, .dead, .dead, .dead, .dead, .dead, .dead, .dead, .dead, .dead, .dead, .dead, .dead, .dead, .dead, .dead, .dead, .dead, .dead, .dead, .dead, .dead, .dead, .dead, .dead, .dead, .dead, .dead, .dead, .dead, .dead, .dead, .dead, .dead, .dead, .dead, .dead, .dead, .dead, .dead, .dead, .dead, .dead, .dead]⟩ [.row t_Symbol h0] (endK env_l06_fixed Try.f21 Q)
@[irreducible] def lp_l06_fixed_0 (Q : D → Heap → Prop) (m0 : Nat) (x0 : List (List V)) (x2n : Nat) (x8 : Bool) (x18n : Nat) (x19 : Int) (x20 : Int) (y4_0 : ByteArray) (y4_1 : Bool) (y4_2 : List (List V)) (h0 : List (List V)) : Prop :=
  iter (adj (adjLook adj_l06_fixed 5)) (evCode env_l06_fixed (fnAt [1, 1, 1, 0, 1, 0, 0] Try.f21)) (blockK 0 (seqK (adj (adjLook adj_l06_fixed (3000000 + key (fnAt [1, 1, 1, 1] Try.f21)))) (joinIf (env_l06_fixed.join (key (fnAt [1, 1, 1, 1] Try.f21))) (evCode env_l06_fixed (fnAt [1, 1, 1, 1] Try.f21))) (endK env_l06_fixed Try.f21 Q))) m0 ⟨[.v (.sl t_Rank) (V.l x0), .undef, .osl (.own 0) x2n, .skip, .ptr (.loc 4) 0, .skip, .undef, .undef, .v .bool (V.b x8), .skip, .undef, .skip, .skip, .skip, .skip, .undef, .undef, .skip, .osl (.own 0) x18n, .v (.int .i64) (V.i x19), .v (.int .i64) (V.i x20), .undef, .undef, .undef, .undef, .undef, .undef, .undef, .undef, .undef, .undef, .undef, .undef, .undef, .undef, .undef, .undef, .undef, .undef, .undef, .undef, .undef, .undef, .undef, .undef, .undef, .undef, .undef, .undef, .undef, .undef, .undef, .undef, .undef, .undef, .undef, .undef, .undef, .undef, .undef, .undef, .undef, .undef, .undef, .undef, .undef, .undef, .skip, .skip, .skip, .skip, .skip, .skip, .skip, .skip, .skip, .skip, .skip, .skip, .skip, .skip, .skip, .skip, .skip, .skip, .skip, .skip, .skip, .skip, .skip, .skip, .skip, .skip, .skip, .skip, .skip, .skip, .skip], [.dead, .dead, .dead, .dead, .cells [.v .str (V.s y4_0), .v .bool (V.b y4_1), .v (.sl t_Term) (V.l y4_2)], .dead, .dead, .dead, .dead, .dead, .dead, .dead, .dead, .dead, .dead, .dead, .dead, .dead, .dead, .dead, .dead, .dead, .dead, .dead, .dead, .dead, .dead, .dead, .dead, .dead, .dead, .dead, .dead, .dead, .dead, .dead, .dead, .dead, .dead, .dead, .dead, .dead, .dead, .dead, .dead, .dead, .dead, .dead, .dead, .dead, .dead, .dead, .dead, .dead, .dead, .dead, .dead, .dead, .dead, .dead, .dead, .dead, .dead, .dead, .dead, .dead, .dead, .dead, .dead, .dead, .dead, .dead, .dead, .dead, .dead, .dead, .dead, .dead, .dead, .dead, .dead, .dead, .dead, .dead, .dead, .dead, .dead, .dead, .dead, .dead, .dead, .dead, .dead, .dead, .dead, .dead, .dead, .dead]⟩ [.row t_Symbol h0]
def je_l06_fixed_0 (Q : D → Heap → Prop) (m0 : Nat) (x0 : List (List V)) (x2n : Nat) (x8 : Bool) (x18n : Nat) (x19 : Int) (x20 : Int) (y4_0 : ByteArray) (y4_1 : Bool) (y4_2 : List (List V)) (y10_0 : V) (y10_1 : V) (h0 : List (List V)) : Prop :=
  iff x8 (lp_l06_fixed_0 Q m0 x0 x2n true x18n x19 (IntKind.i64.wrap (x20 + (1 : Int))) y4_0 y4_1 y4_2 h0) (lp_l06_fixed_0 Q m0 x0 x2n (y10_0.str.toList == y4_0.toList) x18n x19 (IntKind.i64.wrap (x20 + (1 : Int))) y4_0 y4_1 y4_2 h0)
theorem jp_l06_fixed_0_s (Q : D → Heap → Prop) (m0 : Nat) (x0 : List (List V)) (x2n : Nat) (x8 : Bool) (x18n : Nat) (x19 : Int) (x20 : Int) (y4_0 : ByteArray) (y4_1 : Bool) (y4_2 : List (List V)) (y10_0 : V) (y10_1 : V) (h0 : List (List V)) : jp_l06_fixed_0 Q m0 x0 x2n x8 x18n x19 x20 y4_0 y4_1 y4_2 y10_0 y10_1 h0 = je_l06_fixed_0 Q m0 x0 x2n x8 x18n x19 x20 y4_0 y4_1 y4_2 y10_0 y10_1 h0 := by kernel_rfl
def st_l06_fixed_1 (Q : D → Heap → Prop) (m1 : Nat) (x0 : List (List V)) (x2n : Nat) (x79 : List (List V)) (x80 : Int) (x81 : Int) (h0 : List (List V)) : Prop :=
  iff (decide (x81 < x80)) (0 ≤ x81 ∧ x81 < x79.length ∧ cl f_l06_fixed [.v (.sl t_Rank) (V.l x0), .agg [.v .str (((x79.getD x81.toNat []).drop 0).headD V.none), .v .bool ((((x79.getD x81.toNat []).drop 0).tail).headD V.none), .v (.sl t_Term) (((((x79.getD x81.toNat []).drop 0).tail).tail).headD V.none)], .osl (.own 0) x2n] [.row t_Symbol h0] fun r1 H2 => r1 = (.tup [.osl (.own 0) ((r1.parts.headD .undef).len), .v .bool ((r1.parts.tail.headD .undef).V)]) ∧ H2 = [.row t_Symbol ((H2.headD .dead).xs)] ∧ iff (!(((r1.parts.tail.headD .undef).V).bool)) ((True ∧ True ∧ True) ∧ Q (.tup [.osl (.own 0) x2n, .v .bool (V.b false)]) [.row t_Symbol ((H2.headD .dead).xs)]) (lp_l06_fixed_1 Q m1 x0 ((r1.parts.headD .undef).len) x79 x80 (IntKind.i64.wrap (x81 + (1 : Int))) ((H2.headD .dead).xs))) ((True ∧ True ∧ True) ∧ Q (.tup [.osl (.own 0) x2n, .v .bool (V.b true)]) [.row t_Symbol h0])
theorem lp_l06_fixed_1_s (Q : D → Heap → Prop) (m1 : Nat) (x0 : List (List V)) (x2n : Nat) (x79 : List (List V)) (x80 : Int) (x81 : Int) (h0 : List (List V)) : lp_l06_fixed_1 Q (m1 + 1) x0 x2n x79 x80 x81 h0 = st_l06_fixed_1 Q m1 x0 x2n x79 x80 x81 h0 := by kernel_rfl
theorem rule_l06_fixed_1 (Q : D → Heap → Prop) (I : List (List V) → Nat → List (List V) → Int → Int → List (List V) → Prop) (μ : List (List V) → Nat → List (List V) → Int → Int → List (List V) → Nat)
    (hs : ∀ (x0 : List (List V)) (x2n : Nat) (x79 : List (List V)) (x80 : Int) (x81 : Int) (h0 : List (List V)), I x0 x2n x79 x80 x81 h0 → ∀ m1 : Nat, (∀ (x0' : List (List V)) (x2n' : Nat) (x79' : List (List V)) (x80' : Int) (x81' : Int) (h0' : List (List V)), I x0' x2n' x79' x80' x81' h0' → μ x0' x2n' x79' x80' x81' h0' < μ x0 x2n x79 x80 x81 h0 → lp_l06_fixed_1 Q m1 x0' x2n' x79' x80' x81' h0') → st_l06_fixed_1 Q m1 x0 x2n x79 x80 x81 h0) :
    ∀ (x0 : List (List V)) (x2n : Nat) (x79 : List (List V)) (x80 : Int) (x81 : Int) (h0 : List (List V)), I x0 x2n x79 x80 x81 h0 → ∃ m1, lp_l06_fixed_1 Q m1 x0 x2n x79 x80 x81 h0 := by
  have key : ∀ (n : Nat) (x0 : List (List V)) (x2n : Nat) (x79 : List (List V)) (x80 : Int) (x81 : Int) (h0 : List (List V)), μ x0 x2n x79 x80 x81 h0 < n → I x0 x2n x79 x80 x81 h0 → lp_l06_fixed_1 Q n x0 x2n x79 x80 x81 h0 := by
    intro n
    induction n with
    | zero => intro x0 x2n x79 x80 x81 h0 hm; exact absurd hm (Nat.not_lt_zero _)
    | succ n ih =>
      intro x0 x2n x79 x80 x81 h0 hm hi
      rw [lp_l06_fixed_1_s]
      exact hs x0 x2n x79 x80 x81 h0 hi n fun x0' x2n' x79' x80' x81' h0' hq hlt => ih x0' x2n' x79' x80' x81' h0' (Nat.lt_of_lt_of_le hlt (Nat.le_of_lt_succ hm)) hq
  intro x0 x2n x79 x80 x81 h0 hi
  exact ⟨μ x0 x2n x79 x80 x81 h0 + 1, key _ x0 x2n x79 x80 x81 h0 (Nat.lt_succ_self _) hi⟩
theorem range_l06_fixed_1 (Q : D → Heap → Prop) (x0 : List (List V)) (x79 : List (List V)) (n : Nat) (hb : n ≤ big) (J : Nat → Nat → List (List V) → Prop)
    (step : ∀ (k : Nat) (x2n : Nat) (h0 : List (List V)), k < n → J k x2n h0 → ∀ K : Nat → List (List V) → Prop, (∀ (x2n' : Nat) (h0' : List (List V)), J (k + 1) x2n' h0' → K x2n' h0') → (0 ≤ (k : Int) ∧ (k : Int) < x79.length ∧ cl f_l06_fixed [.v (.sl t_Rank) (V.l x0), .agg [.v .str (((x79.getD k []).drop 0).headD V.none), .v .bool ((((x79.getD k []).drop 0).tail).headD V.none), .v (.sl t_Term) (((((x79.getD k []).drop 0).tail).tail).headD V.none)], .osl (.own 0) x2n] [.row t_Symbol h0] fun r1 H2 => r1 = (.tup [.osl (.own 0) ((r1.parts.headD .undef).len), .v .bool ((r1.parts.tail.headD .undef).V)]) ∧ H2 = [.row t_Symbol ((H2.headD .dead).xs)] ∧ iff (!(((r1.parts.tail.headD .undef).V).bool)) ((True ∧ True ∧ True) ∧ Q (.tup [.osl (.own 0) x2n, .v .bool (V.b false)]) [.row t_Symbol ((H2.headD .dead).xs)]) (K ((r1.parts.headD .undef).len) ((H2.headD .dead).xs))))
    (last : ∀ (x2n : Nat) (h0 : List (List V)), J n x2n h0 → ((True ∧ True ∧ True) ∧ Q (.tup [.osl (.own 0) x2n, .v .bool (V.b true)]) [.row t_Symbol h0]))
    (k : Nat) (x2n : Nat) (h0 : List (List V)) (le0 : k ≤ n) (hj : J k x2n h0) : ∃ m1, lp_l06_fixed_1 Q m1 x0 x2n x79 (n : Int) ((k : Int)) h0 := by
  refine rule_l06_fixed_1 Q (fun x0' x2n' x79' x80' x81' h0' => x0 = x0' ∧ x79 = x79' ∧ (n : Int) = x80' ∧ ∃ k : Nat, (k : Int) = x81' ∧ k ≤ n ∧ J k x2n' h0') (fun x0' x2n' x79' x80' x81' h0' => (n : Int).toNat - x81'.toNat) ?_ x0 x2n x79 ((n : Int)) ((k : Int)) h0 ⟨rfl, rfl, rfl, k, rfl, le0, hj⟩
  rintro x0' x2n' x79' x80' x81' h0' ⟨rfl, rfl, rfl, k', rfl, hk, hj⟩ m hi
  have key : ∀ (b : Bool), b = decide ((k' : Int) < (n : Int)) → b = decide (k' < n) := fun b h => by rw [h]; simp
  by_cases hlt : k' < n
  · have hlt2 : (k' : Int) < (n : Int) := by omega
    have hw : IntKind.i64.wrap ((k' : Int) + (1 : Int)) = ((k' + 1 : Nat) : Int) := wrap_next k' (Nat.lt_of_lt_of_le hlt hb)
    refine iff_yes (decide_eq_true hlt2) ?_
    refine step k' x2n' h0' hlt hj (fun x2n'' h0'' => lp_l06_fixed_1 Q m x0 x2n'' x79 (n : Int) (IntKind.i64.wrap ((k' : Int) + (1 : Int))) h0'') (fun x2n'' h0'' h => ?_)
    show lp_l06_fixed_1 Q m x0 x2n'' x79 (n : Int) (IntKind.i64.wrap ((k' : Int) + (1 : Int))) h0''
    rw [hw]
    exact hi x0 x2n'' x79 ((n : Int)) (((k' + 1 : Nat) : Int)) h0'' ⟨rfl, rfl, rfl, k' + 1, rfl, hlt, h⟩ (by simp only [Int.toNat_natCast]; omega)
  · have he : k' = n := Nat.le_antisymm hk (Nat.le_of_not_lt hlt)
    subst he
    exact iff_no (decide_eq_false (by omega)) (last x2n' h0' hj)
def je_l06_fixed_1 (Q : D → Heap → Prop) (x0 : List (List V)) (x2n : Nat) (y4_0 : ByteArray) (y4_1 : Bool) (y4_2 : List (List V)) (h0 : List (List V)) : Prop :=
  (y4_2.length ≤ big → ∃ m1, lp_l06_fixed_1 Q m1 x0 x2n y4_2 ((y4_2.length : Int)) 0 h0)
theorem jp_l06_fixed_1_s (Q : D → Heap → Prop) (x0 : List (List V)) (x2n : Nat) (y4_0 : ByteArray) (y4_1 : Bool) (y4_2 : List (List V)) (h0 : List (List V)) : jp_l06_fixed_1 Q x0 x2n y4_0 y4_1 y4_2 h0 = je_l06_fixed_1 Q x0 x2n y4_0 y4_1 y4_2 h0 := by kernel_rfl
def st_l06_fixed_0 (Q : D → Heap → Prop) (m0 : Nat) (x0 : List (List V)) (x2n : Nat) (x8 : Bool) (x18n : Nat) (x19 : Int) (x20 : Int) (y4_0 : ByteArray) (y4_1 : Bool) (y4_2 : List (List V)) (h0 : List (List V)) : Prop :=
  iff (decide (x20 < x19)) (h0.length = x18n ∧ 0 ≤ x20 ∧ x20 < x18n ∧ h0.length = x18n ∧ x20.toNat < x18n ∧ iff (((((h0.getD x20.toNat []).drop 0).headD V.none).str).toList == y4_0.toList) (iff ((((((h0.getD x20.toNat []).drop 0).tail).headD V.none).int) != ((y4_2.length : Int))) ((True ∧ True ∧ True) ∧ Q (.tup [.osl (.own 0) x2n, .v .bool (V.b false)]) [.row t_Symbol h0]) (iff (!(((((h0.getD x20.toNat []).drop 0).headD V.none).str).toList == y4_0.toList)) ((∃ r1 : D, cl f_r06_Entry [.v (.sl t_Rank) (V.l x0), .v .str (((h0.getD x20.toNat []).drop 0).headD V.none)] [] (fun r H' => r = (.agg [.v .str ((r1.cells.headD .undef).V), .v (.int .i64) ((r1.cells.tail.headD .undef).V), .v (.int .i64) ((r1.cells.tail.tail.headD .undef).V)]) ∧ H' = []) ∧ (∃ r2 : D, cl f_r06_Entry [.v (.sl t_Rank) (V.l x0), .v .str (V.s y4_0)] [] (fun r H' => r = (.agg [.v .str ((r2.cells.headD .undef).V), .v (.int .i64) ((r2.cells.tail.headD .undef).V), .v (.int .i64) ((r2.cells.tail.tail.headD .undef).V)]) ∧ H' = []) ∧ iff ((((r1.cells.tail.headD .undef).V).int) == (((r2.cells.tail.headD .undef).V).int)) ((True ∧ True ∧ True) ∧ Q (.tup [.osl (.own 0) x2n, .v .bool (V.b false)]) [.row t_Symbol h0]) (jp_l06_fixed_0 Q m0 x0 x2n x8 x18n x19 x20 y4_0 y4_1 y4_2 (((h0.getD x20.toNat []).drop 0).headD V.none) ((((h0.getD x20.toNat []).drop 0).tail).headD V.none) h0)))) (jp_l06_fixed_0 Q m0 x0 x2n x8 x18n x19 x20 y4_0 y4_1 y4_2 (((h0.getD x20.toNat []).drop 0).headD V.none) ((((h0.getD x20.toNat []).drop 0).tail).headD V.none) h0))) (iff (!(((((h0.getD x20.toNat []).drop 0).headD V.none).str).toList == y4_0.toList)) ((∃ r3 : D, cl f_r06_Entry [.v (.sl t_Rank) (V.l x0), .v .str (((h0.getD x20.toNat []).drop 0).headD V.none)] [] (fun r H' => r = (.agg [.v .str ((r3.cells.headD .undef).V), .v (.int .i64) ((r3.cells.tail.headD .undef).V), .v (.int .i64) ((r3.cells.tail.tail.headD .undef).V)]) ∧ H' = []) ∧ (∃ r4 : D, cl f_r06_Entry [.v (.sl t_Rank) (V.l x0), .v .str (V.s y4_0)] [] (fun r H' => r = (.agg [.v .str ((r4.cells.headD .undef).V), .v (.int .i64) ((r4.cells.tail.headD .undef).V), .v (.int .i64) ((r4.cells.tail.tail.headD .undef).V)]) ∧ H' = []) ∧ iff ((((r3.cells.tail.headD .undef).V).int) == (((r4.cells.tail.headD .undef).V).int)) ((True ∧ True ∧ True) ∧ Q (.tup [.osl (.own 0) x2n, .v .bool (V.b false)]) [.row t_Symbol h0]) (jp_l06_fixed_0 Q m0 x0 x2n x8 x18n x19 x20 y4_0 y4_1 y4_2 (((h0.getD x20.toNat []).drop 0).headD V.none) ((((h0.getD x20.toNat []).drop 0).tail).headD V.none) h0)))) (jp_l06_fixed_0 Q m0 x0 x2n x8 x18n x19 x20 y4_0 y4_1 y4_2 (((h0.getD x20.toNat []).drop 0).headD V.none) ((((h0.getD x20.toNat []).drop 0).tail).headD V.none) h0))) (iff (!x8) ((y4_2.length ≤ big → h0.length = x2n ∧ x2n + ([[V.s y4_0, V.i ((y4_2.length : Int))]]).length ≤ lim ∧ jp_l06_fixed_1 Q x0 (x2n + ([[V.s y4_0, V.i ((y4_2.length : Int))]]).length) y4_0 y4_1 y4_2 (h0 ++ ([[V.s y4_0, V.i ((y4_2.length : Int))]])))) (jp_l06_fixed_1 Q x0 x2n y4_0 y4_1 y4_2 h0))
theorem lp_l06_fixed_0_s (Q : D → Heap → Prop) (m0 : Nat) (x0 : List (List V)) (x2n : Nat) (x8 : Bool) (x18n : Nat) (x19 : Int) (x20 : Int) (y4_0 : ByteArray) (y4_1 : Bool) (y4_2 : List (List V)) (h0 : List (List V)) : lp_l06_fixed_0 Q (m0 + 1) x0 x2n x8 x18n x19 x20 y4_0 y4_1 y4_2 h0 = st_l06_fixed_0 Q m0 x0 x2n x8 x18n x19 x20 y4_0 y4_1 y4_2 h0 := by kernel_rfl
theorem rule_l06_fixed_0 (Q : D → Heap → Prop) (I : List (List V) → Nat → Bool → Nat → Int → Int → ByteArray → Bool → List (List V) → List (List V) → Prop) (μ : List (List V) → Nat → Bool → Nat → Int → Int → ByteArray → Bool → List (List V) → List (List V) → Nat)
    (hs : ∀ (x0 : List (List V)) (x2n : Nat) (x8 : Bool) (x18n : Nat) (x19 : Int) (x20 : Int) (y4_0 : ByteArray) (y4_1 : Bool) (y4_2 : List (List V)) (h0 : List (List V)), I x0 x2n x8 x18n x19 x20 y4_0 y4_1 y4_2 h0 → ∀ m0 : Nat, (∀ (x0' : List (List V)) (x2n' : Nat) (x8' : Bool) (x18n' : Nat) (x19' : Int) (x20' : Int) (y4_0' : ByteArray) (y4_1' : Bool) (y4_2' : List (List V)) (h0' : List (List V)), I x0' x2n' x8' x18n' x19' x20' y4_0' y4_1' y4_2' h0' → μ x0' x2n' x8' x18n' x19' x20' y4_0' y4_1' y4_2' h0' < μ x0 x2n x8 x18n x19 x20 y4_0 y4_1 y4_2 h0 → lp_l06_fixed_0 Q m0 x0' x2n' x8' x18n' x19' x20' y4_0' y4_1' y4_2' h0') → st_l06_fixed_0 Q m0 x0 x2n x8 x18n x19 x20 y4_0 y4_1 y4_2 h0) :
    ∀ (x0 : List (List V)) (x2n : Nat) (x8 : Bool) (x18n : Nat) (x19 : Int) (x20 : Int) (y4_0 : ByteArray) (y4_1 : Bool) (y4_2 : List (List V)) (h0 : List (List V)), I x0 x2n x8 x18n x19 x20 y4_0 y4_1 y4_2 h0 → ∃ m0, lp_l06_fixed_0 Q m0 x0 x2n x8 x18n x19 x20 y4_0 y4_1 y4_2 h0 := by
  have key : ∀ (n : Nat) (x0 : List (List V)) (x2n : Nat) (x8 : Bool) (x18n : Nat) (x19 : Int) (x20 : Int) (y4_0 : ByteArray) (y4_1 : Bool) (y4_2 : List (List V)) (h0 : List (List V)), μ x0 x2n x8 x18n x19 x20 y4_0 y4_1 y4_2 h0 < n → I x0 x2n x8 x18n x19 x20 y4_0 y4_1 y4_2 h0 → lp_l06_fixed_0 Q n x0 x2n x8 x18n x19 x20 y4_0 y4_1 y4_2 h0 := by
    intro n
    induction n with
    | zero => intro x0 x2n x8 x18n x19 x20 y4_0 y4_1 y4_2 h0 hm; exact absurd hm (Nat.not_lt_zero _)
    | succ n ih =>
      intro x0 x2n x8 x18n x19 x20 y4_0 y4_1 y4_2 h0 hm hi
      rw [lp_l06_fixed_0_s]
      exact hs x0 x2n x8 x18n x19 x20 y4_0 y4_1 y4_2 h0 hi n fun x0' x2n' x8' x18n' x19' x20' y4_0' y4_1' y4_2' h0' hq hlt => ih x0' x2n' x8' x18n' x19' x20' y4_0' y4_1' y4_2' h0' (Nat.lt_of_lt_of_le hlt (Nat.le_of_lt_succ hm)) hq
  intro x0 x2n x8 x18n x19 x20 y4_0 y4_1 y4_2 h0 hi
  exact ⟨μ x0 x2n x8 x18n x19 x20 y4_0 y4_1 y4_2 h0 + 1, key _ x0 x2n x8 x18n x19 x20 y4_0 y4_1 y4_2 h0 (Nat.lt_succ_self _) hi⟩
theorem range_l06_fixed_0 (Q : D → Heap → Prop) (x0 : List (List V)) (x2n : Nat) (x18n : Nat) (y4_0 : ByteArray) (y4_1 : Bool) (y4_2 : List (List V)) (h0 : List (List V)) (n : Nat) (hb : n ≤ big) (J : Nat → Bool → Prop)
    (step : ∀ (k : Nat) (x8 : Bool), k < n → J k x8 → ∀ m0 : Nat, (∀ (x8' : Bool), J (k + 1) x8' → lp_l06_fixed_0 Q m0 x0 x2n x8' x18n (n : Int) (IntKind.i64.wrap ((k : Int) + (1 : Int))) y4_0 y4_1 y4_2 h0) → (h0.length = x18n ∧ 0 ≤ (k : Int) ∧ (k : Int) < x18n ∧ h0.length = x18n ∧ k < x18n ∧ iff (((((h0.getD k []).drop 0).headD V.none).str).toList == y4_0.toList) (iff ((((((h0.getD k []).drop 0).tail).headD V.none).int) != ((y4_2.length : Int))) ((True ∧ True ∧ True) ∧ Q (.tup [.osl (.own 0) x2n, .v .bool (V.b false)]) [.row t_Symbol h0]) (iff (!(((((h0.getD k []).drop 0).headD V.none).str).toList == y4_0.toList)) ((∃ r1 : D, cl f_r06_Entry [.v (.sl t_Rank) (V.l x0), .v .str (((h0.getD k []).drop 0).headD V.none)] [] (fun r H' => r = (.agg [.v .str ((r1.cells.headD .undef).V), .v (.int .i64) ((r1.cells.tail.headD .undef).V), .v (.int .i64) ((r1.cells.tail.tail.headD .undef).V)]) ∧ H' = []) ∧ (∃ r2 : D, cl f_r06_Entry [.v (.sl t_Rank) (V.l x0), .v .str (V.s y4_0)] [] (fun r H' => r = (.agg [.v .str ((r2.cells.headD .undef).V), .v (.int .i64) ((r2.cells.tail.headD .undef).V), .v (.int .i64) ((r2.cells.tail.tail.headD .undef).V)]) ∧ H' = []) ∧ iff ((((r1.cells.tail.headD .undef).V).int) == (((r2.cells.tail.headD .undef).V).int)) ((True ∧ True ∧ True) ∧ Q (.tup [.osl (.own 0) x2n, .v .bool (V.b false)]) [.row t_Symbol h0]) (jp_l06_fixed_0 Q m0 x0 x2n x8 x18n (n : Int) (k : Int) y4_0 y4_1 y4_2 (((h0.getD k []).drop 0).headD V.none) ((((h0.getD k []).drop 0).tail).headD V.none) h0)))) (jp_l06_fixed_0 Q m0 x0 x2n x8 x18n (n : Int) (k : Int) y4_0 y4_1 y4_2 (((h0.getD k []).drop 0).headD V.none) ((((h0.getD k []).drop 0).tail).headD V.none) h0))) (iff (!(((((h0.getD k []).drop 0).headD V.none).str).toList == y4_0.toList)) ((∃ r3 : D, cl f_r06_Entry [.v (.sl t_Rank) (V.l x0), .v .str (((h0.getD k []).drop 0).headD V.none)] [] (fun r H' => r = (.agg [.v .str ((r3.cells.headD .undef).V), .v (.int .i64) ((r3.cells.tail.headD .undef).V), .v (.int .i64) ((r3.cells.tail.tail.headD .undef).V)]) ∧ H' = []) ∧ (∃ r4 : D, cl f_r06_Entry [.v (.sl t_Rank) (V.l x0), .v .str (V.s y4_0)] [] (fun r H' => r = (.agg [.v .str ((r4.cells.headD .undef).V), .v (.int .i64) ((r4.cells.tail.headD .undef).V), .v (.int .i64) ((r4.cells.tail.tail.headD .undef).V)]) ∧ H' = []) ∧ iff ((((r3.cells.tail.headD .undef).V).int) == (((r4.cells.tail.headD .undef).V).int)) ((True ∧ True ∧ True) ∧ Q (.tup [.osl (.own 0) x2n, .v .bool (V.b false)]) [.row t_Symbol h0]) (jp_l06_fixed_0 Q m0 x0 x2n x8 x18n (n : Int) (k : Int) y4_0 y4_1 y4_2 (((h0.getD k []).drop 0).headD V.none) ((((h0.getD k []).drop 0).tail).headD V.none) h0)))) (jp_l06_fixed_0 Q m0 x0 x2n x8 x18n (n : Int) (k : Int) y4_0 y4_1 y4_2 (((h0.getD k []).drop 0).headD V.none) ((((h0.getD k []).drop 0).tail).headD V.none) h0))))
    (last : ∀ (x8 : Bool), J n x8 → (iff (!x8) ((y4_2.length ≤ big → h0.length = x2n ∧ x2n + ([[V.s y4_0, V.i ((y4_2.length : Int))]]).length ≤ lim ∧ jp_l06_fixed_1 Q x0 (x2n + ([[V.s y4_0, V.i ((y4_2.length : Int))]]).length) y4_0 y4_1 y4_2 (h0 ++ ([[V.s y4_0, V.i ((y4_2.length : Int))]])))) (jp_l06_fixed_1 Q x0 x2n y4_0 y4_1 y4_2 h0)))
    (k : Nat) (x8 : Bool) (le0 : k ≤ n) (hj : J k x8) : ∃ m0, lp_l06_fixed_0 Q m0 x0 x2n x8 x18n (n : Int) ((k : Int)) y4_0 y4_1 y4_2 h0 := by
  refine rule_l06_fixed_0 Q (fun x0' x2n' x8' x18n' x19' x20' y4_0' y4_1' y4_2' h0' => x0 = x0' ∧ x2n = x2n' ∧ x18n = x18n' ∧ (n : Int) = x19' ∧ y4_0 = y4_0' ∧ y4_1 = y4_1' ∧ y4_2 = y4_2' ∧ h0 = h0' ∧ ∃ k : Nat, (k : Int) = x20' ∧ k ≤ n ∧ J k x8') (fun x0' x2n' x8' x18n' x19' x20' y4_0' y4_1' y4_2' h0' => (n : Int).toNat - x20'.toNat) ?_ x0 x2n x8 x18n ((n : Int)) ((k : Int)) y4_0 y4_1 y4_2 h0 ⟨rfl, rfl, rfl, rfl, rfl, rfl, rfl, rfl, k, rfl, le0, hj⟩
  rintro x0' x2n' x8' x18n' x19' x20' y4_0' y4_1' y4_2' h0' ⟨rfl, rfl, rfl, rfl, rfl, rfl, rfl, rfl, k', rfl, hk, hj⟩ m hi
  have key : ∀ (b : Bool), b = decide ((k' : Int) < (n : Int)) → b = decide (k' < n) := fun b h => by rw [h]; simp
  by_cases hlt : k' < n
  · have hlt2 : (k' : Int) < (n : Int) := by omega
    have hw : IntKind.i64.wrap ((k' : Int) + (1 : Int)) = ((k' + 1 : Nat) : Int) := wrap_next k' (Nat.lt_of_lt_of_le hlt hb)
    refine iff_yes (decide_eq_true hlt2) ?_
    refine step k' x8' hlt hj m (fun x8'' h => ?_)
    show lp_l06_fixed_0 Q m x0 x2n x8'' x18n (n : Int) (IntKind.i64.wrap ((k' : Int) + (1 : Int))) y4_0 y4_1 y4_2 h0
    rw [hw]
    exact hi x0 x2n x8'' x18n ((n : Int)) (((k' + 1 : Nat) : Int)) y4_0 y4_1 y4_2 h0 ⟨rfl, rfl, rfl, rfl, rfl, rfl, rfl, rfl, k' + 1, rfl, hlt, h⟩ (by simp only [Int.toNat_natCast]; omega)
  · have he : k' = n := Nat.le_antisymm hk (Nat.le_of_not_lt hlt)
    subst he
    exact iff_no (decide_eq_false (by omega)) (last x8' hj)
def vc_l06_fixed (a0 : List (List V)) (a1_0 : ByteArray) (a1_1 : Bool) (a1_2 : List (List V)) (a2n : Nat) (h0 : List (List V)) (Q : D → Heap → Prop) : Prop :=
  iff a1_1 ((True ∧ True ∧ True) ∧ Q (.tup [.osl (.own 0) a2n, .v .bool (V.b false)]) [.row t_Symbol h0]) (h0.length = a2n ∧ (a2n ≤ big → ∃ m0, lp_l06_fixed_0 Q m0 a0 a2n false a2n (((a2n : Nat) : Int)) 0 a1_0 a1_1 a1_2 h0))
theorem C_l06_fixed (a0 : List (List V)) (a1_0 : ByteArray) (a1_1 : Bool) (a1_2 : List (List V)) (a2n : Nat) (h0 : List (List V)) (Q : D → Heap → Prop) (h : vc_l06_fixed a0 a1_0 a1_1 a1_2 a2n h0 Q) : cl f_l06_fixed [.v (.sl t_Rank) (V.l a0), .agg [.v .str (V.s a1_0), .v .bool (V.b a1_1), .v (.sl t_Term) (V.l a1_2)], .osl (.own 0) a2n] [.row t_Symbol h0] Q :=
  acalls_of_fn (envOk adj_l06_fixed cut_l06_fixed lit_l06_fixed frz_l06_fixed jns_l06_fixed) 0 Try.func21 (by rw [show evFn (envA adj_l06_fixed cut_l06_fixed lit_l06_fixed frz_l06_fixed jns_l06_fixed) Try.f21 0 [.v (.sl t_Rank) (V.l a0), .agg [.v .str (V.s a1_0), .v .bool (V.b a1_1), .v (.sl t_Term) (V.l a1_2)], .osl (.own 0) a2n] [.row t_Symbol h0] Q = vc_l06_fixed a0 a1_0 a1_1 a1_2 a2n h0 Q from by kernel_rfl]; exact h)
/-! dwindle/path.Rank -/
def adj_path_Rank : List (Nat × List Adj) := []
def cut_path_Rank : List (Nat × Nat) := []
def lit_path_Rank : List Nat := []
def frz_path_Rank : List (Nat × List Frz) := []
def jns_path_Rank : List Nat := []
def env_path_Rank : Env := envA adj_path_Rank cut_path_Rank lit_path_Rank frz_path_Rank jns_path_Rank
def vc_path_Rank (a0 : List (List V)) (a1 : ByteArray) (Q : D → Heap → Prop) : Prop :=
  cl f_path_Check [.v (.sl t_Rank) (V.l a0)] [] fun r1 H2 => r1 = (.v (.int .i64) (r1.V)) ∧ H2 = [] ∧ iff (r1.V.int != (0 : Int)) ((True ∧ True ∧ True) ∧ Q (.tup [.v (.int .i64) (V.i 0), .v (.int .i64) (r1.V)]) []) (cl f_path_Of [.v (.sl t_Rank) (V.l a0), .v .str (V.s a1)] [] fun r3 H4 => r3 = (.agg [.v .str ((r3.cells.headD .undef).V), .v (.int .i64) ((r3.cells.tail.headD .undef).V), .v (.int .i64) ((r3.cells.tail.tail.headD .undef).V)]) ∧ H4 = [] ∧ (True ∧ True ∧ True) ∧ Q (.tup [.v (.int .i64) ((r3.cells.tail.headD .undef).V), .v (.int .i64) (V.i 0)]) [])
theorem C_path_Rank (a0 : List (List V)) (a1 : ByteArray) (Q : D → Heap → Prop) (h : vc_path_Rank a0 a1 Q) : cl f_path_Rank [.v (.sl t_Rank) (V.l a0), .v .str (V.s a1)] [] Q :=
  acalls_of_fn (envOk adj_path_Rank cut_path_Rank lit_path_Rank frz_path_Rank jns_path_Rank) 0 Try.func22 (by rw [show evFn (envA adj_path_Rank cut_path_Rank lit_path_Rank frz_path_Rank jns_path_Rank) Try.f22 0 [.v (.sl t_Rank) (V.l a0), .v .str (V.s a1)] [] Q = vc_path_Rank a0 a1 Q from by kernel_rfl]; exact h)
/-! dwindle/path.Check -/
def adj_path_Check : List (Nat × List Adj) := []
def cut_path_Check : List (Nat × Nat) := []
def lit_path_Check : List Nat := []
def frz_path_Check : List (Nat × List Frz) := []
def jns_path_Check : List Nat := []
def env_path_Check : Env := envA adj_path_Check cut_path_Check lit_path_Check frz_path_Check jns_path_Check
def vc_path_Check (a0 : List (List V)) (Q : D → Heap → Prop) : Prop :=
  cl f_path_Names_Rank [.v (.sl t_Rank) (V.l a0), .fn f_path_Check_1 []] [] fun r1 H2 => r1 = (.v (.int .i64) (r1.V)) ∧ H2 = [] ∧ iff (r1.V.int != (0 : Int)) (True ∧ Q (.v (.int .i64) (r1.V)) []) (cl f_slices_ContainsFunc_Rank [.v (.sl t_Rank) (V.l a0), .fn f_path_Check_2 []] [] fun r3 H4 => r3 = (.v .bool (r3.V)) ∧ H4 = [] ∧ iff r3.V.bool (True ∧ Q (.v (.int .i64) (V.i 2)) []) (True ∧ Q (.v (.int .i64) (V.i 0)) []))
theorem C_path_Check (a0 : List (List V)) (Q : D → Heap → Prop) (h : vc_path_Check a0 Q) : cl f_path_Check [.v (.sl t_Rank) (V.l a0)] [] Q :=
  acalls_of_fn (envOk adj_path_Check cut_path_Check lit_path_Check frz_path_Check jns_path_Check) 0 Try.func23 (by rw [show evFn (envA adj_path_Check cut_path_Check lit_path_Check frz_path_Check jns_path_Check) Try.f23 0 [.v (.sl t_Rank) (V.l a0)] [] Q = vc_path_Check a0 Q from by kernel_rfl]; exact h)
/-! dwindle/dwindleref06.Entry -/
def adj_r06_Entry : List (Nat × List Adj) := [(2, [.undef 0, .undef 6, .undef 10, .undef 11, .undef 12, .undef 13, .undef 14, .undef 15, .undef 16, .undef 17, .undef 18, .dead 6])]
def cut_r06_Entry : List (Nat × Nat) := []
def lit_r06_Entry : List Nat := []
def frz_r06_Entry : List (Nat × List Frz) := []
def jns_r06_Entry : List Nat := []
def env_r06_Entry : Env := envA adj_r06_Entry cut_r06_Entry lit_r06_Entry frz_r06_Entry jns_r06_Entry
@[irreducible] def lp_r06_Entry_0 (Q : D → Heap → Prop) (m0 : Nat) (x1 : ByteArray) (x7 : List (List V)) (x8 : Int) (x9 : Int) (y4_0 : ByteArray) (y4_1 : Int) (y4_2 : Int) : Prop :=
  iter (adj (adjLook adj_r06_Entry 2)) (evCode env_r06_Entry (fnAt [1, 0, 1, 0, 0] Try.f24)) (blockK 0 (seqK (adj (adjLook adj_r06_Entry (3000000 + key (fnAt [1, 1] Try.f24)))) (joinIf (env_r06_Entry.join (key (fnAt [1, 1] Try.f24))) (evCode env_r06_Entry (fnAt [1, 1] Try.f24))) (endK env_r06_Entry Try.f24 Q))) m0 ⟨[.undef, .v .str (V.s x1), .skip, .skip, .ptr (.loc 4) 0, .skip, .undef, .v (.sl t_Rank) (V.l x7), .v (.int .i64) (V.i x8), .v (.int .i64) (V.i x9), .undef, .undef, .undef, .undef, .undef, .undef, .undef, .undef, .undef, .skip, .skip], [.dead, .dead, .dead, .dead, .cells [.v .str (V.s y4_0), .v (.int .i64) (V.i y4_1), .v (.int .i64) (V.i y4_2)], .dead, .dead, .dead, .dead, .dead, .dead, .dead, .dead, .dead, .dead, .dead, .dead, .dead, .dead, .dead, .dead]⟩ []
def st_r06_Entry_0 (Q : D → Heap → Prop) (m0 : Nat) (x1 : ByteArray) (x7 : List (List V)) (x8 : Int) (x9 : Int) (y4_0 : ByteArray) (y4_1 : Int) (y4_2 : Int) : Prop :=
  iff (decide (x9 < x8)) (0 ≤ x9 ∧ x9 < x7.length ∧ iff (((((x7.getD x9.toNat []).drop 0).headD V.none).str).toList == x1.toList) ((True ∧ True ∧ True ∧ True) ∧ Q (.agg [.v .str (((x7.getD x9.toNat []).drop 0).headD V.none), .v (.int .i64) ((((x7.getD x9.toNat []).drop 0).tail).headD V.none), .v (.int .i64) (((((x7.getD x9.toNat []).drop 0).tail).tail).headD V.none)]) []) (lp_r06_Entry_0 Q m0 x1 x7 x8 (IntKind.i64.wrap (x9 + (1 : Int))) y4_0 y4_1 y4_2)) ((True ∧ True ∧ True ∧ True) ∧ Q (.agg [.v .str (V.s x1), .v (.int .i64) (V.i 0), .v (.int .i64) (V.i 0)]) [])
theorem lp_r06_Entry_0_s (Q : D → Heap → Prop) (m0 : Nat) (x1 : ByteArray) (x7 : List (List V)) (x8 : Int) (x9 : Int) (y4_0 : ByteArray) (y4_1 : Int) (y4_2 : Int) : lp_r06_Entry_0 Q (m0 + 1) x1 x7 x8 x9 y4_0 y4_1 y4_2 = st_r06_Entry_0 Q m0 x1 x7 x8 x9 y4_0 y4_1 y4_2 := by kernel_rfl
theorem rule_r06_Entry_0 (Q : D → Heap → Prop) (I : ByteArray → List (List V) → Int → Int → ByteArray → Int → Int → Prop) (μ : ByteArray → List (List V) → Int → Int → ByteArray → Int → Int → Nat)
    (hs : ∀ (x1 : ByteArray) (x7 : List (List V)) (x8 : Int) (x9 : Int) (y4_0 : ByteArray) (y4_1 : Int) (y4_2 : Int), I x1 x7 x8 x9 y4_0 y4_1 y4_2 → ∀ m0 : Nat, (∀ (x1' : ByteArray) (x7' : List (List V)) (x8' : Int) (x9' : Int) (y4_0' : ByteArray) (y4_1' : Int) (y4_2' : Int), I x1' x7' x8' x9' y4_0' y4_1' y4_2' → μ x1' x7' x8' x9' y4_0' y4_1' y4_2' < μ x1 x7 x8 x9 y4_0 y4_1 y4_2 → lp_r06_Entry_0 Q m0 x1' x7' x8' x9' y4_0' y4_1' y4_2') → st_r06_Entry_0 Q m0 x1 x7 x8 x9 y4_0 y4_1 y4_2) :
    ∀ (x1 : ByteArray) (x7 : List (List V)) (x8 : Int) (x9 : Int) (y4_0 : ByteArray) (y4_1 : Int) (y4_2 : Int), I x1 x7 x8 x9 y4_0 y4_1 y4_2 → ∃ m0, lp_r06_Entry_0 Q m0 x1 x7 x8 x9 y4_0 y4_1 y4_2 := by
  have key : ∀ (n : Nat) (x1 : ByteArray) (x7 : List (List V)) (x8 : Int) (x9 : Int) (y4_0 : ByteArray) (y4_1 : Int) (y4_2 : Int), μ x1 x7 x8 x9 y4_0 y4_1 y4_2 < n → I x1 x7 x8 x9 y4_0 y4_1 y4_2 → lp_r06_Entry_0 Q n x1 x7 x8 x9 y4_0 y4_1 y4_2 := by
    intro n
    induction n with
    | zero => intro x1 x7 x8 x9 y4_0 y4_1 y4_2 hm; exact absurd hm (Nat.not_lt_zero _)
    | succ n ih =>
      intro x1 x7 x8 x9 y4_0 y4_1 y4_2 hm hi
      rw [lp_r06_Entry_0_s]
      exact hs x1 x7 x8 x9 y4_0 y4_1 y4_2 hi n fun x1' x7' x8' x9' y4_0' y4_1' y4_2' hq hlt => ih x1' x7' x8' x9' y4_0' y4_1' y4_2' (Nat.lt_of_lt_of_le hlt (Nat.le_of_lt_succ hm)) hq
  intro x1 x7 x8 x9 y4_0 y4_1 y4_2 hi
  exact ⟨μ x1 x7 x8 x9 y4_0 y4_1 y4_2 + 1, key _ x1 x7 x8 x9 y4_0 y4_1 y4_2 (Nat.lt_succ_self _) hi⟩
theorem range_r06_Entry_0 (Q : D → Heap → Prop) (x1 : ByteArray) (x7 : List (List V)) (y4_0 : ByteArray) (y4_1 : Int) (y4_2 : Int) (n : Nat) (hb : n ≤ big) (J : Nat → Prop)
    (step : ∀ (k : Nat), k < n → J k → ∀ K : Prop, (J (k + 1) → K) → (0 ≤ (k : Int) ∧ (k : Int) < x7.length ∧ iff (((((x7.getD k []).drop 0).headD V.none).str).toList == x1.toList) ((True ∧ True ∧ True ∧ True) ∧ Q (.agg [.v .str (((x7.getD k []).drop 0).headD V.none), .v (.int .i64) ((((x7.getD k []).drop 0).tail).headD V.none), .v (.int .i64) (((((x7.getD k []).drop 0).tail).tail).headD V.none)]) []) (K)))
    (last : J n → ((True ∧ True ∧ True ∧ True) ∧ Q (.agg [.v .str (V.s x1), .v (.int .i64) (V.i 0), .v (.int .i64) (V.i 0)]) []))
    (k : Nat) (le0 : k ≤ n) (hj : J k) : ∃ m0, lp_r06_Entry_0 Q m0 x1 x7 (n : Int) ((k : Int)) y4_0 y4_1 y4_2 := by
  refine rule_r06_Entry_0 Q (fun x1' x7' x8' x9' y4_0' y4_1' y4_2' => x1 = x1' ∧ x7 = x7' ∧ (n : Int) = x8' ∧ y4_0 = y4_0' ∧ y4_1 = y4_1' ∧ y4_2 = y4_2' ∧ ∃ k : Nat, (k : Int) = x9' ∧ k ≤ n ∧ J k) (fun x1' x7' x8' x9' y4_0' y4_1' y4_2' => (n : Int).toNat - x9'.toNat) ?_ x1 x7 ((n : Int)) ((k : Int)) y4_0 y4_1 y4_2 ⟨rfl, rfl, rfl, rfl, rfl, rfl, k, rfl, le0, hj⟩
  rintro x1' x7' x8' x9' y4_0' y4_1' y4_2' ⟨rfl, rfl, rfl, rfl, rfl, rfl, k', rfl, hk, hj⟩ m hi
  have key : ∀ (b : Bool), b = decide ((k' : Int) < (n : Int)) → b = decide (k' < n) := fun b h => by rw [h]; simp
  by_cases hlt : k' < n
  · have hlt2 : (k' : Int) < (n : Int) := by omega
    have hw : IntKind.i64.wrap ((k' : Int) + (1 : Int)) = ((k' + 1 : Nat) : Int) := wrap_next k' (Nat.lt_of_lt_of_le hlt hb)
    refine iff_yes (decide_eq_true hlt2) ?_
    refine step k' hlt hj (lp_r06_Entry_0 Q m x1 x7 (n : Int) (IntKind.i64.wrap ((k' : Int) + (1 : Int))) y4_0 y4_1 y4_2) (fun h => ?_)
    show lp_r06_Entry_0 Q m x1 x7 (n : Int) (IntKind.i64.wrap ((k' : Int) + (1 : Int))) y4_0 y4_1 y4_2
    rw [hw]
    exact hi x1 x7 ((n : Int)) (((k' + 1 : Nat) : Int)) y4_0 y4_1 y4_2 ⟨rfl, rfl, rfl, rfl, rfl, rfl, k' + 1, rfl, hlt, h⟩ (by simp only [Int.toNat_natCast]; omega)
  · have he : k' = n := Nat.le_antisymm hk (Nat.le_of_not_lt hlt)
    subst he
    exact iff_no (decide_eq_false (by omega)) (last hj)
def vc_r06_Entry (a0 : List (List V)) (a1 : ByteArray) (Q : D → Heap → Prop) : Prop :=
  (a0.length ≤ big → ∃ m0, lp_r06_Entry_0 Q m0 a1 a0 ((a0.length : Int)) 0 (ByteArray.mk #[]) 0 0)
theorem C_r06_Entry (a0 : List (List V)) (a1 : ByteArray) (Q : D → Heap → Prop) (h : vc_r06_Entry a0 a1 Q) : cl f_r06_Entry [.v (.sl t_Rank) (V.l a0), .v .str (V.s a1)] [] Q :=
  acalls_of_fn (envOk adj_r06_Entry cut_r06_Entry lit_r06_Entry frz_r06_Entry jns_r06_Entry) 0 Try.func24 (by rw [show evFn (envA adj_r06_Entry cut_r06_Entry lit_r06_Entry frz_r06_Entry jns_r06_Entry) Try.f24 0 [.v (.sl t_Rank) (V.l a0), .v .str (V.s a1)] [] Q = vc_r06_Entry a0 a1 Q from by kernel_rfl]; exact h)
/-! dwindle/term.All -/
def adj_term_All : List (Nat × List Adj) := [(2, [.undef 0, .undef 2, .undef 4, .undef 5, .undef 9, .undef 10, .undef 11, .undef 12, .undef 13, .undef 14, .undef 15, .undef 16, .undef 17, .dead 4, .dead 13])]
def cut_term_All : List (Nat × Nat) := []
def lit_term_All : List Nat := []
def frz_term_All : List (Nat × List Frz) := []
def jns_term_All : List Nat := []
def env_term_All : Env := envA adj_term_All cut_term_All lit_term_All frz_term_All jns_term_All
@[irreducible] def lp_term_All_0 (Q : D → Heap → Prop) (m0 : Nat) (x6 : List (List V)) (x7 : Int) (x8 : Int) : Prop :=
  iter (adj (adjLook adj_term_All 2)) (evCode env_term_All (fnAt [1, 0, 1, 0, 0] Try.f25)) (blockK 0 (seqK (adj (adjLook adj_term_All (3000000 + key (fnAt [1, 1] Try.f25)))) (joinIf (env_term_All.join (key (fnAt [1, 1] Try.f25))) (evCode env_term_All (fnAt [1, 1] Try.f25))) (endK env_term_All Try.f25 Q))) m0 ⟨[.undef, .skip, .undef, .skip, .undef, .undef, .v (.sl t_Term) (V.l x6), .v (.int .i64) (V.i x7), .v (.int .i64) (V.i x8), .undef, .undef, .undef, .undef, .undef, .undef, .undef, .undef, .undef], [.dead, .dead, .dead, .dead, .dead, .dead, .dead, .dead, .dead, .dead, .dead, .dead, .dead, .dead, .dead, .dead, .dead, .dead]⟩ []
def st_term_All_0 (Q : D → Heap → Prop) (m0 : Nat) (x6 : List (List V)) (x7 : Int) (x8 : Int) : Prop :=
  iff (decide (x8 < x7)) (0 ≤ x8 ∧ x8 < x6.length ∧ cl f_term_Check [.agg [.v .str (((x6.getD x8.toNat []).drop 0).headD V.none), .v .bool ((((x6.getD x8.toNat []).drop 0).tail).headD V.none), .v (.sl t_Term) (((((x6.getD x8.toNat []).drop 0).tail).tail).headD V.none)]] [] fun r1 H2 => r1 = (.v (.int .i64) (r1.V)) ∧ H2 = [] ∧ iff (r1.V.int != (0 : Int)) (True ∧ Q (.v (.int .i64) (r1.V)) []) (lp_term_All_0 Q m0 x6 x7 (IntKind.i64.wrap (x8 + (1 : Int))))) (True ∧ Q (.v (.int .i64) (V.i 0)) [])
theorem lp_term_All_0_s (Q : D → Heap → Prop) (m0 : Nat) (x6 : List (List V)) (x7 : Int) (x8 : Int) : lp_term_All_0 Q (m0 + 1) x6 x7 x8 = st_term_All_0 Q m0 x6 x7 x8 := by kernel_rfl
theorem rule_term_All_0 (Q : D → Heap → Prop) (I : List (List V) → Int → Int → Prop) (μ : List (List V) → Int → Int → Nat)
    (hs : ∀ (x6 : List (List V)) (x7 : Int) (x8 : Int), I x6 x7 x8 → ∀ m0 : Nat, (∀ (x6' : List (List V)) (x7' : Int) (x8' : Int), I x6' x7' x8' → μ x6' x7' x8' < μ x6 x7 x8 → lp_term_All_0 Q m0 x6' x7' x8') → st_term_All_0 Q m0 x6 x7 x8) :
    ∀ (x6 : List (List V)) (x7 : Int) (x8 : Int), I x6 x7 x8 → ∃ m0, lp_term_All_0 Q m0 x6 x7 x8 := by
  have key : ∀ (n : Nat) (x6 : List (List V)) (x7 : Int) (x8 : Int), μ x6 x7 x8 < n → I x6 x7 x8 → lp_term_All_0 Q n x6 x7 x8 := by
    intro n
    induction n with
    | zero => intro x6 x7 x8 hm; exact absurd hm (Nat.not_lt_zero _)
    | succ n ih =>
      intro x6 x7 x8 hm hi
      rw [lp_term_All_0_s]
      exact hs x6 x7 x8 hi n fun x6' x7' x8' hq hlt => ih x6' x7' x8' (Nat.lt_of_lt_of_le hlt (Nat.le_of_lt_succ hm)) hq
  intro x6 x7 x8 hi
  exact ⟨μ x6 x7 x8 + 1, key _ x6 x7 x8 (Nat.lt_succ_self _) hi⟩
theorem range_term_All_0 (Q : D → Heap → Prop) (x6 : List (List V)) (n : Nat) (hb : n ≤ big) (J : Nat → Prop)
    (step : ∀ (k : Nat), k < n → J k → ∀ K : Prop, (J (k + 1) → K) → (0 ≤ (k : Int) ∧ (k : Int) < x6.length ∧ cl f_term_Check [.agg [.v .str (((x6.getD k []).drop 0).headD V.none), .v .bool ((((x6.getD k []).drop 0).tail).headD V.none), .v (.sl t_Term) (((((x6.getD k []).drop 0).tail).tail).headD V.none)]] [] fun r1 H2 => r1 = (.v (.int .i64) (r1.V)) ∧ H2 = [] ∧ iff (r1.V.int != (0 : Int)) (True ∧ Q (.v (.int .i64) (r1.V)) []) (K)))
    (last : J n → (True ∧ Q (.v (.int .i64) (V.i 0)) []))
    (k : Nat) (le0 : k ≤ n) (hj : J k) : ∃ m0, lp_term_All_0 Q m0 x6 (n : Int) ((k : Int)) := by
  refine rule_term_All_0 Q (fun x6' x7' x8' => x6 = x6' ∧ (n : Int) = x7' ∧ ∃ k : Nat, (k : Int) = x8' ∧ k ≤ n ∧ J k) (fun x6' x7' x8' => (n : Int).toNat - x8'.toNat) ?_ x6 ((n : Int)) ((k : Int)) ⟨rfl, rfl, k, rfl, le0, hj⟩
  rintro x6' x7' x8' ⟨rfl, rfl, k', rfl, hk, hj⟩ m hi
  have key : ∀ (b : Bool), b = decide ((k' : Int) < (n : Int)) → b = decide (k' < n) := fun b h => by rw [h]; simp
  by_cases hlt : k' < n
  · have hlt2 : (k' : Int) < (n : Int) := by omega
    have hw : IntKind.i64.wrap ((k' : Int) + (1 : Int)) = ((k' + 1 : Nat) : Int) := wrap_next k' (Nat.lt_of_lt_of_le hlt hb)
    refine iff_yes (decide_eq_true hlt2) ?_
    refine step k' hlt hj (lp_term_All_0 Q m x6 (n : Int) (IntKind.i64.wrap ((k' : Int) + (1 : Int)))) (fun h => ?_)
    show lp_term_All_0 Q m x6 (n : Int) (IntKind.i64.wrap ((k' : Int) + (1 : Int)))
    rw [hw]
    exact hi x6 ((n : Int)) (((k' + 1 : Nat) : Int)) ⟨rfl, rfl, k' + 1, rfl, hlt, h⟩ (by simp only [Int.toNat_natCast]; omega)
  · have he : k' = n := Nat.le_antisymm hk (Nat.le_of_not_lt hlt)
    subst he
    exact iff_no (decide_eq_false (by omega)) (last hj)
def vc_term_All (a0 : List (List V)) (Q : D → Heap → Prop) : Prop :=
  (a0.length ≤ big → ∃ m0, lp_term_All_0 Q m0 a0 ((a0.length : Int)) 0)
theorem C_term_All (a0 : List (List V)) (Q : D → Heap → Prop) (h : vc_term_All a0 Q) : cl f_term_All [.v (.sl t_Term) (V.l a0)] [] Q :=
  acalls_of_fn (envOk adj_term_All cut_term_All lit_term_All frz_term_All jns_term_All) 0 Try.func25 (by rw [show evFn (envA adj_term_All cut_term_All lit_term_All frz_term_All jns_term_All) Try.f25 0 [.v (.sl t_Term) (V.l a0)] [] Q = vc_term_All a0 Q from by kernel_rfl]; exact h)
/-! dwindle/path.Above -/
def adj_path_Above : List (Nat × List Adj) := []
def cut_path_Above : List (Nat × Nat) := [(1, 3), (2, 15)]
def lit_path_Above : List Nat := []
def frz_path_Above : List (Nat × List Frz) := []
def jns_path_Above : List Nat := []
def env_path_Above : Env := envA adj_path_Above cut_path_Above lit_path_Above frz_path_Above jns_path_Above
def vc_path_Above (a0 : List (List V)) (a1_0 : ByteArray) (a1_1 : Bool) (a1_2 : List (List V)) (a2_0 : ByteArray) (a2_1 : Bool) (a2_2 : List (List V)) (Q : D → Heap → Prop) : Prop :=
  (∃ r1 : D, cl f_path_nodes [.agg [.v .str (V.s a1_0), .v .bool (V.b a1_1), .v (.sl t_Term) (V.l a1_2)], .nil] [] (fun r H' => r = (.v (.sl t_path_node) (r1.V)) ∧ H' = []) ∧ cl f_path_nodes [.agg [.v .str (V.s a2_0), .v .bool (V.b a2_1), .v (.sl t_Term) (V.l a2_2)], .osl (.own 0) 0] [.row t_path_node (([] : List (List V)))] fun r2 H3 => r2 = (.osl (.own 0) r2.len) ∧ H3 = [.row t_path_node ((H3.headD .dead).xs)] ∧ ((H3.headD .dead).xs).length = r2.len ∧ 0 ≤ (IntKind.i64.wrap (((r1.V.list.length : Int)) * (((r2.len : Nat) : Int)))) ∧ (IntKind.i64.wrap (((r1.V.list.length : Int)) * (((r2.len : Nat) : Int)))) = (IntKind.i64.wrap (((r1.V.list.length : Int)) * (((r2.len : Nat) : Int)))) ∧ (IntKind.i64.wrap (((r1.V.list.length : Int)) * (((r2.len : Nat) : Int)))) ≤ lim ∧ ((H3.headD .dead).xs).length = r2.len ∧ 0 ≤ (IntKind.i64.wrap (((r1.V.list.length : Int)) * (((r2.len : Nat) : Int)))) ∧ (IntKind.i64.wrap (((r1.V.list.length : Int)) * (((r2.len : Nat) : Int)))) = (IntKind.i64.wrap (((r1.V.list.length : Int)) * (((r2.len : Nat) : Int)))) ∧ (IntKind.i64.wrap (((r1.V.list.length : Int)) * (((r2.len : Nat) : Int)))) ≤ lim ∧ (r1.V.list.length ≤ big → ((H3.headD .dead).xs).length = r2.len ∧ (r2.len ≤ big → cl f_path_comparer_greater [.ptr (.own 0) 0, .v (.int .i64) (V.i (IntKind.i64.wrap (((r1.V.list.length : Int)) - (1 : Int)))), .v (.int .i64) (V.i (IntKind.i64.wrap ((((r2.len : Nat) : Int)) - (1 : Int))))] [.cells [.v (.sl t_Rank) (V.l a0), .v (.sl t_path_node) (r1.V), .osl (.own 1) r2.len, .osl (.own 2) (((IntKind.i64.wrap (((r1.V.list.length : Int)) * (((r2.len : Nat) : Int))))).toNat), .osl (.own 3) (((IntKind.i64.wrap (((r1.V.list.length : Int)) * (((r2.len : Nat) : Int))))).toNat)], .row t_path_node ((H3.headD .dead).xs), .row t_uint8 (zeroRow [.int .u8] ((IntKind.i64.wrap (((r1.V.list.length : Int)) * (((r2.len : Nat) : Int))))).toNat), .row t_uint8 (zeroRow [.int .u8] ((IntKind.i64.wrap (((r1.V.list.length : Int)) * (((r2.len : Nat) : Int))))).toNat)] fun r4 H5 => r4 = (.v .bool (r4.V)) ∧ H5 = [.cells [.v (.sl t_Rank) ((((H5.headD .dead).cs).headD .undef).V), .v (.sl t_path_node) (((((H5.headD .dead).cs).tail).headD .undef).V), .osl (.own 1) ((((((H5.headD .dead).cs).tail).tail).headD .undef).len), .osl (.own 2) (((((((H5.headD .dead).cs).tail).tail).tail).headD .undef).len), .osl (.own 3) ((((((((H5.headD .dead).cs).tail).tail).tail).tail).headD .undef).len)], .row t_path_node ((H5.tail.headD .dead).xs), .row t_uint8 ((H5.tail.tail.headD .dead).xs), .row t_uint8 ((H5.tail.tail.tail.headD .dead).xs)] ∧ True ∧ Q (.v .bool (r4.V)) [])))
theorem C_path_Above (a0 : List (List V)) (a1_0 : ByteArray) (a1_1 : Bool) (a1_2 : List (List V)) (a2_0 : ByteArray) (a2_1 : Bool) (a2_2 : List (List V)) (Q : D → Heap → Prop) (h : vc_path_Above a0 a1_0 a1_1 a1_2 a2_0 a2_1 a2_2 Q) : cl f_path_Above [.v (.sl t_Rank) (V.l a0), .agg [.v .str (V.s a1_0), .v .bool (V.b a1_1), .v (.sl t_Term) (V.l a1_2)], .agg [.v .str (V.s a2_0), .v .bool (V.b a2_1), .v (.sl t_Term) (V.l a2_2)]] [] Q :=
  acalls_of_fn (envOk adj_path_Above cut_path_Above lit_path_Above frz_path_Above jns_path_Above) 0 Try.func26 (by rw [show evFn (envA adj_path_Above cut_path_Above lit_path_Above frz_path_Above jns_path_Above) Try.f26 0 [.v (.sl t_Rank) (V.l a0), .agg [.v .str (V.s a1_0), .v .bool (V.b a1_1), .v (.sl t_Term) (V.l a1_2)], .agg [.v .str (V.s a2_0), .v .bool (V.b a2_1), .v (.sl t_Term) (V.l a2_2)]] [] Q = vc_path_Above a0 a1_0 a1_1 a1_2 a2_0 a2_1 a2_2 Q from by kernel_rfl]; exact h)
/-! dwindle/dwindleref06.Listed -/
def adj_r06_Listed : List (Nat × List Adj) := [(4, [.undef 2, .undef 3, .undef 4, .undef 5, .undef 6, .undef 7, .undef 11, .undef 12, .undef 13, .undef 14, .undef 15, .undef 16, .undef 17, .undef 18, .undef 19, .undef 20, .undef 21, .undef 22, .undef 23, .undef 24, .undef 25, .undef 26, .undef 27, .undef 28, .undef 29, .undef 30, .undef 31, .undef 32, .undef 33, .undef 34, .undef 35, .dead 4, .dead 17, .dead 31])]
def cut_r06_Listed : List (Nat × Nat) := [(6, 16)]
def lit_r06_Listed : List Nat := []
def frz_r06_Listed : List (Nat × List Frz) := []
def jns_r06_Listed : List Nat := []
def env_r06_Listed : Env := envA adj_r06_Listed cut_r06_Listed lit_r06_Listed frz_r06_Listed jns_r06_Listed
@[irreducible] def lp_r06_Listed_0 (Q : D → Heap → Prop) (m0 : Nat) (x0 : List (List V)) (x8 : List (List V)) (x9 : Int) (x10 : Int) : Prop :=
  iter (adj (adjLook adj_r06_Listed 4)) (evCode env_r06_Listed (fnAt [1, 1, 0, 1, 0, 0] Try.f27)) (blockK 0 (seqK (adj (adjLook adj_r06_Listed (3000000 + key (fnAt [1, 1, 1] Try.f27)))) (joinIf (env_r06_Listed.join (key (fnAt [1, 1, 1] Try.f27))) (evCode env_r06_Listed (fnAt [1, 1, 1] Try.f27))) (endK env_r06_Listed Try.f27 Q))) m0 ⟨[.v (.sl t_Rank) (V.l x0), .skip, .undef, .undef, .undef, .undef, .undef, .undef, .v (.sl t_Rank) (V.l x8), .v (.int .i64) (V.i x9), .v (.int .i64) (V.i x10), .undef, .undef, .undef, .undef, .undef, .undef, .undef, .undef, .undef, .undef, .undef, .undef, .undef, .undef, .undef, .undef, .undef, .undef, .undef, .undef, .undef, .undef, .undef, .undef, .undef], [.dead, .dead, .dead, .dead, .dead, .dead, .dead, .dead, .dead, .dead, .dead, .dead, .dead, .dead, .dead, .dead, .dead, .dead, .dead, .dead, .dead, .dead, .dead, .dead, .dead, .dead, .dead, .dead, .dead, .dead, .dead, .dead, .dead, .dead, .dead, .dead]⟩ []
def st_r06_Listed_0 (Q : D → Heap → Prop) (m0 : Nat) (x0 : List (List V)) (x8 : List (List V)) (x9 : Int) (x10 : Int) : Prop :=
  iff (decide (x10 < x9)) (0 ≤ x10 ∧ x10 < x8.length ∧ (∃ r1 : D, cl f_r01_IsName [.v .str (((x8.getD x10.toNat []).drop 0).headD V.none), .v .bool (V.b true)] [] (fun r H' => r = (.v .bool (r1.V)) ∧ H' = []) ∧ iff (!r1.V.bool) (True ∧ Q (.v (.int .i64) (V.i 4)) []) (iff (decide (x10 > (0 : Int))) (0 ≤ (IntKind.i64.wrap (x10 - (1 : Int))) ∧ (IntKind.i64.wrap (x10 - (1 : Int))) < x0.length ∧ cl f_r01_CompareNames [.v .str (((x0.getD ((IntKind.i64.wrap (x10 - (1 : Int)))).toNat []).drop 0).headD V.none), .v .str (((x8.getD x10.toNat []).drop 0).headD V.none)] [] fun r2 H3 => r2 = (.v (.int .i64) (r2.V)) ∧ H3 = [] ∧ iff (decide (r2.V.int ≥ (0 : Int))) (True ∧ Q (.v (.int .i64) (V.i 4)) []) (lp_r06_Listed_0 Q m0 x0 x8 x9 (IntKind.i64.wrap (x10 + (1 : Int))))) (lp_r06_Listed_0 Q m0 x0 x8 x9 (IntKind.i64.wrap (x10 + (1 : Int))))))) (True ∧ Q (.v (.int .i64) (V.i 0)) [])
theorem lp_r06_Listed_0_s (Q : D → Heap → Prop) (m0 : Nat) (x0 : List (List V)) (x8 : List (List V)) (x9 : Int) (x10 : Int) : lp_r06_Listed_0 Q (m0 + 1) x0 x8 x9 x10 = st_r06_Listed_0 Q m0 x0 x8 x9 x10 := by kernel_rfl
theorem rule_r06_Listed_0 (Q : D → Heap → Prop) (I : List (List V) → List (List V) → Int → Int → Prop) (μ : List (List V) → List (List V) → Int → Int → Nat)
    (hs : ∀ (x0 : List (List V)) (x8 : List (List V)) (x9 : Int) (x10 : Int), I x0 x8 x9 x10 → ∀ m0 : Nat, (∀ (x0' : List (List V)) (x8' : List (List V)) (x9' : Int) (x10' : Int), I x0' x8' x9' x10' → μ x0' x8' x9' x10' < μ x0 x8 x9 x10 → lp_r06_Listed_0 Q m0 x0' x8' x9' x10') → st_r06_Listed_0 Q m0 x0 x8 x9 x10) :
    ∀ (x0 : List (List V)) (x8 : List (List V)) (x9 : Int) (x10 : Int), I x0 x8 x9 x10 → ∃ m0, lp_r06_Listed_0 Q m0 x0 x8 x9 x10 := by
  have key : ∀ (n : Nat) (x0 : List (List V)) (x8 : List (List V)) (x9 : Int) (x10 : Int), μ x0 x8 x9 x10 < n → I x0 x8 x9 x10 → lp_r06_Listed_0 Q n x0 x8 x9 x10 := by
    intro n
    induction n with
    | zero => intro x0 x8 x9 x10 hm; exact absurd hm (Nat.not_lt_zero _)
    | succ n ih =>
      intro x0 x8 x9 x10 hm hi
      rw [lp_r06_Listed_0_s]
      exact hs x0 x8 x9 x10 hi n fun x0' x8' x9' x10' hq hlt => ih x0' x8' x9' x10' (Nat.lt_of_lt_of_le hlt (Nat.le_of_lt_succ hm)) hq
  intro x0 x8 x9 x10 hi
  exact ⟨μ x0 x8 x9 x10 + 1, key _ x0 x8 x9 x10 (Nat.lt_succ_self _) hi⟩
theorem range_r06_Listed_0 (Q : D → Heap → Prop) (x0 : List (List V)) (x8 : List (List V)) (n : Nat) (hb : n ≤ big) (J : Nat → Prop)
    (step : ∀ (k : Nat), k < n → J k → ∀ K : Prop, (J (k + 1) → K) → (0 ≤ (k : Int) ∧ (k : Int) < x8.length ∧ (∃ r1 : D, cl f_r01_IsName [.v .str (((x8.getD k []).drop 0).headD V.none), .v .bool (V.b true)] [] (fun r H' => r = (.v .bool (r1.V)) ∧ H' = []) ∧ iff (!r1.V.bool) (True ∧ Q (.v (.int .i64) (V.i 4)) []) (iff (decide ((k : Int) > (0 : Int))) (0 ≤ (IntKind.i64.wrap ((k : Int) - (1 : Int))) ∧ (IntKind.i64.wrap ((k : Int) - (1 : Int))) < x0.length ∧ cl f_r01_CompareNames [.v .str (((x0.getD ((IntKind.i64.wrap ((k : Int) - (1 : Int)))).toNat []).drop 0).headD V.none), .v .str (((x8.getD k []).drop 0).headD V.none)] [] fun r2 H3 => r2 = (.v (.int .i64) (r2.V)) ∧ H3 = [] ∧ iff (decide (r2.V.int ≥ (0 : Int))) (True ∧ Q (.v (.int .i64) (V.i 4)) []) (K)) (K)))))
    (last : J n → (True ∧ Q (.v (.int .i64) (V.i 0)) []))
    (k : Nat) (le0 : k ≤ n) (hj : J k) : ∃ m0, lp_r06_Listed_0 Q m0 x0 x8 (n : Int) ((k : Int)) := by
  refine rule_r06_Listed_0 Q (fun x0' x8' x9' x10' => x0 = x0' ∧ x8 = x8' ∧ (n : Int) = x9' ∧ ∃ k : Nat, (k : Int) = x10' ∧ k ≤ n ∧ J k) (fun x0' x8' x9' x10' => (n : Int).toNat - x10'.toNat) ?_ x0 x8 ((n : Int)) ((k : Int)) ⟨rfl, rfl, rfl, k, rfl, le0, hj⟩
  rintro x0' x8' x9' x10' ⟨rfl, rfl, rfl, k', rfl, hk, hj⟩ m hi
  have key : ∀ (b : Bool), b = decide ((k' : Int) < (n : Int)) → b = decide (k' < n) := fun b h => by rw [h]; simp
  by_cases hlt : k' < n
  · have hlt2 : (k' : Int) < (n : Int) := by omega
    have hw : IntKind.i64.wrap ((k' : Int) + (1 : Int)) = ((k' + 1 : Nat) : Int) := wrap_next k' (Nat.lt_of_lt_of_le hlt hb)
    refine iff_yes (decide_eq_true hlt2) ?_
    refine step k' hlt hj (lp_r06_Listed_0 Q m x0 x8 (n : Int) (IntKind.i64.wrap ((k' : Int) + (1 : Int)))) (fun h => ?_)
    show lp_r06_Listed_0 Q m x0 x8 (n : Int) (IntKind.i64.wrap ((k' : Int) + (1 : Int)))
    rw [hw]
    exact hi x0 x8 ((n : Int)) (((k' + 1 : Nat) : Int)) ⟨rfl, rfl, rfl, k' + 1, rfl, hlt, h⟩ (by simp only [Int.toNat_natCast]; omega)
  · have he : k' = n := Nat.le_antisymm hk (Nat.le_of_not_lt hlt)
    subst he
    exact iff_no (decide_eq_false (by omega)) (last hj)
def vc_r06_Listed (a0 : List (List V)) (Q : D → Heap → Prop) : Prop :=
  (a0.length ≤ big → iff (decide (((a0.length : Int)) > (256 : Int))) (True ∧ Q (.v (.int .i64) (V.i 3)) []) ((a0.length ≤ big → ∃ m0, lp_r06_Listed_0 Q m0 a0 a0 ((a0.length : Int)) 0)))
theorem C_r06_Listed (a0 : List (List V)) (Q : D → Heap → Prop) (h : vc_r06_Listed a0 Q) : cl f_r06_Listed [.v (.sl t_Rank) (V.l a0)] [] Q :=
  acalls_of_fn (envOk adj_r06_Listed cut_r06_Listed lit_r06_Listed frz_r06_Listed jns_r06_Listed) 0 Try.func27 (by rw [show evFn (envA adj_r06_Listed cut_r06_Listed lit_r06_Listed frz_r06_Listed jns_r06_Listed) Try.f27 0 [.v (.sl t_Rank) (V.l a0)] [] Q = vc_r06_Listed a0 Q from by kernel_rfl]; exact h)
/-! dwindle/dwindlelaw06.variable -/
def adj_l06_variable : List (Nat × List Adj) := []
def cut_l06_variable : List (Nat × Nat) := []
def lit_l06_variable : List Nat := []
def frz_l06_variable : List (Nat × List Frz) := []
def jns_l06_variable : List Nat := []
def env_l06_variable : Env := envA adj_l06_variable cut_l06_variable lit_l06_variable frz_l06_variable jns_l06_variable
def vc_l06_variable (a0 : ByteArray) (Q : D → Heap → Prop) : Prop :=
  (True ∧ True ∧ True ∧ True) ∧ Q (.agg [.v .str (V.s a0), .v .bool (V.b true), .nil]) []
theorem C_l06_variable (a0 : ByteArray) (Q : D → Heap → Prop) (h : vc_l06_variable a0 Q) : cl f_l06_variable [.v .str (V.s a0)] [] Q :=
  acalls_of_fn (envOk adj_l06_variable cut_l06_variable lit_l06_variable frz_l06_variable jns_l06_variable) 0 Try.func28 (by rw [show evFn (envA adj_l06_variable cut_l06_variable lit_l06_variable frz_l06_variable jns_l06_variable) Try.f28 0 [.v .str (V.s a0)] [] Q = vc_l06_variable a0 Q from by kernel_rfl]; exact h)
/-! dwindle/dwindlelaw06.symbol -/
def adj_l06_symbol : List (Nat × List Adj) := []
def cut_l06_symbol : List (Nat × Nat) := []
def lit_l06_symbol : List Nat := []
def frz_l06_symbol : List (Nat × List Frz) := []
def jns_l06_symbol : List Nat := []
def env_l06_symbol : Env := envA adj_l06_symbol cut_l06_symbol lit_l06_symbol frz_l06_symbol jns_l06_symbol
def vc_l06_symbol (a0 : ByteArray) (a1 : List (List V)) (Q : D → Heap → Prop) : Prop :=
  (True ∧ True ∧ True ∧ True) ∧ Q (.agg [.v .str (V.s a0), .v .bool (V.b false), .v (.sl t_Term) (V.l a1)]) []
theorem C_l06_symbol (a0 : ByteArray) (a1 : List (List V)) (Q : D → Heap → Prop) (h : vc_l06_symbol a0 a1 Q) : cl f_l06_symbol [.v .str (V.s a0), .v (.sl t_Term) (V.l a1)] [] Q :=
  acalls_of_fn (envOk adj_l06_symbol cut_l06_symbol lit_l06_symbol frz_l06_symbol jns_l06_symbol) 0 Try.func29 (by rw [show evFn (envA adj_l06_symbol cut_l06_symbol lit_l06_symbol frz_l06_symbol jns_l06_symbol) Try.f29 0 [.v .str (V.s a0), .v (.sl t_Term) (V.l a1)] [] Q = vc_l06_symbol a0 a1 Q from by kernel_rfl]; exact h)
/-! dwindle/dwindleref06.Above -/
def adj_r06_Above : List (Nat × List Adj) := []
def cut_r06_Above : List (Nat × Nat) := []
def lit_r06_Above : List Nat := []
def frz_r06_Above : List (Nat × List Frz) := []
def jns_r06_Above : List Nat := []
def env_r06_Above : Env := envA adj_r06_Above cut_r06_Above lit_r06_Above frz_r06_Above jns_r06_Above
def vc_r06_Above (a0 : List (List V)) (a1 : ByteArray) (a2 : ByteArray) (Q : D → Heap → Prop) : Prop :=
  cl f_r06_Entry [.v (.sl t_Rank) (V.l a0), .v .str (V.s a1)] [] fun r1 H2 => r1 = (.agg [.v .str ((r1.cells.headD .undef).V), .v (.int .i64) ((r1.cells.tail.headD .undef).V), .v (.int .i64) ((r1.cells.tail.tail.headD .undef).V)]) ∧ H2 = [] ∧ cl f_r06_Entry [.v (.sl t_Rank) (V.l a0), .v .str (V.s a2)] [] fun r3 H4 => r3 = (.agg [.v .str ((r3.cells.headD .undef).V), .v (.int .i64) ((r3.cells.tail.headD .undef).V), .v (.int .i64) ((r3.cells.tail.tail.headD .undef).V)]) ∧ H4 = [] ∧ True ∧ Q (.v .bool (V.b (decide ((((r1.cells.tail.headD .undef).V).int) > (((r3.cells.tail.headD .undef).V).int))))) []
theorem C_r06_Above (a0 : List (List V)) (a1 : ByteArray) (a2 : ByteArray) (Q : D → Heap → Prop) (h : vc_r06_Above a0 a1 a2 Q) : cl f_r06_Above [.v (.sl t_Rank) (V.l a0), .v .str (V.s a1), .v .str (V.s a2)] [] Q :=
  acalls_of_fn (envOk adj_r06_Above cut_r06_Above lit_r06_Above frz_r06_Above jns_r06_Above) 0 Try.func30 (by rw [show evFn (envA adj_r06_Above cut_r06_Above lit_r06_Above frz_r06_Above jns_r06_Above) Try.f30 0 [.v (.sl t_Rank) (V.l a0), .v .str (V.s a1), .v .str (V.s a2)] [] Q = vc_r06_Above a0 a1 a2 Q from by kernel_rfl]; exact h)
/-! dwindle/dwindleref01.Formed -/
def adj_r01_Formed : List (Nat × List Adj) := [(6, [.undef 1, .undef 2, .undef 4, .undef 26, .undef 30, .undef 31, .undef 32, .undef 33, .undef 34, .undef 35, .undef 36, .dead 1, .dead 4, .dead 34]), (3000005, [.undef 0, .undef 2, .undef 5, .undef 6, .undef 16, .undef 17, .undef 18, .undef 19, .undef 20, .undef 21, .undef 22, .undef 23, .undef 24, .undef 25, .dead 18, .dead 23])]
def cut_r01_Formed : List (Nat × Nat) := []
def lit_r01_Formed : List Nat := []
def frz_r01_Formed : List (Nat × List Frz) := []
def jns_r01_Formed : List Nat := [5]
def env_r01_Formed : Env := envA adj_r01_Formed cut_r01_Formed lit_r01_Formed frz_r01_Formed jns_r01_Formed
@[irreducible] def lp_r01_Formed_0 (Q : D → Heap → Prop) (m0 : Nat) (x27 : List (List V)) (x28 : Int) (x29 : Int) : Prop :=
  iter (adj (adjLook adj_r01_Formed 6)) (evCode env_r01_Formed (fnAt [1, 1, 1, 0, 1, 0, 0] Try.f31)) (blockK 0 (seqK (adj (adjLook adj_r01_Formed (3000000 + key (fnAt [1, 1, 1, 1] Try.f31)))) (joinIf (env_r01_Formed.join (key (fnAt [1, 1, 1, 1] Try.f31))) (evCode env_r01_Formed (fnAt [1, 1, 1, 1] Try.f31))) (endK env_r01_Formed Try.f31 Q))) m0 ⟨[.undef, .undef, .undef, .skip, .undef, .undef, .undef, .skip, .skip, .skip, .skip, .skip, .skip, .skip, .skip, .skip, .undef, .undef, .undef, .undef, .undef, .undef, .undef, .undef, .undef, .undef, .undef, .v (.sl t_Term) (V.l x27), .v (.int .i64) (V.i x28), .v (.int .i64) (V.i x29), .undef, .undef, .undef, .undef, .undef, .undef, .undef], [.dead, .dead, .dead, .dead, .dead, .dead, .dead, .dead, .dead, .dead, .dead, .dead, .dead, .dead, .dead, .dead, .dead, .dead, .dead, .dead, .dead, .dead, .dead, .dead, .dead, .dead, .dead, .dead, .dead, .dead, .dead, .dead, .dead, .dead, .dead, .dead, .dead]⟩ []
@[irreducible] def jp_r01_Formed_0 (Q : D → Heap → Prop) (y1_0 : ByteArray) (y1_1 : Bool) (y1_2 : List (List V)) : Prop :=
  joinM (evCode env_r01_Formed (fnAt [1, 1, 1] Try.f31)) ⟨[.undef, .ptr (.loc 1) 0, .undef, .skip, .skip, .undef, .undef, .skip, .skip, .skip, .skip, .skip, .skip, .skip, .skip, .skip, .undef, .undef, .undef, .undef, .undef, .undef, .undef, .undef, .undef, .undef, .skip, .skip, .skip, .skip, .skip, .skip, .skip, .skip, .skip, .skip, .skip], [.dead, .cells [.v .str (V.s y1_0), .v .bool (V.b y1_1), .v (.sl t_Term) (V.l y1_2)], .dead, .dead, .dead, .dead, .dead, .dead, .dead, .dead, .dead, .dead, .dead, .dead, .dead, .dead, .dead, .dead, .dead, .dead, .dead, .dead, .dead, .dead, .dead, .dead, .dead, .dead, .dead, .dead, .dead, .dead, .dead, .dead, .dead, .dead, .dead]⟩ [] (endK env_r01_Formed Try.f31 Q)
def st_r01_Formed_0 (Q : D → Heap → Prop) (m0 : Nat) (x27 : List (List V)) (x28 : Int) (x29 : Int) : Prop :=
  iff (decide (x29 < x28)) (0 ≤ x29 ∧ x29 < x27.length ∧ cl f_r01_Formed [.agg [.v .str (((x27.getD x29.toNat []).drop 0).headD V.none), .v .bool ((((x27.getD x29.toNat []).drop 0).tail).headD V.none), .v (.sl t_Term) (((((x27.getD x29.toNat []).drop 0).tail).tail).headD V.none)]] [] fun r1 H2 => r1 = (.v .bool (r1.V)) ∧ H2 = [] ∧ iff (!r1.V.bool) (True ∧ Q (.v .bool (V.b false)) []) (lp_r01_Formed_0 Q m0 x27 x28 (IntKind.i64.wrap (x29 + (1 : Int))))) (True ∧ Q (.v .bool (V.b true)) [])
theorem lp_r01_Formed_0_s (Q : D → Heap → Prop) (m0 : Nat) (x27 : List (List V)) (x28 : Int) (x29 : Int) : lp_r01_Formed_0 Q (m0 + 1) x27 x28 x29 = st_r01_Formed_0 Q m0 x27 x28 x29 := by kernel_rfl
theorem rule_r01_Formed_0 (Q : D → Heap → Prop) (I : List (List V) → Int → Int → Prop) (μ : List (List V) → Int → Int → Nat)
    (hs : ∀ (x27 : List (List V)) (x28 : Int) (x29 : Int), I x27 x28 x29 → ∀ m0 : Nat, (∀ (x27' : List (List V)) (x28' : Int) (x29' : Int), I x27' x28' x29' → μ x27' x28' x29' < μ x27 x28 x29 → lp_r01_Formed_0 Q m0 x27' x28' x29') → st_r01_Formed_0 Q m0 x27 x28 x29) :
    ∀ (x27 : List (List V)) (x28 : Int) (x29 : Int), I x27 x28 x29 → ∃ m0, lp_r01_Formed_0 Q m0 x27 x28 x29 := by
  have key : ∀ (n : Nat) (x27 : List (List V)) (x28 : Int) (x29 : Int), μ x27 x28 x29 < n → I x27 x28 x29 → lp_r01_Formed_0 Q n x27 x28 x29 := by
    intro n
    induction n with
    | zero => intro x27 x28 x29 hm; exact absurd hm (Nat.not_lt_zero _)
    | succ n ih =>
      intro x27 x28 x29 hm hi
      rw [lp_r01_Formed_0_s]
      exact hs x27 x28 x29 hi n fun x27' x28' x29' hq hlt => ih x27' x28' x29' (Nat.lt_of_lt_of_le hlt (Nat.le_of_lt_succ hm)) hq
  intro x27 x28 x29 hi
  exact ⟨μ x27 x28 x29 + 1, key _ x27 x28 x29 (Nat.lt_succ_self _) hi⟩
theorem range_r01_Formed_0 (Q : D → Heap → Prop) (x27 : List (List V)) (n : Nat) (hb : n ≤ big) (J : Nat → Prop)
    (step : ∀ (k : Nat), k < n → J k → ∀ K : Prop, (J (k + 1) → K) → (0 ≤ (k : Int) ∧ (k : Int) < x27.length ∧ cl f_r01_Formed [.agg [.v .str (((x27.getD k []).drop 0).headD V.none), .v .bool ((((x27.getD k []).drop 0).tail).headD V.none), .v (.sl t_Term) (((((x27.getD k []).drop 0).tail).tail).headD V.none)]] [] fun r1 H2 => r1 = (.v .bool (r1.V)) ∧ H2 = [] ∧ iff (!r1.V.bool) (True ∧ Q (.v .bool (V.b false)) []) (K)))
    (last : J n → (True ∧ Q (.v .bool (V.b true)) []))
    (k : Nat) (le0 : k ≤ n) (hj : J k) : ∃ m0, lp_r01_Formed_0 Q m0 x27 (n : Int) ((k : Int)) := by
  refine rule_r01_Formed_0 Q (fun x27' x28' x29' => x27 = x27' ∧ (n : Int) = x28' ∧ ∃ k : Nat, (k : Int) = x29' ∧ k ≤ n ∧ J k) (fun x27' x28' x29' => (n : Int).toNat - x29'.toNat) ?_ x27 ((n : Int)) ((k : Int)) ⟨rfl, rfl, k, rfl, le0, hj⟩
  rintro x27' x28' x29' ⟨rfl, rfl, k', rfl, hk, hj⟩ m hi
  have key : ∀ (b : Bool), b = decide ((k' : Int) < (n : Int)) → b = decide (k' < n) := fun b h => by rw [h]; simp
  by_cases hlt : k' < n
  · have hlt2 : (k' : Int) < (n : Int) := by omega
    have hw : IntKind.i64.wrap ((k' : Int) + (1 : Int)) = ((k' + 1 : Nat) : Int) := wrap_next k' (Nat.lt_of_lt_of_le hlt hb)
    refine iff_yes (decide_eq_true hlt2) ?_
    refine step k' hlt hj (lp_r01_Formed_0 Q m x27 (n : Int) (IntKind.i64.wrap ((k' : Int) + (1 : Int)))) (fun h => ?_)
    show lp_r01_Formed_0 Q m x27 (n : Int) (IntKind.i64.wrap ((k' : Int) + (1 : Int)))
    rw [hw]
    exact hi x27 ((n : Int)) (((k' + 1 : Nat) : Int)) ⟨rfl, rfl, k' + 1, rfl, hlt, h⟩ (by simp only [Int.toNat_natCast]; omega)
  · have he : k' = n := Nat.le_antisymm hk (Nat.le_of_not_lt hlt)
    subst he
    exact iff_no (decide_eq_false (by omega)) (last hj)
def je_r01_Formed_0 (Q : D → Heap → Prop) (y1_0 : ByteArray) (y1_1 : Bool) (y1_2 : List (List V)) : Prop :=
  (y1_2.length ≤ big → ∃ m0, lp_r01_Formed_0 Q m0 y1_2 ((y1_2.length : Int)) 0)
theorem jp_r01_Formed_0_s (Q : D → Heap → Prop) (y1_0 : ByteArray) (y1_1 : Bool) (y1_2 : List (List V)) : jp_r01_Formed_0 Q y1_0 y1_1 y1_2 = je_r01_Formed_0 Q y1_0 y1_1 y1_2 := by kernel_rfl
def vc_r01_Formed (a0_0 : ByteArray) (a0_1 : Bool) (a0_2 : List (List V)) (Q : D → Heap → Prop) : Prop :=
  iff a0_1 (cl f_r01_IsName [.v .str (V.s a0_0), .v .bool (V.b false)] [] fun r1 H2 => r1 = (.v .bool (r1.V)) ∧ H2 = [] ∧ iff r1.V.bool ((a0_2.length ≤ big → True ∧ Q (.v .bool (V.b (((a0_2.length : Int)) == (0 : Int)))) [])) (True ∧ Q (.v .bool (V.b false)) [])) (cl f_r01_IsName [.v .str (V.s a0_0), .v .bool (V.b true)] [] fun r3 H4 => r3 = (.v .bool (r3.V)) ∧ H4 = [] ∧ iff (!r3.V.bool) (True ∧ Q (.v .bool (V.b false)) []) ((a0_2.length ≤ big → iff (decide (((a0_2.length : Int)) > (8 : Int))) (True ∧ Q (.v .bool (V.b false)) []) (jp_r01_Formed_0 Q a0_0 a0_1 a0_2))))
theorem C_r01_Formed (a0_0 : ByteArray) (a0_1 : Bool) (a0_2 : List (List V)) (Q : D → Heap → Prop) (h : vc_r01_Formed a0_0 a0_1 a0_2 Q) : cl f_r01_Formed [.agg [.v .str (V.s a0_0), .v .bool (V.b a0_1), .v (.sl t_Term) (V.l a0_2)]] [] Q :=
  acalls_of_fn (envOk adj_r01_Formed cut_r01_Formed lit_r01_Formed frz_r01_Formed jns_r01_Formed) 0 Try.func31 (by rw [show evFn (envA adj_r01_Formed cut_r01_Formed lit_r01_Formed frz_r01_Formed jns_r01_Formed) Try.f31 0 [.agg [.v .str (V.s a0_0), .v .bool (V.b a0_1), .v (.sl t_Term) (V.l a0_2)]] [] Q = vc_r01_Formed a0_0 a0_1 a0_2 Q from by kernel_rfl]; exact h)
/-! dwindle/dwindleref01.Size -/
def adj_r01_Size : List (Nat × List Adj) := [(3, [.undef 0, .undef 1, .undef 2, .undef 5, .undef 6, .undef 10, .undef 11, .undef 12, .undef 13, .undef 14, .undef 15, .undef 16, .undef 17, .dead 1, .dead 5, .dead 15])]
def cut_r01_Size : List (Nat × Nat) := []
def lit_r01_Size : List Nat := []
def frz_r01_Size : List (Nat × List Frz) := []
def jns_r01_Size : List Nat := []
def env_r01_Size : Env := envA adj_r01_Size cut_r01_Size lit_r01_Size frz_r01_Size jns_r01_Size
@[irreducible] def lp_r01_Size_0 (Q : D → Heap → Prop) (m0 : Nat) (x3 : Int) (x7 : List (List V)) (x8 : Int) (x9 : Int) : Prop :=
  iter (adj (adjLook adj_r01_Size 3)) (evCode env_r01_Size (fnAt [1, 1, 0, 1, 0, 0] Try.f32)) (blockK 0 (seqK (adj (adjLook adj_r01_Size (3000000 + key (fnAt [1, 1, 1] Try.f32)))) (joinIf (env_r01_Size.join (key (fnAt [1, 1, 1] Try.f32))) (evCode env_r01_Size (fnAt [1, 1, 1] Try.f32))) (endK env_r01_Size Try.f32 Q))) m0 ⟨[.undef, .undef, .undef, .v (.int .i64) (V.i x3), .skip, .undef, .undef, .v (.sl t_Term) (V.l x7), .v (.int .i64) (V.i x8), .v (.int .i64) (V.i x9), .undef, .undef, .undef, .undef, .undef, .undef, .undef, .undef, .skip], [.dead, .dead, .dead, .dead, .dead, .dead, .dead, .dead, .dead, .dead, .dead, .dead, .dead, .dead, .dead, .dead, .dead, .dead, .dead]⟩ []
def st_r01_Size_0 (Q : D → Heap → Prop) (m0 : Nat) (x3 : Int) (x7 : List (List V)) (x8 : Int) (x9 : Int) : Prop :=
  iff (decide (x9 < x8)) (0 ≤ x9 ∧ x9 < x7.length ∧ cl f_r01_Size [.agg [.v .str (((x7.getD x9.toNat []).drop 0).headD V.none), .v .bool ((((x7.getD x9.toNat []).drop 0).tail).headD V.none), .v (.sl t_Term) (((((x7.getD x9.toNat []).drop 0).tail).tail).headD V.none)]] [] fun r1 H2 => r1 = (.v (.int .i64) (r1.V)) ∧ H2 = [] ∧ lp_r01_Size_0 Q m0 (IntKind.i64.wrap (x3 + r1.V.int)) x7 x8 (IntKind.i64.wrap (x9 + (1 : Int)))) (True ∧ Q (.v (.int .i64) (V.i x3)) [])
theorem lp_r01_Size_0_s (Q : D → Heap → Prop) (m0 : Nat) (x3 : Int) (x7 : List (List V)) (x8 : Int) (x9 : Int) : lp_r01_Size_0 Q (m0 + 1) x3 x7 x8 x9 = st_r01_Size_0 Q m0 x3 x7 x8 x9 := by kernel_rfl
theorem rule_r01_Size_0 (Q : D → Heap → Prop) (I : Int → List (List V) → Int → Int → Prop) (μ : Int → List (List V) → Int → Int → Nat)
    (hs : ∀ (x3 : Int) (x7 : List (List V)) (x8 : Int) (x9 : Int), I x3 x7 x8 x9 → ∀ m0 : Nat, (∀ (x3' : Int) (x7' : List (List V)) (x8' : Int) (x9' : Int), I x3' x7' x8' x9' → μ x3' x7' x8' x9' < μ x3 x7 x8 x9 → lp_r01_Size_0 Q m0 x3' x7' x8' x9') → st_r01_Size_0 Q m0 x3 x7 x8 x9) :
    ∀ (x3 : Int) (x7 : List (List V)) (x8 : Int) (x9 : Int), I x3 x7 x8 x9 → ∃ m0, lp_r01_Size_0 Q m0 x3 x7 x8 x9 := by
  have key : ∀ (n : Nat) (x3 : Int) (x7 : List (List V)) (x8 : Int) (x9 : Int), μ x3 x7 x8 x9 < n → I x3 x7 x8 x9 → lp_r01_Size_0 Q n x3 x7 x8 x9 := by
    intro n
    induction n with
    | zero => intro x3 x7 x8 x9 hm; exact absurd hm (Nat.not_lt_zero _)
    | succ n ih =>
      intro x3 x7 x8 x9 hm hi
      rw [lp_r01_Size_0_s]
      exact hs x3 x7 x8 x9 hi n fun x3' x7' x8' x9' hq hlt => ih x3' x7' x8' x9' (Nat.lt_of_lt_of_le hlt (Nat.le_of_lt_succ hm)) hq
  intro x3 x7 x8 x9 hi
  exact ⟨μ x3 x7 x8 x9 + 1, key _ x3 x7 x8 x9 (Nat.lt_succ_self _) hi⟩
theorem range_r01_Size_0 (Q : D → Heap → Prop) (x7 : List (List V)) (n : Nat) (hb : n ≤ big) (J : Nat → Int → Prop)
    (step : ∀ (k : Nat) (x3 : Int), k < n → J k x3 → ∀ K : Int → Prop, (∀ (x3' : Int), J (k + 1) x3' → K x3') → (0 ≤ (k : Int) ∧ (k : Int) < x7.length ∧ cl f_r01_Size [.agg [.v .str (((x7.getD k []).drop 0).headD V.none), .v .bool ((((x7.getD k []).drop 0).tail).headD V.none), .v (.sl t_Term) (((((x7.getD k []).drop 0).tail).tail).headD V.none)]] [] fun r1 H2 => r1 = (.v (.int .i64) (r1.V)) ∧ H2 = [] ∧ K (IntKind.i64.wrap (x3 + r1.V.int))))
    (last : ∀ (x3 : Int), J n x3 → (True ∧ Q (.v (.int .i64) (V.i x3)) []))
    (k : Nat) (x3 : Int) (le0 : k ≤ n) (hj : J k x3) : ∃ m0, lp_r01_Size_0 Q m0 x3 x7 (n : Int) ((k : Int)) := by
  refine rule_r01_Size_0 Q (fun x3' x7' x8' x9' => x7 = x7' ∧ (n : Int) = x8' ∧ ∃ k : Nat, (k : Int) = x9' ∧ k ≤ n ∧ J k x3') (fun x3' x7' x8' x9' => (n : Int).toNat - x9'.toNat) ?_ x3 x7 ((n : Int)) ((k : Int)) ⟨rfl, rfl, k, rfl, le0, hj⟩
  rintro x3' x7' x8' x9' ⟨rfl, rfl, k', rfl, hk, hj⟩ m hi
  have key : ∀ (b : Bool), b = decide ((k' : Int) < (n : Int)) → b = decide (k' < n) := fun b h => by rw [h]; simp
  by_cases hlt : k' < n
  · have hlt2 : (k' : Int) < (n : Int) := by omega
    have hw : IntKind.i64.wrap ((k' : Int) + (1 : Int)) = ((k' + 1 : Nat) : Int) := wrap_next k' (Nat.lt_of_lt_of_le hlt hb)
    refine iff_yes (decide_eq_true hlt2) ?_
    refine step k' x3' hlt hj (fun x3'' => lp_r01_Size_0 Q m x3'' x7 (n : Int) (IntKind.i64.wrap ((k' : Int) + (1 : Int)))) (fun x3'' h => ?_)
    show lp_r01_Size_0 Q m x3'' x7 (n : Int) (IntKind.i64.wrap ((k' : Int) + (1 : Int)))
    rw [hw]
    exact hi x3'' x7 ((n : Int)) (((k' + 1 : Nat) : Int)) ⟨rfl, rfl, k' + 1, rfl, hlt, h⟩ (by simp only [Int.toNat_natCast]; omega)
  · have he : k' = n := Nat.le_antisymm hk (Nat.le_of_not_lt hlt)
    subst he
    exact iff_no (decide_eq_false (by omega)) (last x3' hj)
def vc_r01_Size (a0_0 : ByteArray) (a0_1 : Bool) (a0_2 : List (List V)) (Q : D → Heap → Prop) : Prop :=
  (a0_2.length ≤ big → ∃ m0, lp_r01_Size_0 Q m0 1 a0_2 ((a0_2.length : Int)) 0)
theorem C_r01_Size (a0_0 : ByteArray) (a0_1 : Bool) (a0_2 : List (List V)) (Q : D → Heap → Prop) (h : vc_r01_Size a0_0 a0_1 a0_2 Q) : cl f_r01_Size [.agg [.v .str (V.s a0_0), .v .bool (V.b a0_1), .v (.sl t_Term) (V.l a0_2)]] [] Q :=
  acalls_of_fn (envOk adj_r01_Size cut_r01_Size lit_r01_Size frz_r01_Size jns_r01_Size) 0 Try.func32 (by rw [show evFn (envA adj_r01_Size cut_r01_Size lit_r01_Size frz_r01_Size jns_r01_Size) Try.f32 0 [.agg [.v .str (V.s a0_0), .v .bool (V.b a0_1), .v (.sl t_Term) (V.l a0_2)]] [] Q = vc_r01_Size a0_0 a0_1 a0_2 Q from by kernel_rfl]; exact h)
/-! dwindle/dwindleref01.Depth -/
def adj_r01_Depth : List (Nat × List Adj) := [(3, [.undef 0, .undef 1, .undef 2, .undef 5, .undef 6, .undef 10, .undef 11, .undef 12, .undef 13, .undef 14, .undef 15, .undef 16, .undef 17, .dead 1, .dead 5, .dead 15, .dead 16])]
def cut_r01_Depth : List (Nat × Nat) := []
def lit_r01_Depth : List Nat := []
def frz_r01_Depth : List (Nat × List Frz) := []
def jns_r01_Depth : List Nat := []
def env_r01_Depth : Env := envA adj_r01_Depth cut_r01_Depth lit_r01_Depth frz_r01_Depth jns_r01_Depth
@[irreducible] def lp_r01_Depth_0 (Q : D → Heap → Prop) (m0 : Nat) (x3 : Int) (x7 : List (List V)) (x8 : Int) (x9 : Int) : Prop :=
  iter (adj (adjLook adj_r01_Depth 3)) (evCode env_r01_Depth (fnAt [1, 1, 0, 1, 0, 0] Try.f33)) (blockK 0 (seqK (adj (adjLook adj_r01_Depth (3000000 + key (fnAt [1, 1, 1] Try.f33)))) (joinIf (env_r01_Depth.join (key (fnAt [1, 1, 1] Try.f33))) (evCode env_r01_Depth (fnAt [1, 1, 1] Try.f33))) (endK env_r01_Depth Try.f33 Q))) m0 ⟨[.undef, .undef, .undef, .v (.int .i64) (V.i x3), .skip, .undef, .undef, .v (.sl t_Term) (V.l x7), .v (.int .i64) (V.i x8), .v (.int .i64) (V.i x9), .undef, .undef, .undef, .undef, .undef, .undef, .undef, .undef, .skip, .skip], [.dead, .dead, .dead, .dead, .dead, .dead, .dead, .dead, .dead, .dead, .dead, .dead, .dead, .dead, .dead, .dead, .dead, .dead, .dead, .dead]⟩ []
def st_r01_Depth_0 (Q : D → Heap → Prop) (m0 : Nat) (x3 : Int) (x7 : List (List V)) (x8 : Int) (x9 : Int) : Prop :=
  iff (decide (x9 < x8)) (0 ≤ x9 ∧ x9 < x7.length ∧ cl f_r01_Depth [.agg [.v .str (((x7.getD x9.toNat []).drop 0).headD V.none), .v .bool ((((x7.getD x9.toNat []).drop 0).tail).headD V.none), .v (.sl t_Term) (((((x7.getD x9.toNat []).drop 0).tail).tail).headD V.none)]] [] fun r1 H2 => r1 = (.v (.int .i64) (r1.V)) ∧ H2 = [] ∧ lp_r01_Depth_0 Q m0 (if r1.V.int > x3 then r1.V.int else x3) x7 x8 (IntKind.i64.wrap (x9 + (1 : Int)))) (True ∧ Q (.v (.int .i64) (V.i (IntKind.i64.wrap (x3 + (1 : Int))))) [])
theorem lp_r01_Depth_0_s (Q : D → Heap → Prop) (m0 : Nat) (x3 : Int) (x7 : List (List V)) (x8 : Int) (x9 : Int) : lp_r01_Depth_0 Q (m0 + 1) x3 x7 x8 x9 = st_r01_Depth_0 Q m0 x3 x7 x8 x9 := by kernel_rfl
theorem rule_r01_Depth_0 (Q : D → Heap → Prop) (I : Int → List (List V) → Int → Int → Prop) (μ : Int → List (List V) → Int → Int → Nat)
    (hs : ∀ (x3 : Int) (x7 : List (List V)) (x8 : Int) (x9 : Int), I x3 x7 x8 x9 → ∀ m0 : Nat, (∀ (x3' : Int) (x7' : List (List V)) (x8' : Int) (x9' : Int), I x3' x7' x8' x9' → μ x3' x7' x8' x9' < μ x3 x7 x8 x9 → lp_r01_Depth_0 Q m0 x3' x7' x8' x9') → st_r01_Depth_0 Q m0 x3 x7 x8 x9) :
    ∀ (x3 : Int) (x7 : List (List V)) (x8 : Int) (x9 : Int), I x3 x7 x8 x9 → ∃ m0, lp_r01_Depth_0 Q m0 x3 x7 x8 x9 := by
  have key : ∀ (n : Nat) (x3 : Int) (x7 : List (List V)) (x8 : Int) (x9 : Int), μ x3 x7 x8 x9 < n → I x3 x7 x8 x9 → lp_r01_Depth_0 Q n x3 x7 x8 x9 := by
    intro n
    induction n with
    | zero => intro x3 x7 x8 x9 hm; exact absurd hm (Nat.not_lt_zero _)
    | succ n ih =>
      intro x3 x7 x8 x9 hm hi
      rw [lp_r01_Depth_0_s]
      exact hs x3 x7 x8 x9 hi n fun x3' x7' x8' x9' hq hlt => ih x3' x7' x8' x9' (Nat.lt_of_lt_of_le hlt (Nat.le_of_lt_succ hm)) hq
  intro x3 x7 x8 x9 hi
  exact ⟨μ x3 x7 x8 x9 + 1, key _ x3 x7 x8 x9 (Nat.lt_succ_self _) hi⟩
theorem range_r01_Depth_0 (Q : D → Heap → Prop) (x7 : List (List V)) (n : Nat) (hb : n ≤ big) (J : Nat → Int → Prop)
    (step : ∀ (k : Nat) (x3 : Int), k < n → J k x3 → ∀ K : Int → Prop, (∀ (x3' : Int), J (k + 1) x3' → K x3') → (0 ≤ (k : Int) ∧ (k : Int) < x7.length ∧ cl f_r01_Depth [.agg [.v .str (((x7.getD k []).drop 0).headD V.none), .v .bool ((((x7.getD k []).drop 0).tail).headD V.none), .v (.sl t_Term) (((((x7.getD k []).drop 0).tail).tail).headD V.none)]] [] fun r1 H2 => r1 = (.v (.int .i64) (r1.V)) ∧ H2 = [] ∧ K (if r1.V.int > x3 then r1.V.int else x3)))
    (last : ∀ (x3 : Int), J n x3 → (True ∧ Q (.v (.int .i64) (V.i (IntKind.i64.wrap (x3 + (1 : Int))))) []))
    (k : Nat) (x3 : Int) (le0 : k ≤ n) (hj : J k x3) : ∃ m0, lp_r01_Depth_0 Q m0 x3 x7 (n : Int) ((k : Int)) := by
  refine rule_r01_Depth_0 Q (fun x3' x7' x8' x9' => x7 = x7' ∧ (n : Int) = x8' ∧ ∃ k : Nat, (k : Int) = x9' ∧ k ≤ n ∧ J k x3') (fun x3' x7' x8' x9' => (n : Int).toNat - x9'.toNat) ?_ x3 x7 ((n : Int)) ((k : Int)) ⟨rfl, rfl, k, rfl, le0, hj⟩
  rintro x3' x7' x8' x9' ⟨rfl, rfl, k', rfl, hk, hj⟩ m hi
  have key : ∀ (b : Bool), b = decide ((k' : Int) < (n : Int)) → b = decide (k' < n) := fun b h => by rw [h]; simp
  by_cases hlt : k' < n
  · have hlt2 : (k' : Int) < (n : Int) := by omega
    have hw : IntKind.i64.wrap ((k' : Int) + (1 : Int)) = ((k' + 1 : Nat) : Int) := wrap_next k' (Nat.lt_of_lt_of_le hlt hb)
    refine iff_yes (decide_eq_true hlt2) ?_
    refine step k' x3' hlt hj (fun x3'' => lp_r01_Depth_0 Q m x3'' x7 (n : Int) (IntKind.i64.wrap ((k' : Int) + (1 : Int)))) (fun x3'' h => ?_)
    show lp_r01_Depth_0 Q m x3'' x7 (n : Int) (IntKind.i64.wrap ((k' : Int) + (1 : Int)))
    rw [hw]
    exact hi x3'' x7 ((n : Int)) (((k' + 1 : Nat) : Int)) ⟨rfl, rfl, k' + 1, rfl, hlt, h⟩ (by simp only [Int.toNat_natCast]; omega)
  · have he : k' = n := Nat.le_antisymm hk (Nat.le_of_not_lt hlt)
    subst he
    exact iff_no (decide_eq_false (by omega)) (last x3' hj)
def vc_r01_Depth (a0_0 : ByteArray) (a0_1 : Bool) (a0_2 : List (List V)) (Q : D → Heap → Prop) : Prop :=
  (a0_2.length ≤ big → ∃ m0, lp_r01_Depth_0 Q m0 0 a0_2 ((a0_2.length : Int)) 0)
theorem C_r01_Depth (a0_0 : ByteArray) (a0_1 : Bool) (a0_2 : List (List V)) (Q : D → Heap → Prop) (h : vc_r01_Depth a0_0 a0_1 a0_2 Q) : cl f_r01_Depth [.agg [.v .str (V.s a0_0), .v .bool (V.b a0_1), .v (.sl t_Term) (V.l a0_2)]] [] Q :=
  acalls_of_fn (envOk adj_r01_Depth cut_r01_Depth lit_r01_Depth frz_r01_Depth jns_r01_Depth) 0 Try.func33 (by rw [show evFn (envA adj_r01_Depth cut_r01_Depth lit_r01_Depth frz_r01_Depth jns_r01_Depth) Try.f33 0 [.agg [.v .str (V.s a0_0), .v .bool (V.b a0_1), .v (.sl t_Term) (V.l a0_2)]] [] Q = vc_r01_Depth a0_0 a0_1 a0_2 Q from by kernel_rfl]; exact h)
/-! dwindle/dwindleref01.IsName -/
def adj_r01_IsName : List (Nat × List Adj) := [(3000004, [.undef 1, .undef 4, .undef 5, .undef 6, .undef 7, .undef 8, .undef 9, .undef 10, .undef 11, .dead 11]), (3000005, [.undef 8, .undef 9, .undef 10, .undef 11, .undef 12, .undef 13, .undef 14, .undef 15, .undef 16, .undef 17, .dead 11, .dead 15])]
def cut_r01_IsName : List (Nat × Nat) := []
def lit_r01_IsName : List Nat := []
def frz_r01_IsName : List (Nat × List Frz) := []
def jns_r01_IsName : List Nat := [4, 5]
def env_r01_IsName : Env := envA adj_r01_IsName cut_r01_IsName lit_r01_IsName frz_r01_IsName jns_r01_IsName
@[irreducible] def jp_r01_IsName_1 (Q : D → Heap → Prop) (x0 : ByteArray) : Prop :=
  joinM (evCode env_r01_IsName (fnAt [1, 1, 1] Try.f34)) ⟨[.v .str (V.s x0), .undef, .skip, .skip, .undef, .undef, .undef, .undef, .undef, .undef, .undef, .undef, .undef, .undef, .undef, .undef, .undef, .undef, .skip, .skip, .skip, .skip, .skip, .skip], [.dead, .dead, .dead, .dead, .dead, .dead, .dead, .dead, .dead, .dead, .dead, .dead, .dead, .dead, .dead, .dead, .dead, .dead, .dead, .dead, .dead, .dead, .dead, .dead]⟩ [] (endK env_r01_IsName Try.f34 Q)
@[irreducible] def jp_r01_IsName_0 (Q : D → Heap → Prop) (x0 : ByteArray) (x12 : V) : Prop :=
  joinM (evCode env_r01_IsName (fnAt [1, 1, 0, 1] Try.f34)) ⟨[.v .str (V.s x0), .undef, .skip, .skip, .undef, .undef, .undef, .undef, .undef, .undef, .undef, .undef, .v .bool (x12), .skip, .skip, .skip, .skip, .skip, .skip, .skip, .skip, .skip, .skip, .skip], [.dead, .dead, .dead, .dead, .dead, .dead, .dead, .dead, .dead, .dead, .dead, .dead, .dead, .dead, .dead, .dead, .dead, .dead, .dead, .dead, .dead, .dead, .dead, .dead]⟩ [] (seqK (adj (adjLook adj_r01_IsName (3000000 + key (fnAt [1, 1, 1] Try.f34)))) (joinIf (env_r01_IsName.join (key (fnAt [1, 1, 1] Try.f34))) (evCode env_r01_IsName (fnAt [1, 1, 1] Try.f34))) (endK env_r01_IsName Try.f34 Q))
def je_r01_IsName_1 (Q : D → Heap → Prop) (x0 : ByteArray) : Prop :=
  iff (!(x0.toList == (ByteArray.mk #[]).toList)) (cl f_r01_Letters [.v .str (V.s x0)] [] fun r1 H2 => r1 = (.v .bool (r1.V)) ∧ H2 = [] ∧ True ∧ Q (.v .bool (r1.V)) []) (True ∧ Q (.v .bool (V.b false)) [])
theorem jp_r01_IsName_1_s (Q : D → Heap → Prop) (x0 : ByteArray) : jp_r01_IsName_1 Q x0 = je_r01_IsName_1 Q x0 := by kernel_rfl
def je_r01_IsName_0 (Q : D → Heap → Prop) (x0 : ByteArray) (x12 : V) : Prop :=
  iff x12.bool ((x0.size ≤ big → 0 ≤ (0 : Int) ∧ (0 : Int) ≤ (IntKind.i64.wrap (((x0.size : Int)) - (1 : Int))) ∧ (IntKind.i64.wrap (((x0.size : Int)) - (1 : Int))) ≤ x0.size ∧ jp_r01_IsName_1 Q (x0.extract (0 : Int).toNat ((IntKind.i64.wrap (((x0.size : Int)) - (1 : Int)))).toNat))) (jp_r01_IsName_1 Q x0)
theorem jp_r01_IsName_0_s (Q : D → Heap → Prop) (x0 : ByteArray) (x12 : V) : jp_r01_IsName_0 Q x0 x12 = je_r01_IsName_0 Q x0 x12 := by kernel_rfl
def vc_r01_IsName (a0 : ByteArray) (a1 : Bool) (Q : D → Heap → Prop) : Prop :=
  (a0.size ≤ big → iff (decide (((a0.size : Int)) > (24 : Int))) (True ∧ Q (.v .bool (V.b false)) []) (iff a1 (cl f_r01_Marked [.v .str (V.s a0)] [] fun r1 H2 => r1 = (.v .bool (r1.V)) ∧ H2 = [] ∧ jp_r01_IsName_0 Q a0 r1.V) (jp_r01_IsName_0 Q a0 (V.b false))))
theorem C_r01_IsName (a0 : ByteArray) (a1 : Bool) (Q : D → Heap → Prop) (h : vc_r01_IsName a0 a1 Q) : cl f_r01_IsName [.v .str (V.s a0), .v .bool (V.b a1)] [] Q :=
  acalls_of_fn (envOk adj_r01_IsName cut_r01_IsName lit_r01_IsName frz_r01_IsName jns_r01_IsName) 0 Try.func34 (by rw [show evFn (envA adj_r01_IsName cut_r01_IsName lit_r01_IsName frz_r01_IsName jns_r01_IsName) Try.f34 0 [.v .str (V.s a0), .v .bool (V.b a1)] [] Q = vc_r01_IsName a0 a1 Q from by kernel_rfl]; exact h)
/-! dwindle/dwindleref01.CompareNames -/
def adj_r01_CompareNames : List (Nat × List Adj) := [(2, [.undef 4, .undef 5, .undef 6, .undef 7, .undef 8, .undef 9, .undef 12, .undef 13, .undef 14, .undef 15, .undef 16, .undef 17, .undef 18, .undef 19, .undef 20, .undef 21, .undef 22, .undef 23, .undef 24, .undef 25, .undef 26, .undef 27, .undef 28, .undef 29, .undef 30, .dead 29])]
def cut_r01_CompareNames : List (Nat × Nat) := [(4, 6), (5, 8)]
def lit_r01_CompareNames : List Nat := []
def frz_r01_CompareNames : List (Nat × List Frz) := []
def jns_r01_CompareNames : List Nat := []
def env_r01_CompareNames : Env := envA adj_r01_CompareNames cut_r01_CompareNames lit_r01_CompareNames frz_r01_CompareNames jns_r01_CompareNames
@[irreducible] def lp_r01_CompareNames_0 (Q : D → Heap → Prop) (m0 : Nat) (x0 : ByteArray) (x1 : ByteArray) (x10 : Int) (x11 : Int) : Prop :=
  iter (adj (adjLook adj_r01_CompareNames 2)) (evCode env_r01_CompareNames (fnAt [1, 0, 1, 0, 0] Try.f35)) (blockK 0 (seqK (adj (adjLook adj_r01_CompareNames (3000000 + key (fnAt [1, 1] Try.f35)))) (joinIf (env_r01_CompareNames.join (key (fnAt [1, 1] Try.f35))) (evCode env_r01_CompareNames (fnAt [1, 1] Try.f35))) (endK env_r01_CompareNames Try.f35 Q))) m0 ⟨[.v .str (V.s x0), .v .str (V.s x1), .skip, .skip, .undef, .undef, .undef, .undef, .undef, .undef, .v (.int .i64) (V.i x10), .v (.int .i64) (V.i x11), .undef, .undef, .undef, .undef, .undef, .undef, .undef, .undef, .undef, .undef, .undef, .undef, .undef, .undef, .undef, .undef, .undef, .undef, .undef, .skip, .skip, .skip, .skip, .skip], [.dead, .dead, .dead, .dead, .dead, .dead, .dead, .dead, .dead, .dead, .dead, .dead, .dead, .dead, .dead, .dead, .dead, .dead, .dead, .dead, .dead, .dead, .dead, .dead, .dead, .dead, .dead, .dead, .dead, .dead, .dead, .dead, .dead, .dead, .dead, .dead]⟩ []
def st_r01_CompareNames_0 (Q : D → Heap → Prop) (m0 : Nat) (x0 : ByteArray) (x1 : ByteArray) (x10 : Int) (x11 : Int) : Prop :=
  iff (decide (x11 < x10)) (0 ≤ x11 ∧ x11 < x0.size ∧ 0 ≤ x11 ∧ x11 < x1.size ∧ iff ((((x0.data.toList.getD x11.toNat 0).toNat : Int)) != (((x1.data.toList.getD x11.toNat 0).toNat : Int))) (0 ≤ x11 ∧ x11 < x0.size ∧ 0 ≤ x11 ∧ x11 < x1.size ∧ cl f_r01_CompareInts [.v (.int .i64) (V.i (IntKind.i64.wrap (((x0.data.toList.getD x11.toNat 0).toNat : Int)))), .v (.int .i64) (V.i (IntKind.i64.wrap (((x1.data.toList.getD x11.toNat 0).toNat : Int))))] [] fun r1 H2 => r1 = (.v (.int .i64) (r1.V)) ∧ H2 = [] ∧ True ∧ Q (.v (.int .i64) (r1.V)) []) (lp_r01_CompareNames_0 Q m0 x0 x1 x10 (IntKind.i64.wrap (x11 + (1 : Int))))) ((x0.size ≤ big → (x1.size ≤ big → cl f_r01_CompareInts [.v (.int .i64) (V.i ((x0.size : Int))), .v (.int .i64) (V.i ((x1.size : Int)))] [] fun r3 H4 => r3 = (.v (.int .i64) (r3.V)) ∧ H4 = [] ∧ True ∧ Q (.v (.int .i64) (r3.V)) [])))
theorem lp_r01_CompareNames_0_s (Q : D → Heap → Prop) (m0 : Nat) (x0 : ByteArray) (x1 : ByteArray) (x10 : Int) (x11 : Int) : lp_r01_CompareNames_0 Q (m0 + 1) x0 x1 x10 x11 = st_r01_CompareNames_0 Q m0 x0 x1 x10 x11 := by kernel_rfl
theorem rule_r01_CompareNames_0 (Q : D → Heap → Prop) (I : ByteArray → ByteArray → Int → Int → Prop) (μ : ByteArray → ByteArray → Int → Int → Nat)
    (hs : ∀ (x0 : ByteArray) (x1 : ByteArray) (x10 : Int) (x11 : Int), I x0 x1 x10 x11 → ∀ m0 : Nat, (∀ (x0' : ByteArray) (x1' : ByteArray) (x10' : Int) (x11' : Int), I x0' x1' x10' x11' → μ x0' x1' x10' x11' < μ x0 x1 x10 x11 → lp_r01_CompareNames_0 Q m0 x0' x1' x10' x11') → st_r01_CompareNames_0 Q m0 x0 x1 x10 x11) :
    ∀ (x0 : ByteArray) (x1 : ByteArray) (x10 : Int) (x11 : Int), I x0 x1 x10 x11 → ∃ m0, lp_r01_CompareNames_0 Q m0 x0 x1 x10 x11 := by
  have key : ∀ (n : Nat) (x0 : ByteArray) (x1 : ByteArray) (x10 : Int) (x11 : Int), μ x0 x1 x10 x11 < n → I x0 x1 x10 x11 → lp_r01_CompareNames_0 Q n x0 x1 x10 x11 := by
    intro n
    induction n with
    | zero => intro x0 x1 x10 x11 hm; exact absurd hm (Nat.not_lt_zero _)
    | succ n ih =>
      intro x0 x1 x10 x11 hm hi
      rw [lp_r01_CompareNames_0_s]
      exact hs x0 x1 x10 x11 hi n fun x0' x1' x10' x11' hq hlt => ih x0' x1' x10' x11' (Nat.lt_of_lt_of_le hlt (Nat.le_of_lt_succ hm)) hq
  intro x0 x1 x10 x11 hi
  exact ⟨μ x0 x1 x10 x11 + 1, key _ x0 x1 x10 x11 (Nat.lt_succ_self _) hi⟩
theorem range_r01_CompareNames_0 (Q : D → Heap → Prop) (x0 : ByteArray) (x1 : ByteArray) (n : Nat) (hb : n ≤ big) (J : Nat → Prop)
    (step : ∀ (k : Nat), k < n → J k → ∀ K : Prop, (J (k + 1) → K) → (0 ≤ (k : Int) ∧ (k : Int) < x0.size ∧ 0 ≤ (k : Int) ∧ (k : Int) < x1.size ∧ iff ((((x0.data.toList.getD k 0).toNat : Int)) != (((x1.data.toList.getD k 0).toNat : Int))) (0 ≤ (k : Int) ∧ (k : Int) < x0.size ∧ 0 ≤ (k : Int) ∧ (k : Int) < x1.size ∧ cl f_r01_CompareInts [.v (.int .i64) (V.i (IntKind.i64.wrap (((x0.data.toList.getD k 0).toNat : Int)))), .v (.int .i64) (V.i (IntKind.i64.wrap (((x1.data.toList.getD k 0).toNat : Int))))] [] fun r1 H2 => r1 = (.v (.int .i64) (r1.V)) ∧ H2 = [] ∧ True ∧ Q (.v (.int .i64) (r1.V)) []) (K)))
    (last : J n → ((x0.size ≤ big → (x1.size ≤ big → cl f_r01_CompareInts [.v (.int .i64) (V.i ((x0.size : Int))), .v (.int .i64) (V.i ((x1.size : Int)))] [] fun r3 H4 => r3 = (.v (.int .i64) (r3.V)) ∧ H4 = [] ∧ True ∧ Q (.v (.int .i64) (r3.V)) []))))
    (k : Nat) (le0 : k ≤ n) (hj : J k) : ∃ m0, lp_r01_CompareNames_0 Q m0 x0 x1 (n : Int) ((k : Int)) := by
  refine rule_r01_CompareNames_0 Q (fun x0' x1' x10' x11' => x0 = x0' ∧ x1 = x1' ∧ (n : Int) = x10' ∧ ∃ k : Nat, (k : Int) = x11' ∧ k ≤ n ∧ J k) (fun x0' x1' x10' x11' => (n : Int).toNat - x11'.toNat) ?_ x0 x1 ((n : Int)) ((k : Int)) ⟨rfl, rfl, rfl, k, rfl, le0, hj⟩
  rintro x0' x1' x10' x11' ⟨rfl, rfl, rfl, k', rfl, hk, hj⟩ m hi
  have key : ∀ (b : Bool), b = decide ((k' : Int) < (n : Int)) → b = decide (k' < n) := fun b h => by rw [h]; simp
  by_cases hlt : k' < n
  · have hlt2 : (k' : Int) < (n : Int) := by omega
    have hw : IntKind.i64.wrap ((k' : Int) + (1 : Int)) = ((k' + 1 : Nat) : Int) := wrap_next k' (Nat.lt_of_lt_of_le hlt hb)
    refine iff_yes (decide_eq_true hlt2) ?_
    refine step k' hlt hj (lp_r01_CompareNames_0 Q m x0 x1 (n : Int) (IntKind.i64.wrap ((k' : Int) + (1 : Int)))) (fun h => ?_)
    show lp_r01_CompareNames_0 Q m x0 x1 (n : Int) (IntKind.i64.wrap ((k' : Int) + (1 : Int)))
    rw [hw]
    exact hi x0 x1 ((n : Int)) (((k' + 1 : Nat) : Int)) ⟨rfl, rfl, rfl, k' + 1, rfl, hlt, h⟩ (by simp only [Int.toNat_natCast]; omega)
  · have he : k' = n := Nat.le_antisymm hk (Nat.le_of_not_lt hlt)
    subst he
    exact iff_no (decide_eq_false (by omega)) (last hj)
def vc_r01_CompareNames (a0 : ByteArray) (a1 : ByteArray) (Q : D → Heap → Prop) : Prop :=
  (a0.size ≤ big → (a1.size ≤ big → ∃ m0, lp_r01_CompareNames_0 Q m0 a0 a1 (if ((a1.size : Int)) < ((a0.size : Int)) then ((a1.size : Int)) else ((a0.size : Int))) 0))
theorem C_r01_CompareNames (a0 : ByteArray) (a1 : ByteArray) (Q : D → Heap → Prop) (h : vc_r01_CompareNames a0 a1 Q) : cl f_r01_CompareNames [.v .str (V.s a0), .v .str (V.s a1)] [] Q :=
  acalls_of_fn (envOk adj_r01_CompareNames cut_r01_CompareNames lit_r01_CompareNames frz_r01_CompareNames jns_r01_CompareNames) 0 Try.func35 (by rw [show evFn (envA adj_r01_CompareNames cut_r01_CompareNames lit_r01_CompareNames frz_r01_CompareNames jns_r01_CompareNames) Try.f35 0 [.v .str (V.s a0), .v .str (V.s a1)] [] Q = vc_r01_CompareNames a0 a1 Q from by kernel_rfl]; exact h)
/-! dwindle/dwindleref01.Grown -/
def adj_r01_Grown : List (Nat × List Adj) := [(6, [.undef 1, .undef 3, .undef 4, .undef 5, .undef 10, .undef 11, .undef 12, .undef 13, .undef 14, .undef 23, .undef 27, .undef 28, .undef 29, .undef 30, .undef 31, .undef 32, .undef 33, .undef 34, .undef 35, .undef 36, .undef 37, .undef 38, .undef 39, .undef 40, .undef 41, .undef 42, .dead 3, .dead 10, .dead 33, .dead 41])]
def cut_r01_Grown : List (Nat × Nat) := [(3, 3)]
def lit_r01_Grown : List Nat := []
def frz_r01_Grown : List (Nat × List Frz) := []
def jns_r01_Grown : List Nat := []
def env_r01_Grown : Env := envA adj_r01_Grown cut_r01_Grown lit_r01_Grown frz_r01_Grown jns_r01_Grown
@[irreducible] def lp_r01_Grown_0 (Q : D → Heap → Prop) (m0 : Nat) (x0 : List (List V)) (x7 : Int) (x8 : Int) (x24 : List (List V)) (x25 : Int) (x26 : Int) : Prop :=
  iter (adj (adjLook adj_r01_Grown 6)) (evCode env_r01_Grown (fnAt [1, 1, 1, 0, 1, 0, 0] Try.f36)) (blockK 0 (seqK (adj (adjLook adj_r01_Grown (3000000 + key (fnAt [1, 1, 1, 1] Try.f36)))) (joinIf (env_r01_Grown.join (key (fnAt [1, 1, 1, 1] Try.f36))) (evCode env_r01_Grown (fnAt [1, 1, 1, 1] Try.f36))) (endK env_r01_Grown Try.f36 Q))) m0 ⟨[.v (.sl t_Bind) (V.l x0), .undef, .skip, .undef, .undef, .undef, .skip, .v (.int .i64) (V.i x7), .v (.int .i64) (V.i x8), .skip, .undef, .undef, .undef, .undef, .undef, .skip, .skip, .skip, .skip, .skip, .skip, .skip, .skip, .undef, .v (.sl t_Term) (V.l x24), .v (.int .i64) (V.i x25), .v (.int .i64) (V.i x26), .undef, .undef, .undef, .undef, .undef, .undef, .undef, .undef, .undef, .undef, .undef, .undef, .undef, .undef, .undef, .undef, .skip, .skip, .skip], [.dead, .dead, .dead, .dead, .dead, .dead, .dead, .dead, .dead, .dead, .dead, .dead, .dead, .dead, .dead, .dead, .dead, .dead, .dead, .dead, .dead, .dead, .dead, .dead, .dead, .dead, .dead, .dead, .dead, .dead, .dead, .dead, .dead, .dead, .dead, .dead, .dead, .dead, .dead, .dead, .dead, .dead, .dead, .dead, .dead, .dead]⟩ []
def st_r01_Grown_0 (Q : D → Heap → Prop) (m0 : Nat) (x0 : List (List V)) (x7 : Int) (x8 : Int) (x24 : List (List V)) (x25 : Int) (x26 : Int) : Prop :=
  iff (decide (x26 < x25)) (0 ≤ x26 ∧ x26 < x24.length ∧ cl f_r01_Grown [.v (.sl t_Bind) (V.l x0), .agg [.v .str (((x24.getD x26.toNat []).drop 0).headD V.none), .v .bool ((((x24.getD x26.toNat []).drop 0).tail).headD V.none), .v (.sl t_Term) (((((x24.getD x26.toNat []).drop 0).tail).tail).headD V.none)]] [] fun r1 H2 => r1 = (.tup [.v (.int .i64) ((r1.parts.headD .undef).V), .v (.int .i64) ((r1.parts.tail.headD .undef).V)]) ∧ H2 = [] ∧ lp_r01_Grown_0 Q m0 x0 (IntKind.i64.wrap (x7 + (((r1.parts.headD .undef).V).int))) (if (((r1.parts.tail.headD .undef).V).int) > x8 then (((r1.parts.tail.headD .undef).V).int) else x8) x24 x25 (IntKind.i64.wrap (x26 + (1 : Int)))) ((True ∧ True ∧ True) ∧ Q (.tup [.v (.int .i64) (V.i x7), .v (.int .i64) (V.i (IntKind.i64.wrap (x8 + (1 : Int))))]) [])
theorem lp_r01_Grown_0_s (Q : D → Heap → Prop) (m0 : Nat) (x0 : List (List V)) (x7 : Int) (x8 : Int) (x24 : List (List V)) (x25 : Int) (x26 : Int) : lp_r01_Grown_0 Q (m0 + 1) x0 x7 x8 x24 x25 x26 = st_r01_Grown_0 Q m0 x0 x7 x8 x24 x25 x26 := by kernel_rfl
theorem rule_r01_Grown_0 (Q : D → Heap → Prop) (I : List (List V) → Int → Int → List (List V) → Int → Int → Prop) (μ : List (List V) → Int → Int → List (List V) → Int → Int → Nat)
    (hs : ∀ (x0 : List (List V)) (x7 : Int) (x8 : Int) (x24 : List (List V)) (x25 : Int) (x26 : Int), I x0 x7 x8 x24 x25 x26 → ∀ m0 : Nat, (∀ (x0' : List (List V)) (x7' : Int) (x8' : Int) (x24' : List (List V)) (x25' : Int) (x26' : Int), I x0' x7' x8' x24' x25' x26' → μ x0' x7' x8' x24' x25' x26' < μ x0 x7 x8 x24 x25 x26 → lp_r01_Grown_0 Q m0 x0' x7' x8' x24' x25' x26') → st_r01_Grown_0 Q m0 x0 x7 x8 x24 x25 x26) :
    ∀ (x0 : List (List V)) (x7 : Int) (x8 : Int) (x24 : List (List V)) (x25 : Int) (x26 : Int), I x0 x7 x8 x24 x25 x26 → ∃ m0, lp_r01_Grown_0 Q m0 x0 x7 x8 x24 x25 x26 := by
  have key : ∀ (n : Nat) (x0 : List (List V)) (x7 : Int) (x8 : Int) (x24 : List (List V)) (x25 : Int) (x26 : Int), μ x0 x7 x8 x24 x25 x26 < n → I x0 x7 x8 x24 x25 x26 → lp_r01_Grown_0 Q n x0 x7 x8 x24 x25 x26 := by
    intro n
    induction n with
    | zero => intro x0 x7 x8 x24 x25 x26 hm; exact absurd hm (Nat.not_lt_zero _)
    | succ n ih =>
      intro x0 x7 x8 x24 x25 x26 hm hi
      rw [lp_r01_Grown_0_s]
      exact hs x0 x7 x8 x24 x25 x26 hi n fun x0' x7' x8' x24' x25' x26' hq hlt => ih x0' x7' x8' x24' x25' x26' (Nat.lt_of_lt_of_le hlt (Nat.le_of_lt_succ hm)) hq
  intro x0 x7 x8 x24 x25 x26 hi
  exact ⟨μ x0 x7 x8 x24 x25 x26 + 1, key _ x0 x7 x8 x24 x25 x26 (Nat.lt_succ_self _) hi⟩
theorem range_r01_Grown_0 (Q : D → Heap → Prop) (x0 : List (List V)) (x24 : List (List V)) (n : Nat) (hb : n ≤ big) (J : Nat → Int → Int → Prop)
    (step : ∀ (k : Nat) (x7 : Int) (x8 : Int), k < n → J k x7 x8 → ∀ K : Int → Int → Prop, (∀ (x7' : Int) (x8' : Int), J (k + 1) x7' x8' → K x7' x8') → (0 ≤ (k : Int) ∧ (k : Int) < x24.length ∧ cl f_r01_Grown [.v (.sl t_Bind) (V.l x0), .agg [.v .str (((x24.getD k []).drop 0).headD V.none), .v .bool ((((x24.getD k []).drop 0).tail).headD V.none), .v (.sl t_Term) (((((x24.getD k []).drop 0).tail).tail).headD V.none)]] [] fun r1 H2 => r1 = (.tup [.v (.int .i64) ((r1.parts.headD .undef).V), .v (.int .i64) ((r1.parts.tail.headD .undef).V)]) ∧ H2 = [] ∧ K (IntKind.i64.wrap (x7 + (((r1.parts.headD .undef).V).int))) (if (((r1.parts.tail.headD .undef).V).int) > x8 then (((r1.parts.tail.headD .undef).V).int) else x8)))
    (last : ∀ (x7 : Int) (x8 : Int), J n x7 x8 → ((True ∧ True ∧ True) ∧ Q (.tup [.v (.int .i64) (V.i x7), .v (.int .i64) (V.i (IntKind.i64.wrap (x8 + (1 : Int))))]) []))
    (k : Nat) (x7 : Int) (x8 : Int) (le0 : k ≤ n) (hj : J k x7 x8) : ∃ m0, lp_r01_Grown_0 Q m0 x0 x7 x8 x24 (n : Int) ((k : Int)) := by
  refine rule_r01_Grown_0 Q (fun x0' x7' x8' x24' x25' x26' => x0 = x0' ∧ x24 = x24' ∧ (n : Int) = x25' ∧ ∃ k : Nat, (k : Int) = x26' ∧ k ≤ n ∧ J k x7' x8') (fun x0' x7' x8' x24' x25' x26' => (n : Int).toNat - x26'.toNat) ?_ x0 x7 x8 x24 ((n : Int)) ((k : Int)) ⟨rfl, rfl, rfl, k, rfl, le0, hj⟩
  rintro x0' x7' x8' x24' x25' x26' ⟨rfl, rfl, rfl, k', rfl, hk, hj⟩ m hi
  have key : ∀ (b : Bool), b = decide ((k' : Int) < (n : Int)) → b = decide (k' < n) := fun b h => by rw [h]; simp
  by_cases hlt : k' < n
  · have hlt2 : (k' : Int) < (n : Int) := by omega
    have hw : IntKind.i64.wrap ((k' : Int) + (1 : Int)) = ((k' + 1 : Nat) : Int) := wrap_next k' (Nat.lt_of_lt_of_le hlt hb)
    refine iff_yes (decide_eq_true hlt2) ?_
    refine step k' x7' x8' hlt hj (fun x7'' x8'' => lp_r01_Grown_0 Q m x0 x7'' x8'' x24 (n : Int) (IntKind.i64.wrap ((k' : Int) + (1 : Int)))) (fun x7'' x8'' h => ?_)
    show lp_r01_Grown_0 Q m x0 x7'' x8'' x24 (n : Int) (IntKind.i64.wrap ((k' : Int) + (1 : Int)))
    rw [hw]
    exact hi x0 x7'' x8'' x24 ((n : Int)) (((k' + 1 : Nat) : Int)) ⟨rfl, rfl, rfl, k' + 1, rfl, hlt, h⟩ (by simp only [Int.toNat_natCast]; omega)
  · have he : k' = n := Nat.le_antisymm hk (Nat.le_of_not_lt hlt)
    subst he
    exact iff_no (decide_eq_false (by omega)) (last x7' x8' hj)
def vc_r01_Grown (a0 : List (List V)) (a1_0 : ByteArray) (a1_1 : Bool) (a1_2 : List (List V)) (Q : D → Heap → Prop) : Prop :=
  iff a1_1 (cl f_r01_Image [.v (.sl t_Bind) (V.l a0), .v .str (V.s a1_0)] [] fun r1 H2 => r1 = (.agg [.v .str ((r1.cells.headD .undef).V), .v .bool ((r1.cells.tail.headD .undef).V), .v (.sl t_Term) ((r1.cells.tail.tail.headD .undef).V)]) ∧ H2 = [] ∧ (∃ r3 : D, cl f_r01_Size [.agg [.v .str ((r1.cells.headD .undef).V), .v .bool ((r1.cells.tail.headD .undef).V), .v (.sl t_Term) ((r1.cells.tail.tail.headD .undef).V)]] [] (fun r H' => r = (.v (.int .i64) (r3.V)) ∧ H' = []) ∧ cl f_r01_Depth [.agg [.v .str ((r1.cells.headD .undef).V), .v .bool ((r1.cells.tail.headD .undef).V), .v (.sl t_Term) ((r1.cells.tail.tail.headD .undef).V)]] [] fun r4 H5 => r4 = (.v (.int .i64) (r4.V)) ∧ H5 = [] ∧ (True ∧ True ∧ True) ∧ Q (.tup [.v (.int .i64) (r3.V), .v (.int .i64) (r4.V)]) [])) ((a1_2.length ≤ big → ∃ m0, lp_r01_Grown_0 Q m0 a0 1 0 a1_2 ((a1_2.length : Int)) 0))
theorem C_r01_Grown (a0 : List (List V)) (a1_0 : ByteArray) (a1_1 : Bool) (a1_2 : List (List V)) (Q : D → Heap → Prop) (h : vc_r01_Grown a0 a1_0 a1_1 a1_2 Q) : cl f_r01_Grown [.v (.sl t_Bind) (V.l a0), .agg [.v .str (V.s a1_0), .v .bool (V.b a1_1), .v (.sl t_Term) (V.l a1_2)]] [] Q :=
  acalls_of_fn (envOk adj_r01_Grown cut_r01_Grown lit_r01_Grown frz_r01_Grown jns_r01_Grown) 0 Try.func36 (by rw [show evFn (envA adj_r01_Grown cut_r01_Grown lit_r01_Grown frz_r01_Grown jns_r01_Grown) Try.f36 0 [.v (.sl t_Bind) (V.l a0), .agg [.v .str (V.s a1_0), .v .bool (V.b a1_1), .v (.sl t_Term) (V.l a1_2)]] [] Q = vc_r01_Grown a0 a1_0 a1_1 a1_2 Q from by kernel_rfl]; exact h)
/-! dwindle/dwindleref01.Image -/
def adj_r01_Image : List (Nat × List Adj) := [(2, [.undef 0, .undef 6, .undef 10, .undef 11, .undef 12, .undef 13, .undef 14, .undef 15, .undef 16, .undef 17, .undef 18, .undef 19, .dead 6])]
def cut_r01_Image : List (Nat × Nat) := []
def lit_r01_Image : List Nat := []
def frz_r01_Image : List (Nat × List Frz) := []
def jns_r01_Image : List Nat := []
def env_r01_Image : Env := envA adj_r01_Image cut_r01_Image lit_r01_Image frz_r01_Image jns_r01_Image
@[irreducible] def lp_r01_Image_0 (Q : D → Heap → Prop) (m0 : Nat) (x1 : ByteArray) (x7 : List (List V)) (x8 : Int) (x9 : Int) (y4_0 : ByteArray) (y4_1 : Bool) : Prop :=
  iter (adj (adjLook adj_r01_Image 2)) (evCode env_r01_Image (fnAt [1, 0, 1, 0, 0] Try.f37)) (blockK 0 (seqK (adj (adjLook adj_r01_Image (3000000 + key (fnAt [1, 1] Try.f37)))) (joinIf (env_r01_Image.join (key (fnAt [1, 1] Try.f37))) (evCode env_r01_Image (fnAt [1, 1] Try.f37))) (endK env_r01_Image Try.f37 Q))) m0 ⟨[.undef, .v .str (V.s x1), .skip, .skip, .ptr (.loc 4) 0, .skip, .undef, .v (.sl t_Bind) (V.l x7), .v (.int .i64) (V.i x8), .v (.int .i64) (V.i x9), .undef, .undef, .undef, .undef, .undef, .undef, .undef, .undef, .undef, .undef, .skip, .skip], [.dead, .dead, .dead, .dead, .cells [.v .str (V.s y4_0), .v .bool (V.b y4_1), .nil], .dead, .dead, .dead, .dead, .dead, .dead, .dead, .dead, .dead, .dead, .dead, .dead, .dead, .dead, .dead, .dead, .dead]⟩ []
def st_r01_Image_0 (Q : D → Heap → Prop) (m0 : Nat) (x1 : ByteArray) (x7 : List (List V)) (x8 : Int) (x9 : Int) (y4_0 : ByteArray) (y4_1 : Bool) : Prop :=
  iff (decide (x9 < x8)) (0 ≤ x9 ∧ x9 < x7.length ∧ iff (((((x7.getD x9.toNat []).drop 0).headD V.none).str).toList == x1.toList) ((True ∧ True ∧ True ∧ True) ∧ Q (.agg [.v .str ((((x7.getD x9.toNat []).drop 0).tail).headD V.none), .v .bool (((((x7.getD x9.toNat []).drop 0).tail).tail).headD V.none), .v (.sl t_Term) ((((((x7.getD x9.toNat []).drop 0).tail).tail).tail).headD V.none)]) []) (lp_r01_Image_0 Q m0 x1 x7 x8 (IntKind.i64.wrap (x9 + (1 : Int))) y4_0 y4_1)) ((True ∧ True ∧ True ∧ True) ∧ Q (.agg [.v .str (V.s x1), .v .bool (V.b true), .nil]) [])
theorem lp_r01_Image_0_s (Q : D → Heap → Prop) (m0 : Nat) (x1 : ByteArray) (x7 : List (List V)) (x8 : Int) (x9 : Int) (y4_0 : ByteArray) (y4_1 : Bool) : lp_r01_Image_0 Q (m0 + 1) x1 x7 x8 x9 y4_0 y4_1 = st_r01_Image_0 Q m0 x1 x7 x8 x9 y4_0 y4_1 := by kernel_rfl
theorem rule_r01_Image_0 (Q : D → Heap → Prop) (I : ByteArray → List (List V) → Int → Int → ByteArray → Bool → Prop) (μ : ByteArray → List (List V) → Int → Int → ByteArray → Bool → Nat)
    (hs : ∀ (x1 : ByteArray) (x7 : List (List V)) (x8 : Int) (x9 : Int) (y4_0 : ByteArray) (y4_1 : Bool), I x1 x7 x8 x9 y4_0 y4_1 → ∀ m0 : Nat, (∀ (x1' : ByteArray) (x7' : List (List V)) (x8' : Int) (x9' : Int) (y4_0' : ByteArray) (y4_1' : Bool), I x1' x7' x8' x9' y4_0' y4_1' → μ x1' x7' x8' x9' y4_0' y4_1' < μ x1 x7 x8 x9 y4_0 y4_1 → lp_r01_Image_0 Q m0 x1' x7' x8' x9' y4_0' y4_1') → st_r01_Image_0 Q m0 x1 x7 x8 x9 y4_0 y4_1) :
    ∀ (x1 : ByteArray) (x7 : List (List V)) (x8 : Int) (x9 : Int) (y4_0 : ByteArray) (y4_1 : Bool), I x1 x7 x8 x9 y4_0 y4_1 → ∃ m0, lp_r01_Image_0 Q m0 x1 x7 x8 x9 y4_0 y4_1 := by
  have key : ∀ (n : Nat) (x1 : ByteArray) (x7 : List (List V)) (x8 : Int) (x9 : Int) (y4_0 : ByteArray) (y4_1 : Bool), μ x1 x7 x8 x9 y4_0 y4_1 < n → I x1 x7 x8 x9 y4_0 y4_1 → lp_r01_Image_0 Q n x1 x7 x8 x9 y4_0 y4_1 := by
    intro n
    induction n with
    | zero => intro x1 x7 x8 x9 y4_0 y4_1 hm; exact absurd hm (Nat.not_lt_zero _)
    | succ n ih =>
      intro x1 x7 x8 x9 y4_0 y4_1 hm hi
      rw [lp_r01_Image_0_s]
      exact hs x1 x7 x8 x9 y4_0 y4_1 hi n fun x1' x7' x8' x9' y4_0' y4_1' hq hlt => ih x1' x7' x8' x9' y4_0' y4_1' (Nat.lt_of_lt_of_le hlt (Nat.le_of_lt_succ hm)) hq
  intro x1 x7 x8 x9 y4_0 y4_1 hi
  exact ⟨μ x1 x7 x8 x9 y4_0 y4_1 + 1, key _ x1 x7 x8 x9 y4_0 y4_1 (Nat.lt_succ_self _) hi⟩
theorem range_r01_Image_0 (Q : D → Heap → Prop) (x1 : ByteArray) (x7 : List (List V)) (y4_0 : ByteArray) (y4_1 : Bool) (n : Nat) (hb : n ≤ big) (J : Nat → Prop)
    (step : ∀ (k : Nat), k < n → J k → ∀ K : Prop, (J (k + 1) → K) → (0 ≤ (k : Int) ∧ (k : Int) < x7.length ∧ iff (((((x7.getD k []).drop 0).headD V.none).str).toList == x1.toList) ((True ∧ True ∧ True ∧ True) ∧ Q (.agg [.v .str ((((x7.getD k []).drop 0).tail).headD V.none), .v .bool (((((x7.getD k []).drop 0).tail).tail).headD V.none), .v (.sl t_Term) ((((((x7.getD k []).drop 0).tail).tail).tail).headD V.none)]) []) (K)))
    (last : J n → ((True ∧ True ∧ True ∧ True) ∧ Q (.agg [.v .str (V.s x1), .v .bool (V.b true), .nil]) []))
    (k : Nat) (le0 : k ≤ n) (hj : J k) : ∃ m0, lp_r01_Image_0 Q m0 x1 x7 (n : Int) ((k : Int)) y4_0 y4_1 := by
  refine rule_r01_Image_0 Q (fun x1' x7' x8' x9' y4_0' y4_1' => x1 = x1' ∧ x7 = x7' ∧ (n : Int) = x8' ∧ y4_0 = y4_0' ∧ y4_1 = y4_1' ∧ ∃ k : Nat, (k : Int) = x9' ∧ k ≤ n ∧ J k) (fun x1' x7' x8' x9' y4_0' y4_1' => (n : Int).toNat - x9'.toNat) ?_ x1 x7 ((n : Int)) ((k : Int)) y4_0 y4_1 ⟨rfl, rfl, rfl, rfl, rfl, k, rfl, le0, hj⟩
  rintro x1' x7' x8' x9' y4_0' y4_1' ⟨rfl, rfl, rfl, rfl, rfl, k', rfl, hk, hj⟩ m hi
  have key : ∀ (b : Bool), b = decide ((k' : Int) < (n : Int)) → b = decide (k' < n) := fun b h => by rw [h]; simp
  by_cases hlt : k' < n
  · have hlt2 : (k' : Int) < (n : Int) := by omega
    have hw : IntKind.i64.wrap ((k' : Int) + (1 : Int)) = ((k' + 1 : Nat) : Int) := wrap_next k' (Nat.lt_of_lt_of_le hlt hb)
    refine iff_yes (decide_eq_true hlt2) ?_
    refine step k' hlt hj (lp_r01_Image_0 Q m x1 x7 (n : Int) (IntKind.i64.wrap ((k' : Int) + (1 : Int))) y4_0 y4_1) (fun h => ?_)
    show lp_r01_Image_0 Q m x1 x7 (n : Int) (IntKind.i64.wrap ((k' : Int) + (1 : Int))) y4_0 y4_1
    rw [hw]
    exact hi x1 x7 ((n : Int)) (((k' + 1 : Nat) : Int)) y4_0 y4_1 ⟨rfl, rfl, rfl, rfl, rfl, k' + 1, rfl, hlt, h⟩ (by simp only [Int.toNat_natCast]; omega)
  · have he : k' = n := Nat.le_antisymm hk (Nat.le_of_not_lt hlt)
    subst he
    exact iff_no (decide_eq_false (by omega)) (last hj)
def vc_r01_Image (a0 : List (List V)) (a1 : ByteArray) (Q : D → Heap → Prop) : Prop :=
  (a0.length ≤ big → ∃ m0, lp_r01_Image_0 Q m0 a1 a0 ((a0.length : Int)) 0 (ByteArray.mk #[]) false)
theorem C_r01_Image (a0 : List (List V)) (a1 : ByteArray) (Q : D → Heap → Prop) (h : vc_r01_Image a0 a1 Q) : cl f_r01_Image [.v (.sl t_Bind) (V.l a0), .v .str (V.s a1)] [] Q :=
  acalls_of_fn (envOk adj_r01_Image cut_r01_Image lit_r01_Image frz_r01_Image jns_r01_Image) 0 Try.func37 (by rw [show evFn (envA adj_r01_Image cut_r01_Image lit_r01_Image frz_r01_Image jns_r01_Image) Try.f37 0 [.v (.sl t_Bind) (V.l a0), .v .str (V.s a1)] [] Q = vc_r01_Image a0 a1 Q from by kernel_rfl]; exact h)
/-! dwindle/dwindleref01.Compare -/
def adj_r01_Compare : List (Nat × List Adj) := [(12, [.undef 0, .undef 1, .undef 4, .undef 5, .undef 6, .undef 7, .undef 8, .undef 9, .undef 10, .undef 11, .undef 12, .undef 13, .undef 16, .undef 17, .undef 18, .undef 19, .undef 20, .undef 21, .undef 22, .undef 24, .undef 25, .undef 26, .undef 27, .undef 28, .undef 29, .undef 30, .undef 31, .undef 32, .undef 34, .undef 35, .undef 38, .undef 39, .undef 40, .undef 41, .undef 42, .undef 43, .undef 44, .undef 45, .undef 46, .undef 47, .undef 48, .undef 49, .undef 50, .undef 51, .undef 52, .undef 53, .undef 54, .dead 50])]
def cut_r01_Compare : List (Nat × Nat) := [(14, 10)]
def lit_r01_Compare : List Nat := []
def frz_r01_Compare : List (Nat × List Frz) := []
def jns_r01_Compare : List Nat := []
def env_r01_Compare : Env := envA adj_r01_Compare cut_r01_Compare lit_r01_Compare frz_r01_Compare jns_r01_Compare
@[irreducible] def lp_r01_Compare_0 (Q : D → Heap → Prop) (m0 : Nat) (x36 : Int) (x37 : Int) (y2_0 : ByteArray) (y2_1 : Bool) (y2_2 : List (List V)) (y3_0 : ByteArray) (y3_1 : Bool) (y3_2 : List (List V)) : Prop :=
  iter (adj (adjLook adj_r01_Compare 12)) (evCode env_r01_Compare (fnAt [1, 1, 1, 1, 0, 1, 0, 0] Try.f38)) (blockK 0 (seqK (adj (adjLook adj_r01_Compare (3000000 + key (fnAt [1, 1, 1, 1, 1] Try.f38)))) (joinIf (env_r01_Compare.join (key (fnAt [1, 1, 1, 1, 1] Try.f38))) (evCode env_r01_Compare (fnAt [1, 1, 1, 1, 1] Try.f38))) (endK env_r01_Compare Try.f38 Q))) m0 ⟨[.undef, .undef, .ptr (.loc 2) 0, .ptr (.loc 3) 0, .undef, .undef, .undef, .undef, .undef, .undef, .undef, .undef, .undef, .undef, .skip, .skip, .undef, .undef, .undef, .undef, .undef, .undef, .undef, .skip, .undef, .undef, .undef, .undef, .undef, .undef, .undef, .undef, .undef, .skip, .undef, .undef, .v (.int .i64) (V.i x36), .v (.int .i64) (V.i x37), .undef, .undef, .undef, .undef, .undef, .undef, .undef, .undef, .undef, .undef, .undef, .undef, .undef, .undef, .undef, .undef, .undef], [.dead, .dead, .cells [.v .str (V.s y2_0), .v .bool (V.b y2_1), .v (.sl t_Term) (V.l y2_2)], .cells [.v .str (V.s y3_0), .v .bool (V.b y3_1), .v (.sl t_Term) (V.l y3_2)], .dead, .dead, .dead, .dead, .dead, .dead, .dead, .dead, .dead, .dead, .dead, .dead, .dead, .dead, .dead, .dead, .dead, .dead, .dead, .dead, .dead, .dead, .dead, .dead, .dead, .dead, .dead, .dead, .dead, .dead, .dead, .dead, .dead, .dead, .dead, .dead, .dead, .dead, .dead, .dead, .dead, .dead, .dead, .dead, .dead, .dead, .dead, .dead, .dead, .dead, .dead]⟩ []
def st_r01_Compare_0 (Q : D → Heap → Prop) (m0 : Nat) (x36 : Int) (x37 : Int) (y2_0 : ByteArray) (y2_1 : Bool) (y2_2 : List (List V)) (y3_0 : ByteArray) (y3_1 : Bool) (y3_2 : List (List V)) : Prop :=
  iff (decide (x37 < x36)) (0 ≤ x37 ∧ x37 < y2_2.length ∧ 0 ≤ x37 ∧ x37 < y3_2.length ∧ cl f_r01_Compare [.agg [.v .str (((y2_2.getD x37.toNat []).drop 0).headD V.none), .v .bool ((((y2_2.getD x37.toNat []).drop 0).tail).headD V.none), .v (.sl t_Term) (((((y2_2.getD x37.toNat []).drop 0).tail).tail).headD V.none)], .agg [.v .str (((y3_2.getD x37.toNat []).drop 0).headD V.none), .v .bool ((((y3_2.getD x37.toNat []).drop 0).tail).headD V.none), .v (.sl t_Term) (((((y3_2.getD x37.toNat []).drop 0).tail).tail).headD V.none)]] [] fun r1 H2 => r1 = (.v (.int .i64) (r1.V)) ∧ H2 = [] ∧ iff (r1.V.int != (0 : Int)) (True ∧ Q (.v (.int .i64) (r1.V)) []) (lp_r01_Compare_0 Q m0 x36 (IntKind.i64.wrap (x37 + (1 : Int))) y2_0 y2_1 y2_2 y3_0 y3_1 y3_2)) (True ∧ Q (.v (.int .i64) (V.i 0)) [])
theorem lp_r01_Compare_0_s (Q : D → Heap → Prop) (m0 : Nat) (x36 : Int) (x37 : Int) (y2_0 : ByteArray) (y2_1 : Bool) (y2_2 : List (List V)) (y3_0 : ByteArray) (y3_1 : Bool) (y3_2 : List (List V)) : lp_r01_Compare_0 Q (m0 + 1) x36 x37 y2_0 y2_1 y2_2 y3_0 y3_1 y3_2 = st_r01_Compare_0 Q m0 x36 x37 y2_0 y2_1 y2_2 y3_0 y3_1 y3_2 := by kernel_rfl
theorem rule_r01_Compare_0 (Q : D → Heap → Prop) (I : Int → Int → ByteArray → Bool → List (List V) → ByteArray → Bool → List (List V) → Prop) (μ : Int → Int → ByteArray → Bool → List (List V) → ByteArray → Bool → List (List V) → Nat)
    (hs : ∀ (x36 : Int) (x37 : Int) (y2_0 : ByteArray) (y2_1 : Bool) (y2_2 : List (List V)) (y3_0 : ByteArray) (y3_1 : Bool) (y3_2 : List (List V)), I x36 x37 y2_0 y2_1 y2_2 y3_0 y3_1 y3_2 → ∀ m0 : Nat, (∀ (x36' : Int) (x37' : Int) (y2_0' : ByteArray) (y2_1' : Bool) (y2_2' : List (List V)) (y3_0' : ByteArray) (y3_1' : Bool) (y3_2' : List (List V)), I x36' x37' y2_0' y2_1' y2_2' y3_0' y3_1' y3_2' → μ x36' x37' y2_0' y2_1' y2_2' y3_0' y3_1' y3_2' < μ x36 x37 y2_0 y2_1 y2_2 y3_0 y3_1 y3_2 → lp_r01_Compare_0 Q m0 x36' x37' y2_0' y2_1' y2_2' y3_0' y3_1' y3_2') → st_r01_Compare_0 Q m0 x36 x37 y2_0 y2_1 y2_2 y3_0 y3_1 y3_2) :
    ∀ (x36 : Int) (x37 : Int) (y2_0 : ByteArray) (y2_1 : Bool) (y2_2 : List (List V)) (y3_0 : ByteArray) (y3_1 : Bool) (y3_2 : List (List V)), I x36 x37 y2_0 y2_1 y2_2 y3_0 y3_1 y3_2 → ∃ m0, lp_r01_Compare_0 Q m0 x36 x37 y2_0 y2_1 y2_2 y3_0 y3_1 y3_2 := by
  have key : ∀ (n : Nat) (x36 : Int) (x37 : Int) (y2_0 : ByteArray) (y2_1 : Bool) (y2_2 : List (List V)) (y3_0 : ByteArray) (y3_1 : Bool) (y3_2 : List (List V)), μ x36 x37 y2_0 y2_1 y2_2 y3_0 y3_1 y3_2 < n → I x36 x37 y2_0 y2_1 y2_2 y3_0 y3_1 y3_2 → lp_r01_Compare_0 Q n x36 x37 y2_0 y2_1 y2_2 y3_0 y3_1 y3_2 := by
    intro n
    induction n with
    | zero => intro x36 x37 y2_0 y2_1 y2_2 y3_0 y3_1 y3_2 hm; exact absurd hm (Nat.not_lt_zero _)
    | succ n ih =>
      intro x36 x37 y2_0 y2_1 y2_2 y3_0 y3_1 y3_2 hm hi
      rw [lp_r01_Compare_0_s]
      exact hs x36 x37 y2_0 y2_1 y2_2 y3_0 y3_1 y3_2 hi n fun x36' x37' y2_0' y2_1' y2_2' y3_0' y3_1' y3_2' hq hlt => ih x36' x37' y2_0' y2_1' y2_2' y3_0' y3_1' y3_2' (Nat.lt_of_lt_of_le hlt (Nat.le_of_lt_succ hm)) hq
  intro x36 x37 y2_0 y2_1 y2_2 y3_0 y3_1 y3_2 hi
  exact ⟨μ x36 x37 y2_0 y2_1 y2_2 y3_0 y3_1 y3_2 + 1, key _ x36 x37 y2_0 y2_1 y2_2 y3_0 y3_1 y3_2 (Nat.lt_succ_self _) hi⟩
theorem range_r01_Compare_0 (Q : D → Heap → Prop) (y2_0 : ByteArray) (y2_1 : Bool) (y2_2 : List (List V)) (y3_0 : ByteArray) (y3_1 : Bool) (y3_2 : List (List V)) (n : Nat) (hb : n ≤ big) (J : Nat → Prop)
    (step : ∀ (k : Nat), k < n → J k → ∀ K : Prop, (J (k + 1) → K) → (0 ≤ (k : Int) ∧ (k : Int) < y2_2.length ∧ 0 ≤ (k : Int) ∧ (k : Int) < y3_2.length ∧ cl f_r01_Compare [.agg [.v .str (((y2_2.getD k []).drop 0).headD V.none), .v .bool ((((y2_2.getD k []).drop 0).tail).headD V.none), .v (.sl t_Term) (((((y2_2.getD k []).drop 0).tail).tail).headD V.none)], .agg [.v .str (((y3_2.getD k []).drop 0).headD V.none), .v .bool ((((y3_2.getD k []).drop 0).tail).headD V.none), .v (.sl t_Term) (((((y3_2.getD k []).drop 0).tail).tail).headD V.none)]] [] fun r1 H2 => r1 = (.v (.int .i64) (r1.V)) ∧ H2 = [] ∧ iff (r1.V.int != (0 : Int)) (True ∧ Q (.v (.int .i64) (r1.V)) []) (K)))
    (last : J n → (True ∧ Q (.v (.int .i64) (V.i 0)) []))
    (k : Nat) (le0 : k ≤ n) (hj : J k) : ∃ m0, lp_r01_Compare_0 Q m0 (n : Int) ((k : Int)) y2_0 y2_1 y2_2 y3_0 y3_1 y3_2 := by
  refine rule_r01_Compare_0 Q (fun x36' x37' y2_0' y2_1' y2_2' y3_0' y3_1' y3_2' => (n : Int) = x36' ∧ y2_0 = y2_0' ∧ y2_1 = y2_1' ∧ y2_2 = y2_2' ∧ y3_0 = y3_0' ∧ y3_1 = y3_1' ∧ y3_2 = y3_2' ∧ ∃ k : Nat, (k : Int) = x37' ∧ k ≤ n ∧ J k) (fun x36' x37' y2_0' y2_1' y2_2' y3_0' y3_1' y3_2' => (n : Int).toNat - x37'.toNat) ?_ ((n : Int)) ((k : Int)) y2_0 y2_1 y2_2 y3_0 y3_1 y3_2 ⟨rfl, rfl, rfl, rfl, rfl, rfl, rfl, k, rfl, le0, hj⟩
  rintro x36' x37' y2_0' y2_1' y2_2' y3_0' y3_1' y3_2' ⟨rfl, rfl, rfl, rfl, rfl, rfl, rfl, k', rfl, hk, hj⟩ m hi
  have key : ∀ (b : Bool), b = decide ((k' : Int) < (n : Int)) → b = decide (k' < n) := fun b h => by rw [h]; simp
  by_cases hlt : k' < n
  · have hlt2 : (k' : Int) < (n : Int) := by omega
    have hw : IntKind.i64.wrap ((k' : Int) + (1 : Int)) = ((k' + 1 : Nat) : Int) := wrap_next k' (Nat.lt_of_lt_of_le hlt hb)
    refine iff_yes (decide_eq_true hlt2) ?_
    refine step k' hlt hj (lp_r01_Compare_0 Q m (n : Int) (IntKind.i64.wrap ((k' : Int) + (1 : Int))) y2_0 y2_1 y2_2 y3_0 y3_1 y3_2) (fun h => ?_)
    show lp_r01_Compare_0 Q m (n : Int) (IntKind.i64.wrap ((k' : Int) + (1 : Int))) y2_0 y2_1 y2_2 y3_0 y3_1 y3_2
    rw [hw]
    exact hi ((n : Int)) (((k' + 1 : Nat) : Int)) y2_0 y2_1 y2_2 y3_0 y3_1 y3_2 ⟨rfl, rfl, rfl, rfl, rfl, rfl, rfl, k' + 1, rfl, hlt, h⟩ (by simp only [Int.toNat_natCast]; omega)
  · have he : k' = n := Nat.le_antisymm hk (Nat.le_of_not_lt hlt)
    subst he
    exact iff_no (decide_eq_false (by omega)) (last hj)
def vc_r01_Compare (a0_0 : ByteArray) (a0_1 : Bool) (a0_2 : List (List V)) (a1_0 : ByteArray) (a1_1 : Bool) (a1_2 : List (List V)) (Q : D → Heap → Prop) : Prop :=
  iff (!(a0_1 == a1_1)) (iff a0_1 (True ∧ Q (.v (.int .i64) (V.i (-1))) []) (True ∧ Q (.v (.int .i64) (V.i 1)) [])) (cl f_r01_CompareNames [.v .str (V.s a0_0), .v .str (V.s a1_0)] [] fun r1 H2 => r1 = (.v (.int .i64) (r1.V)) ∧ H2 = [] ∧ iff (r1.V.int != (0 : Int)) (True ∧ Q (.v (.int .i64) (r1.V)) []) ((a0_2.length ≤ big → (a1_2.length ≤ big → cl f_r01_CompareInts [.v (.int .i64) (V.i ((a0_2.length : Int))), .v (.int .i64) (V.i ((a1_2.length : Int)))] [] fun r3 H4 => r3 = (.v (.int .i64) (r3.V)) ∧ H4 = [] ∧ iff (r3.V.int != (0 : Int)) (True ∧ Q (.v (.int .i64) (r3.V)) []) ((a0_2.length ≤ big → ∃ m0, lp_r01_Compare_0 Q m0 ((a0_2.length : Int)) 0 a0_0 a0_1 a0_2 a1_0 a1_1 a1_2))))))
theorem C_r01_Compare (a0_0 : ByteArray) (a0_1 : Bool) (a0_2 : List (List V)) (a1_0 : ByteArray) (a1_1 : Bool) (a1_2 : List (List V)) (Q : D → Heap → Prop) (h : vc_r01_Compare a0_0 a0_1 a0_2 a1_0 a1_1 a1_2 Q) : cl f_r01_Compare [.agg [.v .str (V.s a0_0), .v .bool (V.b a0_1), .v (.sl t_Term) (V.l a0_2)], .agg [.v .str (V.s a1_0), .v .bool (V.b a1_1), .v (.sl t_Term) (V.l a1_2)]] [] Q :=
  acalls_of_fn (envOk adj_r01_Compare cut_r01_Compare lit_r01_Compare frz_r01_Compare jns_r01_Compare) 0 Try.func38 (by rw [show evFn (envA adj_r01_Compare cut_r01_Compare lit_r01_Compare frz_r01_Compare jns_r01_Compare) Try.f38 0 [.agg [.v .str (V.s a0_0), .v .bool (V.b a0_1), .v (.sl t_Term) (V.l a0_2)], .agg [.v .str (V.s a1_0), .v .bool (V.b a1_1), .v (.sl t_Term) (V.l a1_2)]] [] Q = vc_r01_Compare a0_0 a0_1 a0_2 a1_0 a1_1 a1_2 Q from by kernel_rfl]; exact h)
/-! dwindle/path.Of -/
def adj_path_Of : List (Nat × List Adj) := []
def cut_path_Of : List (Nat × Nat) := []
def lit_path_Of : List Nat := []
def frz_path_Of : List (Nat × List Frz) := []
def jns_path_Of : List Nat := []
def env_path_Of : Env := envA adj_path_Of cut_path_Of lit_path_Of frz_path_Of jns_path_Of
def vc_path_Of (a0 : List (List V)) (a1 : ByteArray) (Q : D → Heap → Prop) : Prop :=
  cl f_slices_BinarySearchFunc_Rank_string [.v (.sl t_Rank) (V.l a0), .v .str (V.s a1), .fn f_path_Of_1 []] [] fun r1 H2 => r1 = (.tup [.v (.int .i64) ((r1.parts.headD .undef).V), .v .bool ((r1.parts.tail.headD .undef).V)]) ∧ H2 = [] ∧ iff (!(((r1.parts.tail.headD .undef).V).bool)) ((True ∧ True ∧ True ∧ True) ∧ Q (.agg [.v .str (V.s (ByteArray.mk #[])), .v (.int .i64) (V.i 0), .v (.int .i64) (V.i 0)]) []) (0 ≤ (((r1.parts.headD .undef).V).int) ∧ (((r1.parts.headD .undef).V).int) < a0.length ∧ (True ∧ True ∧ True ∧ True) ∧ Q (.agg [.v .str (((a0.getD ((((r1.parts.headD .undef).V).int)).toNat []).drop 0).headD V.none), .v (.int .i64) ((((a0.getD ((((r1.parts.headD .undef).V).int)).toNat []).drop 0).tail).headD V.none), .v (.int .i64) (((((a0.getD ((((r1.parts.headD .undef).V).int)).toNat []).drop 0).tail).tail).headD V.none)]) [])
theorem C_path_Of (a0 : List (List V)) (a1 : ByteArray) (Q : D → Heap → Prop) (h : vc_path_Of a0 a1 Q) : cl f_path_Of [.v (.sl t_Rank) (V.l a0), .v .str (V.s a1)] [] Q :=
  acalls_of_fn (envOk adj_path_Of cut_path_Of lit_path_Of frz_path_Of jns_path_Of) 0 Try.func39 (by rw [show evFn (envA adj_path_Of cut_path_Of lit_path_Of frz_path_Of jns_path_Of) Try.f39 0 [.v (.sl t_Rank) (V.l a0), .v .str (V.s a1)] [] Q = vc_path_Of a0 a1 Q from by kernel_rfl]; exact h)
/-! dwindle/path.Names[dwindle/api.Rank] -/
def adj_path_Names_Rank_pathCheck1 : List (Nat × List Adj) := [(4, [.undef 4, .undef 5, .undef 6, .undef 7, .undef 8, .undef 9, .undef 13, .undef 14, .undef 15, .undef 16, .undef 17, .undef 18, .undef 19, .undef 20, .undef 21, .undef 22, .undef 23, .undef 24, .undef 25, .undef 26, .undef 27, .undef 28, .undef 29, .undef 30, .undef 31, .undef 32, .undef 33, .undef 34, .undef 35, .undef 36, .undef 37, .undef 38, .undef 39, .dead 6, .dead 19, .dead 20, .dead 28, .dead 35])]
def cut_path_Names_Rank_pathCheck1 : List (Nat × Nat) := [(6, 18)]
def lit_path_Names_Rank_pathCheck1 : List Nat := []
def frz_path_Names_Rank_pathCheck1 : List (Nat × List Frz) := []
def jns_path_Names_Rank_pathCheck1 : List Nat := []
def env_path_Names_Rank_pathCheck1 : Env := envA adj_path_Names_Rank_pathCheck1 cut_path_Names_Rank_pathCheck1 lit_path_Names_Rank_pathCheck1 frz_path_Names_Rank_pathCheck1 jns_path_Names_Rank_pathCheck1
@[irreducible] def lp_path_Names_Rank_pathCheck1_0 (Q : D → Heap → Prop) (m0 : Nat) (x0 : List (List V)) (x10 : List (List V)) (x11 : Int) (x12 : Int) : Prop :=
  iter (adj (adjLook adj_path_Names_Rank_pathCheck1 4)) (evCode env_path_Names_Rank_pathCheck1 (fnAt [1, 1, 0, 1, 0, 0] Try.f40)) (blockK 0 (seqK (adj (adjLook adj_path_Names_Rank_pathCheck1 (3000000 + key (fnAt [1, 1, 1] Try.f40)))) (joinIf (env_path_Names_Rank_pathCheck1.join (key (fnAt [1, 1, 1] Try.f40))) (evCode env_path_Names_Rank_pathCheck1 (fnAt [1, 1, 1] Try.f40))) (endK env_path_Names_Rank_pathCheck1 Try.f40 Q))) m0 ⟨[.v (.sl t_Rank) (V.l x0), .fn f_path_Check_1 [], .skip, .skip, .undef, .undef, .undef, .undef, .undef, .undef, .v (.sl t_Rank) (V.l x10), .v (.int .i64) (V.i x11), .v (.int .i64) (V.i x12), .undef, .undef, .undef, .undef, .undef, .undef, .undef, .undef, .undef, .undef, .undef, .undef, .undef, .undef, .undef, .undef, .undef, .undef, .undef, .undef, .undef, .undef, .undef, .undef, .undef, .undef, .undef], [.dead, .dead, .dead, .dead, .dead, .dead, .dead, .dead, .dead, .dead, .dead, .dead, .dead, .dead, .dead, .dead, .dead, .dead, .dead, .dead, .dead, .dead, .dead, .dead, .dead, .dead, .dead, .dead, .dead, .dead, .dead, .dead, .dead, .dead, .dead, .dead, .dead, .dead, .dead, .dead]⟩ []
def st_path_Names_Rank_pathCheck1_0 (Q : D → Heap → Prop) (m0 : Nat) (x0 : List (List V)) (x10 : List (List V)) (x11 : Int) (x12 : Int) : Prop :=
  iff (decide (x12 < x11)) (0 ≤ x12 ∧ x12 < x10.length ∧ (∃ r1 : D, cl f_path_Check_1 [.agg [.v .str (((x10.getD x12.toNat []).drop 0).headD V.none), .v (.int .i64) ((((x10.getD x12.toNat []).drop 0).tail).headD V.none), .v (.int .i64) (((((x10.getD x12.toNat []).drop 0).tail).tail).headD V.none)]] [] (fun r H' => r = (.v .str (r1.V)) ∧ H' = []) ∧ (∃ r2 : D, cl f_term_IsName [.v .str (r1.V), .v .bool (V.b true)] [] (fun r H' => r = (.v .bool (r2.V)) ∧ H' = []) ∧ iff (!r2.V.bool) (True ∧ Q (.v (.int .i64) (V.i 4)) []) (iff (decide (x12 > (0 : Int))) ((∃ r3 : D, cl f_path_Check_1 [.agg [.v .str (((x10.getD x12.toNat []).drop 0).headD V.none), .v (.int .i64) ((((x10.getD x12.toNat []).drop 0).tail).headD V.none), .v (.int .i64) (((((x10.getD x12.toNat []).drop 0).tail).tail).headD V.none)]] [] (fun r H' => r = (.v .str (r3.V)) ∧ H' = []) ∧ 0 ≤ (IntKind.i64.wrap (x12 - (1 : Int))) ∧ (IntKind.i64.wrap (x12 - (1 : Int))) < x0.length ∧ cl f_path_Check_1 [.agg [.v .str (((x0.getD ((IntKind.i64.wrap (x12 - (1 : Int)))).toNat []).drop 0).headD V.none), .v (.int .i64) ((((x0.getD ((IntKind.i64.wrap (x12 - (1 : Int)))).toNat []).drop 0).tail).headD V.none), .v (.int .i64) (((((x0.getD ((IntKind.i64.wrap (x12 - (1 : Int)))).toNat []).drop 0).tail).tail).headD V.none)]] [] fun r4 H5 => r4 = (.v .str (r4.V)) ∧ H5 = [] ∧ iff (Op.bytesLess r3.V.str.toList r4.V.str.toList || r3.V.str.toList == r4.V.str.toList) (True ∧ Q (.v (.int .i64) (V.i 4)) []) (lp_path_Names_Rank_pathCheck1_0 Q m0 x0 x10 x11 (IntKind.i64.wrap (x12 + (1 : Int)))))) (lp_path_Names_Rank_pathCheck1_0 Q m0 x0 x10 x11 (IntKind.i64.wrap (x12 + (1 : Int)))))))) (True ∧ Q (.v (.int .i64) (V.i 0)) [])
theorem lp_path_Names_Rank_pathCheck1_0_s (Q : D → Heap → Prop) (m0 : Nat) (x0 : List (List V)) (x10 : List (List V)) (x11 : Int) (x12 : Int) : lp_path_Names_Rank_pathCheck1_0 Q (m0 + 1) x0 x10 x11 x12 = st_path_Names_Rank_pathCheck1_0 Q m0 x0 x10 x11 x12 := by kernel_rfl
theorem rule_path_Names_Rank_pathCheck1_0 (Q : D → Heap → Prop) (I : List (List V) → List (List V) → Int → Int → Prop) (μ : List (List V) → List (List V) → Int → Int → Nat)
    (hs : ∀ (x0 : List (List V)) (x10 : List (List V)) (x11 : Int) (x12 : Int), I x0 x10 x11 x12 → ∀ m0 : Nat, (∀ (x0' : List (List V)) (x10' : List (List V)) (x11' : Int) (x12' : Int), I x0' x10' x11' x12' → μ x0' x10' x11' x12' < μ x0 x10 x11 x12 → lp_path_Names_Rank_pathCheck1_0 Q m0 x0' x10' x11' x12') → st_path_Names_Rank_pathCheck1_0 Q m0 x0 x10 x11 x12) :
    ∀ (x0 : List (List V)) (x10 : List (List V)) (x11 : Int) (x12 : Int), I x0 x10 x11 x12 → ∃ m0, lp_path_Names_Rank_pathCheck1_0 Q m0 x0 x10 x11 x12 := by
  have key : ∀ (n : Nat) (x0 : List (List V)) (x10 : List (List V)) (x11 : Int) (x12 : Int), μ x0 x10 x11 x12 < n → I x0 x10 x11 x12 → lp_path_Names_Rank_pathCheck1_0 Q n x0 x10 x11 x12 := by
    intro n
    induction n with
    | zero => intro x0 x10 x11 x12 hm; exact absurd hm (Nat.not_lt_zero _)
    | succ n ih =>
      intro x0 x10 x11 x12 hm hi
      rw [lp_path_Names_Rank_pathCheck1_0_s]
      exact hs x0 x10 x11 x12 hi n fun x0' x10' x11' x12' hq hlt => ih x0' x10' x11' x12' (Nat.lt_of_lt_of_le hlt (Nat.le_of_lt_succ hm)) hq
  intro x0 x10 x11 x12 hi
  exact ⟨μ x0 x10 x11 x12 + 1, key _ x0 x10 x11 x12 (Nat.lt_succ_self _) hi⟩
theorem range_path_Names_Rank_pathCheck1_0 (Q : D → Heap → Prop) (x0 : List (List V)) (x10 : List (List V)) (n : Nat) (hb : n ≤ big) (J : Nat → Prop)
    (step : ∀ (k : Nat), k < n → J k → ∀ K : Prop, (J (k + 1) → K) → (0 ≤ (k : Int) ∧ (k : Int) < x10.length ∧ (∃ r1 : D, cl f_path_Check_1 [.agg [.v .str (((x10.getD k []).drop 0).headD V.none), .v (.int .i64) ((((x10.getD k []).drop 0).tail).headD V.none), .v (.int .i64) (((((x10.getD k []).drop 0).tail).tail).headD V.none)]] [] (fun r H' => r = (.v .str (r1.V)) ∧ H' = []) ∧ (∃ r2 : D, cl f_term_IsName [.v .str (r1.V), .v .bool (V.b true)] [] (fun r H' => r = (.v .bool (r2.V)) ∧ H' = []) ∧ iff (!r2.V.bool) (True ∧ Q (.v (.int .i64) (V.i 4)) []) (iff (decide ((k : Int) > (0 : Int))) ((∃ r3 : D, cl f_path_Check_1 [.agg [.v .str (((x10.getD k []).drop 0).headD V.none), .v (.int .i64) ((((x10.getD k []).drop 0).tail).headD V.none), .v (.int .i64) (((((x10.getD k []).drop 0).tail).tail).headD V.none)]] [] (fun r H' => r = (.v .str (r3.V)) ∧ H' = []) ∧ 0 ≤ (IntKind.i64.wrap ((k : Int) - (1 : Int))) ∧ (IntKind.i64.wrap ((k : Int) - (1 : Int))) < x0.length ∧ cl f_path_Check_1 [.agg [.v .str (((x0.getD ((IntKind.i64.wrap ((k : Int) - (1 : Int)))).toNat []).drop 0).headD V.none), .v (.int .i64) ((((x0.getD ((IntKind.i64.wrap ((k : Int) - (1 : Int)))).toNat []).drop 0).tail).headD V.none), .v (.int .i64) (((((x0.getD ((IntKind.i64.wrap ((k : Int) - (1 : Int)))).toNat []).drop 0).tail).tail).headD V.none)]] [] fun r4 H5 => r4 = (.v .str (r4.V)) ∧ H5 = [] ∧ iff (Op.bytesLess r3.V.str.toList r4.V.str.toList || r3.V.str.toList == r4.V.str.toList) (True ∧ Q (.v (.int .i64) (V.i 4)) []) (K))) (K))))))
    (last : J n → (True ∧ Q (.v (.int .i64) (V.i 0)) []))
    (k : Nat) (le0 : k ≤ n) (hj : J k) : ∃ m0, lp_path_Names_Rank_pathCheck1_0 Q m0 x0 x10 (n : Int) ((k : Int)) := by
  refine rule_path_Names_Rank_pathCheck1_0 Q (fun x0' x10' x11' x12' => x0 = x0' ∧ x10 = x10' ∧ (n : Int) = x11' ∧ ∃ k : Nat, (k : Int) = x12' ∧ k ≤ n ∧ J k) (fun x0' x10' x11' x12' => (n : Int).toNat - x12'.toNat) ?_ x0 x10 ((n : Int)) ((k : Int)) ⟨rfl, rfl, rfl, k, rfl, le0, hj⟩
  rintro x0' x10' x11' x12' ⟨rfl, rfl, rfl, k', rfl, hk, hj⟩ m hi
  have key : ∀ (b : Bool), b = decide ((k' : Int) < (n : Int)) → b = decide (k' < n) := fun b h => by rw [h]; simp
  by_cases hlt : k' < n
  · have hlt2 : (k' : Int) < (n : Int) := by omega
    have hw : IntKind.i64.wrap ((k' : Int) + (1 : Int)) = ((k' + 1 : Nat) : Int) := wrap_next k' (Nat.lt_of_lt_of_le hlt hb)
    refine iff_yes (decide_eq_true hlt2) ?_
    refine step k' hlt hj (lp_path_Names_Rank_pathCheck1_0 Q m x0 x10 (n : Int) (IntKind.i64.wrap ((k' : Int) + (1 : Int)))) (fun h => ?_)
    show lp_path_Names_Rank_pathCheck1_0 Q m x0 x10 (n : Int) (IntKind.i64.wrap ((k' : Int) + (1 : Int)))
    rw [hw]
    exact hi x0 x10 ((n : Int)) (((k' + 1 : Nat) : Int)) ⟨rfl, rfl, rfl, k' + 1, rfl, hlt, h⟩ (by simp only [Int.toNat_natCast]; omega)
  · have he : k' = n := Nat.le_antisymm hk (Nat.le_of_not_lt hlt)
    subst he
    exact iff_no (decide_eq_false (by omega)) (last hj)
def vc_path_Names_Rank_pathCheck1 (a0 : List (List V)) (Q : D → Heap → Prop) : Prop :=
  (a0.length ≤ big → iff (decide (((a0.length : Int)) > (256 : Int))) (True ∧ Q (.v (.int .i64) (V.i 3)) []) ((a0.length ≤ big → ∃ m0, lp_path_Names_Rank_pathCheck1_0 Q m0 a0 a0 ((a0.length : Int)) 0)))
theorem C_path_Names_Rank_pathCheck1 (a0 : List (List V)) (Q : D → Heap → Prop) (h : vc_path_Names_Rank_pathCheck1 a0 Q) : cl f_path_Names_Rank [.v (.sl t_Rank) (V.l a0), .fn f_path_Check_1 []] [] Q :=
  acalls_of_fn (envOk adj_path_Names_Rank_pathCheck1 cut_path_Names_Rank_pathCheck1 lit_path_Names_Rank_pathCheck1 frz_path_Names_Rank_pathCheck1 jns_path_Names_Rank_pathCheck1) 0 Try.func40 (by rw [show evFn (envA adj_path_Names_Rank_pathCheck1 cut_path_Names_Rank_pathCheck1 lit_path_Names_Rank_pathCheck1 frz_path_Names_Rank_pathCheck1 jns_path_Names_Rank_pathCheck1) Try.f40 0 [.v (.sl t_Rank) (V.l a0), .fn f_path_Check_1 []] [] Q = vc_path_Names_Rank_pathCheck1 a0 Q from by kernel_rfl]; exact h)
/-! slices.ContainsFunc[[]dwindle/api.Rank,dwindle/api.Rank] -/
def adj_slices_ContainsFunc_Rank_pathCheck2 : List (Nat × List Adj) := []
def cut_slices_ContainsFunc_Rank_pathCheck2 : List (Nat × Nat) := []
def lit_slices_ContainsFunc_Rank_pathCheck2 : List Nat := []
def frz_slices_ContainsFunc_Rank_pathCheck2 : List (Nat × List Frz) := []
def jns_slices_ContainsFunc_Rank_pathCheck2 : List Nat := []
def env_slices_ContainsFunc_Rank_pathCheck2 : Env := envA adj_slices_ContainsFunc_Rank_pathCheck2 cut_slices_ContainsFunc_Rank_pathCheck2 lit_slices_ContainsFunc_Rank_pathCheck2 frz_slices_ContainsFunc_Rank_pathCheck2 jns_slices_ContainsFunc_Rank_pathCheck2
def vc_slices_ContainsFunc_Rank_pathCheck2 (a0 : List (List V)) (Q : D → Heap → Prop) : Prop :=
  cl f_slices_IndexFunc_Rank [.v (.sl t_Rank) (V.l a0), .fn f_path_Check_2 []] [] fun r1 H2 => r1 = (.v (.int .i64) (r1.V)) ∧ H2 = [] ∧ True ∧ Q (.v .bool (V.b (decide (r1.V.int ≥ (0 : Int))))) []
theorem C_slices_ContainsFunc_Rank_pathCheck2 (a0 : List (List V)) (Q : D → Heap → Prop) (h : vc_slices_ContainsFunc_Rank_pathCheck2 a0 Q) : cl f_slices_ContainsFunc_Rank [.v (.sl t_Rank) (V.l a0), .fn f_path_Check_2 []] [] Q :=
  acalls_of_fn (envOk adj_slices_ContainsFunc_Rank_pathCheck2 cut_slices_ContainsFunc_Rank_pathCheck2 lit_slices_ContainsFunc_Rank_pathCheck2 frz_slices_ContainsFunc_Rank_pathCheck2 jns_slices_ContainsFunc_Rank_pathCheck2) 0 Try.func42 (by rw [show evFn (envA adj_slices_ContainsFunc_Rank_pathCheck2 cut_slices_ContainsFunc_Rank_pathCheck2 lit_slices_ContainsFunc_Rank_pathCheck2 frz_slices_ContainsFunc_Rank_pathCheck2 jns_slices_ContainsFunc_Rank_pathCheck2) Try.f42 0 [.v (.sl t_Rank) (V.l a0), .fn f_path_Check_2 []] [] Q = vc_slices_ContainsFunc_Rank_pathCheck2 a0 Q from by kernel_rfl]; exact h)
/-! dwindle/term.Check -/
def adj_term_Check : List (Nat × List Adj) := []
def cut_term_Check : List (Nat × Nat) := []
def lit_term_Check : List Nat := []
def frz_term_Check : List (Nat × List Frz) := []
def jns_term_Check : List Nat := []
def env_term_Check : Env := envA adj_term_Check cut_term_Check lit_term_Check frz_term_Check jns_term_Check
def vc_term_Check (a0_0 : ByteArray) (a0_1 : Bool) (a0_2 : List (List V)) (Q : D → Heap → Prop) : Prop :=
  cl f_term_formed [.agg [.v .str (V.s a0_0), .v .bool (V.b a0_1), .v (.sl t_Term) (V.l a0_2)]] [] fun r1 H2 => r1 = (.v .bool (r1.V)) ∧ H2 = [] ∧ iff (!r1.V.bool) (True ∧ Q (.v (.int .i64) (V.i 4)) []) (cl f_term_fits [.agg [.v .str (V.s a0_0), .v .bool (V.b a0_1), .v (.sl t_Term) (V.l a0_2)]] [] fun r3 H4 => r3 = (.v .bool (r3.V)) ∧ H4 = [] ∧ iff (!r3.V.bool) (True ∧ Q (.v (.int .i64) (V.i 3)) []) (True ∧ Q (.v (.int .i64) (V.i 0)) []))
theorem C_term_Check (a0_0 : ByteArray) (a0_1 : Bool) (a0_2 : List (List V)) (Q : D → Heap → Prop) (h : vc_term_Check a0_0 a0_1 a0_2 Q) : cl f_term_Check [.agg [.v .str (V.s a0_0), .v .bool (V.b a0_1), .v (.sl t_Term) (V.l a0_2)]] [] Q :=
  acalls_of_fn (envOk adj_term_Check cut_term_Check lit_term_Check frz_term_Check jns_term_Check) 0 Try.func44 (by rw [show evFn (envA adj_term_Check cut_term_Check lit_term_Check frz_term_Check jns_term_Check) Try.f44 0 [.agg [.v .str (V.s a0_0), .v .bool (V.b a0_1), .v (.sl t_Term) (V.l a0_2)]] [] Q = vc_term_Check a0_0 a0_1 a0_2 Q from by kernel_rfl]; exact h)
/-! dwindle/path.nodes -/
def adj_path_nodes_nil : List (Nat × List Adj) := [(1000000, [.ownT 1 33 t_path_node]), (3, [.undef 0, .undef 2, .undef 4, .undef 7, .undef 8, .undef 9, .undef 10, .undef 14, .undef 15, .undef 16, .undef 17, .undef 18, .undef 19, .undef 20, .undef 21, .undef 22, .undef 23, .undef 24, .undef 25, .undef 26, .undef 27, .undef 28, .dead 2, .dead 7, .dead 19, .dead 23, .dead 25, .dead 26, .ownC 5 3 34 t_int])]
def cut_path_nodes_nil : List (Nat × Nat) := []
def lit_path_nodes_nil : List Nat := []
def frz_path_nodes_nil : List (Nat × List Frz) := [(8, [⟨5, 3, 34⟩])]
def jns_path_nodes_nil : List Nat := []
def env_path_nodes_nil : Env := envA adj_path_nodes_nil cut_path_nodes_nil lit_path_nodes_nil frz_path_nodes_nil jns_path_nodes_nil
@[irreducible] def lp_path_nodes_nil_0 (Q : D → Heap → Prop) (m0 : Nat) (x1n : Nat) (x11 : List (List V)) (x12 : Int) (x13 : Int) (y5_0 : ByteArray) (y5_1 : Bool) (y5_2 : List (List V)) (y5_3n : Nat) (y33 : List (List V)) (y34 : List (List V)) : Prop :=
  iter (adj (adjLook adj_path_nodes_nil 3)) (evCode env_path_nodes_nil (fnAt [1, 1, 0, 1, 0, 0] Try.f45)) (blockK 0 (seqK (adj (adjLook adj_path_nodes_nil (3000000 + key (fnAt [1, 1, 1] Try.f45)))) (joinIf (env_path_nodes_nil.join (key (fnAt [1, 1, 1] Try.f45))) (evCode env_path_nodes_nil (fnAt [1, 1, 1] Try.f45))) (endK env_path_nodes_nil Try.f45 Q))) m0 ⟨[.undef, .osl (.loc 33) x1n, .undef, .skip, .undef, .ptr (.loc 5) 0, .skip, .undef, .undef, .undef, .undef, .v (.sl t_Term) (V.l x11), .v (.int .i64) (V.i x12), .v (.int .i64) (V.i x13), .undef, .undef, .undef, .undef, .undef, .undef, .undef, .undef, .undef, .undef, .undef, .undef, .undef, .undef, .undef, .skip, .skip, .skip, .skip], [.dead, .dead, .dead, .dead, .dead, .cells [.v .str (V.s y5_0), .v .bool (V.b y5_1), .v (.sl t_Term) (V.l y5_2), .osl (.loc 34) y5_3n], .dead, .dead, .dead, .dead, .dead, .dead, .dead, .dead, .dead, .dead, .dead, .dead, .dead, .dead, .dead, .dead, .dead, .dead, .dead, .dead, .dead, .dead, .dead, .dead, .dead, .dead, .dead, .row t_path_node y33, .row t_int y34]⟩ []
def st_path_nodes_nil_0 (Q : D → Heap → Prop) (m0 : Nat) (x1n : Nat) (x11 : List (List V)) (x12 : Int) (x13 : Int) (y5_0 : ByteArray) (y5_1 : Bool) (y5_2 : List (List V)) (y5_3n : Nat) (y33 : List (List V)) (y34 : List (List V)) : Prop :=
  iff (decide (x13 < x12)) (0 ≤ x13 ∧ x13 < x11.length ∧ cl f_path_nodes [.agg [.v .str (((x11.getD x13.toNat []).drop 0).headD V.none), .v .bool ((((x11.getD x13.toNat []).drop 0).tail).headD V.none), .v (.sl t_Term) (((((x11.getD x13.toNat []).drop 0).tail).tail).headD V.none)], .osl (.own 0) x1n] [.row t_path_node y33] fun r1 H2 => r1 = (.osl (.own 0) r1.len) ∧ H2 = [.row t_path_node ((H2.headD .dead).xs)] ∧ ((H2.headD .dead).xs).length = r1.len ∧ (r1.len ≤ big → y34.length = y5_3n ∧ y5_3n + ([[V.i (IntKind.i64.wrap ((((r1.len : Nat) : Int)) - (1 : Int)))]]).length ≤ lim ∧ lp_path_nodes_nil_0 Q m0 r1.len x11 x12 (IntKind.i64.wrap (x13 + (1 : Int))) y5_0 y5_1 y5_2 (y5_3n + ([[V.i (IntKind.i64.wrap ((((r1.len : Nat) : Int)) - (1 : Int)))]]).length) ((H2.headD .dead).xs) (y34 ++ ([[V.i (IntKind.i64.wrap ((((r1.len : Nat) : Int)) - (1 : Int)))]])))) (y5_3n = y34.length ∧ y33.length = x1n ∧ x1n + ([[V.s y5_0, V.b y5_1, V.l y5_2, V.l y34]]).length ≤ lim ∧ (x1n + ([[V.s y5_0, V.b y5_1, V.l y5_2, V.l y34]]).length = (y33 ++ ([[V.s y5_0, V.b y5_1, V.l y5_2, V.l y34]])).length) ∧ Q (.v (.sl t_path_node) (V.l (y33 ++ ([[V.s y5_0, V.b y5_1, V.l y5_2, V.l y34]])))) [])
theorem lp_path_nodes_nil_0_s (Q : D → Heap → Prop) (m0 : Nat) (x1n : Nat) (x11 : List (List V)) (x12 : Int) (x13 : Int) (y5_0 : ByteArray) (y5_1 : Bool) (y5_2 : List (List V)) (y5_3n : Nat) (y33 : List (List V)) (y34 : List (List V)) : lp_path_nodes_nil_0 Q (m0 + 1) x1n x11 x12 x13 y5_0 y5_1 y5_2 y5_3n y33 y34 = st_path_nodes_nil_0 Q m0 x1n x11 x12 x13 y5_0 y5_1 y5_2 y5_3n y33 y34 := by kernel_rfl
theorem rule_path_nodes_nil_0 (Q : D → Heap → Prop) (I : Nat → List (List V) → Int → Int → ByteArray → Bool → List (List V) → Nat → List (List V) → List (List V) → Prop) (μ : Nat → List (List V) → Int → Int → ByteArray → Bool → List (List V) → Nat → List (List V) → List (List V) → Nat)
    (hs : ∀ (x1n : Nat) (x11 : List (List V)) (x12 : Int) (x13 : Int) (y5_0 : ByteArray) (y5_1 : Bool) (y5_2 : List (List V)) (y5_3n : Nat) (y33 : List (List V)) (y34 : List (List V)), I x1n x11 x12 x13 y5_0 y5_1 y5_2 y5_3n y33 y34 → ∀ m0 : Nat, (∀ (x1n' : Nat) (x11' : List (List V)) (x12' : Int) (x13' : Int) (y5_0' : ByteArray) (y5_1' : Bool) (y5_2' : List (List V)) (y5_3n' : Nat) (y33' : List (List V)) (y34' : List (List V)), I x1n' x11' x12' x13' y5_0' y5_1' y5_2' y5_3n' y33' y34' → μ x1n' x11' x12' x13' y5_0' y5_1' y5_2' y5_3n' y33' y34' < μ x1n x11 x12 x13 y5_0 y5_1 y5_2 y5_3n y33 y34 → lp_path_nodes_nil_0 Q m0 x1n' x11' x12' x13' y5_0' y5_1' y5_2' y5_3n' y33' y34') → st_path_nodes_nil_0 Q m0 x1n x11 x12 x13 y5_0 y5_1 y5_2 y5_3n y33 y34) :
    ∀ (x1n : Nat) (x11 : List (List V)) (x12 : Int) (x13 : Int) (y5_0 : ByteArray) (y5_1 : Bool) (y5_2 : List (List V)) (y5_3n : Nat) (y33 : List (List V)) (y34 : List (List V)), I x1n x11 x12 x13 y5_0 y5_1 y5_2 y5_3n y33 y34 → ∃ m0, lp_path_nodes_nil_0 Q m0 x1n x11 x12 x13 y5_0 y5_1 y5_2 y5_3n y33 y34 := by
  have key : ∀ (n : Nat) (x1n : Nat) (x11 : List (List V)) (x12 : Int) (x13 : Int) (y5_0 : ByteArray) (y5_1 : Bool) (y5_2 : List (List V)) (y5_3n : Nat) (y33 : List (List V)) (y34 : List (List V)), μ x1n x11 x12 x13 y5_0 y5_1 y5_2 y5_3n y33 y34 < n → I x1n x11 x12 x13 y5_0 y5_1 y5_2 y5_3n y33 y34 → lp_path_nodes_nil_0 Q n x1n x11 x12 x13 y5_0 y5_1 y5_2 y5_3n y33 y34 := by
    intro n
    induction n with
    | zero => intro x1n x11 x12 x13 y5_0 y5_1 y5_2 y5_3n y33 y34 hm; exact absurd hm (Nat.not_lt_zero _)
    | succ n ih =>
      intro x1n x11 x12 x13 y5_0 y5_1 y5_2 y5_3n y33 y34 hm hi
      rw [lp_path_nodes_nil_0_s]
      exact hs x1n x11 x12 x13 y5_0 y5_1 y5_2 y5_3n y33 y34 hi n fun x1n' x11' x12' x13' y5_0' y5_1' y5_2' y5_3n' y33' y34' hq hlt => ih x1n' x11' x12' x13' y5_0' y5_1' y5_2' y5_3n' y33' y34' (Nat.lt_of_lt_of_le hlt (Nat.le_of_lt_succ hm)) hq
  intro x1n x11 x12 x13 y5_0 y5_1 y5_2 y5_3n y33 y34 hi
  exact ⟨μ x1n x11 x12 x13 y5_0 y5_1 y5_2 y5_3n y33 y34 + 1, key _ x1n x11 x12 x13 y5_0 y5_1 y5_2 y5_3n y33 y34 (Nat.lt_succ_self _) hi⟩
theorem range_path_nodes_nil_0 (Q : D → Heap → Prop) (x11 : List (List V)) (y5_0 : ByteArray) (y5_1 : Bool) (y5_2 : List (List V)) (n : Nat) (hb : n ≤ big) (J : Nat → Nat → Nat → List (List V) → List (List V) → Prop)
    (step : ∀ (k : Nat) (x1n : Nat) (y5_3n : Nat) (y33 : List (List V)) (y34 : List (List V)), k < n → J k x1n y5_3n y33 y34 → ∀ K : Nat → Nat → List (List V) → List (List V) → Prop, (∀ (x1n' : Nat) (y5_3n' : Nat) (y33' : List (List V)) (y34' : List (List V)), J (k + 1) x1n' y5_3n' y33' y34' → K x1n' y5_3n' y33' y34') → (0 ≤ (k : Int) ∧ (k : Int) < x11.length ∧ cl f_path_nodes [.agg [.v .str (((x11.getD k []).drop 0).headD V.none), .v .bool ((((x11.getD k []).drop 0).tail).headD V.none), .v (.sl t_Term) (((((x11.getD k []).drop 0).tail).tail).headD V.none)], .osl (.own 0) x1n] [.row t_path_node y33] fun r1 H2 => r1 = (.osl (.own 0) r1.len) ∧ H2 = [.row t_path_node ((H2.headD .dead).xs)] ∧ ((H2.headD .dead).xs).length = r1.len ∧ (r1.len ≤ big → y34.length = y5_3n ∧ y5_3n + ([[V.i (IntKind.i64.wrap ((((r1.len : Nat) : Int)) - (1 : Int)))]]).length ≤ lim ∧ K r1.len (y5_3n + ([[V.i (IntKind.i64.wrap ((((r1.len : Nat) : Int)) - (1 : Int)))]]).length) ((H2.headD .dead).xs) (y34 ++ ([[V.i (IntKind.i64.wrap ((((r1.len : Nat) : Int)) - (1 : Int)))]])))))
    (last : ∀ (x1n : Nat) (y5_3n : Nat) (y33 : List (List V)) (y34 : List (List V)), J n x1n y5_3n y33 y34 → (y5_3n = y34.length ∧ y33.length = x1n ∧ x1n + ([[V.s y5_0, V.b y5_1, V.l y5_2, V.l y34]]).length ≤ lim ∧ (x1n + ([[V.s y5_0, V.b y5_1, V.l y5_2, V.l y34]]).length = (y33 ++ ([[V.s y5_0, V.b y5_1, V.l y5_2, V.l y34]])).length) ∧ Q (.v (.sl t_path_node) (V.l (y33 ++ ([[V.s y5_0, V.b y5_1, V.l y5_2, V.l y34]])))) []))
    (k : Nat) (x1n : Nat) (y5_3n : Nat) (y33 : List (List V)) (y34 : List (List V)) (le0 : k ≤ n) (hj : J k x1n y5_3n y33 y34) : ∃ m0, lp_path_nodes_nil_0 Q m0 x1n x11 (n : Int) ((k : Int)) y5_0 y5_1 y5_2 y5_3n y33 y34 := by
  refine rule_path_nodes_nil_0 Q (fun x1n' x11' x12' x13' y5_0' y5_1' y5_2' y5_3n' y33' y34' => x11 = x11' ∧ (n : Int) = x12' ∧ y5_0 = y5_0' ∧ y5_1 = y5_1' ∧ y5_2 = y5_2' ∧ ∃ k : Nat, (k : Int) = x13' ∧ k ≤ n ∧ J k x1n' y5_3n' y33' y34') (fun x1n' x11' x12' x13' y5_0' y5_1' y5_2' y5_3n' y33' y34' => (n : Int).toNat - x13'.toNat) ?_ x1n x11 ((n : Int)) ((k : Int)) y5_0 y5_1 y5_2 y5_3n y33 y34 ⟨rfl, rfl, rfl, rfl, rfl, k, rfl, le0, hj⟩
  rintro x1n' x11' x12' x13' y5_0' y5_1' y5_2' y5_3n' y33' y34' ⟨rfl, rfl, rfl, rfl, rfl, k', rfl, hk, hj⟩ m hi
  have key : ∀ (b : Bool), b = decide ((k' : Int) < (n : Int)) → b = decide (k' < n) := fun b h => by rw [h]; simp
  by_cases hlt : k' < n
  · have hlt2 : (k' : Int) < (n : Int) := by omega
    have hw : IntKind.i64.wrap ((k' : Int) + (1 : Int)) = ((k' + 1 : Nat) : Int) := wrap_next k' (Nat.lt_of_lt_of_le hlt hb)
    refine iff_yes (decide_eq_true hlt2) ?_
    refine step k' x1n' y5_3n' y33' y34' hlt hj (fun x1n'' y5_3n'' y33'' y34'' => lp_path_nodes_nil_0 Q m x1n'' x11 (n : Int) (IntKind.i64.wrap ((k' : Int) + (1 : Int))) y5_0 y5_1 y5_2 y5_3n'' y33'' y34'') (fun x1n'' y5_3n'' y33'' y34'' h => ?_)
    show lp_path_nodes_nil_0 Q m x1n'' x11 (n : Int) (IntKind.i64.wrap ((k' : Int) + (1 : Int))) y5_0 y5_1 y5_2 y5_3n'' y33'' y34''
    rw [hw]
    exact hi x1n'' x11 ((n : Int)) (((k' + 1 : Nat) : Int)) y5_0 y5_1 y5_2 y5_3n'' y33'' y34'' ⟨rfl, rfl, rfl, rfl, rfl, k' + 1, rfl, hlt, h⟩ (by simp only [Int.toNat_natCast]; omega)
  · have he : k' = n := Nat.le_antisymm hk (Nat.le_of_not_lt hlt)
    subst he
    exact iff_no (decide_eq_false (by omega)) (last x1n' y5_3n' y33' y34' hj)
def vc_path_nodes_nil (a0_0 : ByteArray) (a0_1 : Bool) (a0_2 : List (List V)) (Q : D → Heap → Prop) : Prop :=
  (a0_2.length ≤ big → ∃ m0, lp_path_nodes_nil_0 Q m0 0 a0_2 ((a0_2.length : Int)) 0 a0_0 a0_1 a0_2 0 (([] : List (List V))) (([] : List (List V))))
theorem C_path_nodes_nil (a0_0 : ByteArray) (a0_1 : Bool) (a0_2 : List (List V)) (Q : D → Heap → Prop) (h : vc_path_nodes_nil a0_0 a0_1 a0_2 Q) : cl f_path_nodes [.agg [.v .str (V.s a0_0), .v .bool (V.b a0_1), .v (.sl t_Term) (V.l a0_2)], .nil] [] Q :=
  acalls_of_fn (envOk adj_path_nodes_nil cut_path_nodes_nil lit_path_nodes_nil frz_path_nodes_nil jns_path_nodes_nil) 2 Try.func45 (by rw [show evFn (envA adj_path_nodes_nil cut_path_nodes_nil lit_path_nodes_nil frz_path_nodes_nil jns_path_nodes_nil) Try.f45 2 [.agg [.v .str (V.s a0_0), .v .bool (V.b a0_1), .v (.sl t_Term) (V.l a0_2)], .nil] [] Q = vc_path_nodes_nil a0_0 a0_1 a0_2 Q from by kernel_rfl]; exact h)
end Go.Proofs.Ytehchnjnbbnkbaa
