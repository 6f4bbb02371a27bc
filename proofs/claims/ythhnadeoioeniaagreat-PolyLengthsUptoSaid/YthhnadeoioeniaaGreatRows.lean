/-
  NARROWER THAN 'FOR EVERY INPUT', by the rows' own cells (each row's printed sentence says how): PolyTerms: loops · PolyInstances: loops · PolyValues: loops · PolyCompares: loops · PolyLengths: loops.
  DERIVED. THE GIVEN ROWS OF THIS SEAT. 7 by the template 'for every input the law returns true; each argument reads behind the call as it read before'; 0 by the template 'total and deterministic' (their statements: YthhnadeoioeniaaGreatTotals.lean).
  GIVEN WITH THE SEED: the statements are not yours to turn. If you find one false, say at which input.
  Laid BY PROGRAM, IN A SANDBOX (cutbox-rows.mjs): the forced cells as the released guide's own fill.sh prints them over the translation fdaa6f8b66e808cb… (all of the seat's roots in one cut). By AI agents, Wed Nov 11 2026. No macro, syntax, notation, axiom, sorry.
-/
import Derived.Test.YthhnadeoioeniaaGreatChecked
import GoSem.Claim
import GoSem.ClaimJoined
import GoSem.ClaimMapViews
import Derived.JoinedTies
import Derived.KernelRfl
namespace Go.Proofs.YthhnadeoioeniaaGreat
/- THE CELL 'sum', in the pinned program and in every row, IS THE sha256 OF THE DUMP (.gsa) THAT YthhnadeoioeniaaGreatProg.lean LOADS. Nothing in Lean hashes anything: it is a label: what it is worth is what the hold of that sum in a sandbox is worth. -/
noncomputable def Tryz.pinned : Pinned := { name := "ythhnadeoioeniaagreat", sum := "fdaa6f8b66e808cbcde849416ee802e0299c96e9846c913ad329d6f130706331", checked := Tryz.checked }
namespace Rows
def none {H : Type} : Left H := { results := [], args := [] }

/-- 'dwindlelaw08.PolyTerms': WHATEVER THE INPUT: true; the input reads as it did. -/
def polyTermsSpec : ChangeSpec := { name := "polyTerms", fn := fun _ => fun
  | [d1, d2] => { results := [.lit (.bool true)], args := [d1, d2] }
  | _ => none }
def polyTermsRow : OpenClaim := { program := "ythhnadeoioeniaagreat", sum := "fdaa6f8b66e808cbcde849416ee802e0299c96e9846c913ad329d6f130706331", func := "dwindle/dwindlelaw08.PolyTerms", spec := "polyTerms", inPlace := ["internal/bytealg.abigen_runtime_cmpstring"], unfollowed := true, recurses := true, loops := true, apart := false }
def PolyTermsSaid : Prop := polyTermsRow.holds Tryz.pinned (OpenSpec.ofChange polyTermsSpec)

/-- ITS FALSE NEIGHBOUR: 'it returns false'. Refute it at one input. -/
def polyTermsWrong : ChangeSpec := { name := "polyTerms", fn := fun _ => fun
  | [d1, d2] => { results := [.lit (.bool false)], args := [d1, d2] }
  | _ => none }
def PolyTermsWrongFalsely : Prop := polyTermsRow.holds Tryz.pinned (OpenSpec.ofChange polyTermsWrong)

/-- 'dwindlelaw08.PolyInstances': WHATEVER THE INPUT: true; the input reads as it did. -/
def polyInstancesSpec : ChangeSpec := { name := "polyInstances", fn := fun _ => fun
  | [d1, d2, d3] => { results := [.lit (.bool true)], args := [d1, d2, d3] }
  | _ => none }
def polyInstancesRow : OpenClaim := { program := "ythhnadeoioeniaagreat", sum := "fdaa6f8b66e808cbcde849416ee802e0299c96e9846c913ad329d6f130706331", func := "dwindle/dwindlelaw08.PolyInstances", spec := "polyInstances", inPlace := ["internal/bytealg.abigen_runtime_cmpstring"], unfollowed := true, recurses := true, loops := true, apart := false }
def PolyInstancesSaid : Prop := polyInstancesRow.holds Tryz.pinned (OpenSpec.ofChange polyInstancesSpec)

/-- ITS FALSE NEIGHBOUR: 'it returns false'. Refute it at one input. -/
def polyInstancesWrong : ChangeSpec := { name := "polyInstances", fn := fun _ => fun
  | [d1, d2, d3] => { results := [.lit (.bool false)], args := [d1, d2, d3] }
  | _ => none }
def PolyInstancesWrongFalsely : Prop := polyInstancesRow.holds Tryz.pinned (OpenSpec.ofChange polyInstancesWrong)

/-- 'dwindlelaw08.PolyChecks': WHATEVER THE INPUT: true; the input reads as it did. -/
def polyChecksSpec : ChangeSpec := { name := "polyChecks", fn := fun _ => fun
  | [d1, d2] => { results := [.lit (.bool true)], args := [d1, d2] }
  | _ => none }
def polyChecksRow : OpenClaim := { program := "ythhnadeoioeniaagreat", sum := "fdaa6f8b66e808cbcde849416ee802e0299c96e9846c913ad329d6f130706331", func := "dwindle/dwindlelaw08.PolyChecks", spec := "polyChecks", inPlace := ["internal/bytealg.abigen_runtime_cmpstring"], unfollowed := true, recurses := true, apart := false }
def PolyChecksSaid : Prop := polyChecksRow.holds Tryz.pinned (OpenSpec.ofChange polyChecksSpec)

/-- ITS FALSE NEIGHBOUR: 'it returns false'. Refute it at one input. -/
def polyChecksWrong : ChangeSpec := { name := "polyChecks", fn := fun _ => fun
  | [d1, d2] => { results := [.lit (.bool false)], args := [d1, d2] }
  | _ => none }
def PolyChecksWrongFalsely : Prop := polyChecksRow.holds Tryz.pinned (OpenSpec.ofChange polyChecksWrong)

/-- 'dwindlelaw08.PolyEvals': WHATEVER THE INPUT: true; the input reads as it did. -/
def polyEvalsSpec : ChangeSpec := { name := "polyEvals", fn := fun _ => fun
  | [d1, d2] => { results := [.lit (.bool true)], args := [d1, d2] }
  | _ => none }
def polyEvalsRow : OpenClaim := { program := "ythhnadeoioeniaagreat", sum := "fdaa6f8b66e808cbcde849416ee802e0299c96e9846c913ad329d6f130706331", func := "dwindle/dwindlelaw08.PolyEvals", spec := "polyEvals", inPlace := ["internal/bytealg.abigen_runtime_cmpstring"], unfollowed := true, recurses := true, apart := false }
def PolyEvalsSaid : Prop := polyEvalsRow.holds Tryz.pinned (OpenSpec.ofChange polyEvalsSpec)

/-- ITS FALSE NEIGHBOUR: 'it returns false'. Refute it at one input. -/
def polyEvalsWrong : ChangeSpec := { name := "polyEvals", fn := fun _ => fun
  | [d1, d2] => { results := [.lit (.bool false)], args := [d1, d2] }
  | _ => none }
def PolyEvalsWrongFalsely : Prop := polyEvalsRow.holds Tryz.pinned (OpenSpec.ofChange polyEvalsWrong)

/-- 'dwindlelaw08.PolyValues': WHATEVER THE INPUT: true; the input reads as it did. -/
def polyValuesSpec : ChangeSpec := { name := "polyValues", fn := fun _ => fun
  | [d1, d2, d3] => { results := [.lit (.bool true)], args := [d1, d2, d3] }
  | _ => none }
def polyValuesRow : OpenClaim := { program := "ythhnadeoioeniaagreat", sum := "fdaa6f8b66e808cbcde849416ee802e0299c96e9846c913ad329d6f130706331", func := "dwindle/dwindlelaw08.PolyValues", spec := "polyValues", inPlace := ["internal/bytealg.abigen_runtime_cmpstring"], unfollowed := true, recurses := true, loops := true, apart := false }
def PolyValuesSaid : Prop := polyValuesRow.holds Tryz.pinned (OpenSpec.ofChange polyValuesSpec)

/-- ITS FALSE NEIGHBOUR: 'it returns false'. Refute it at one input. -/
def polyValuesWrong : ChangeSpec := { name := "polyValues", fn := fun _ => fun
  | [d1, d2, d3] => { results := [.lit (.bool false)], args := [d1, d2, d3] }
  | _ => none }
def PolyValuesWrongFalsely : Prop := polyValuesRow.holds Tryz.pinned (OpenSpec.ofChange polyValuesWrong)

/-- 'dwindlelaw08.PolyCompares': WHATEVER THE INPUT: true; the input reads as it did. -/
def polyComparesSpec : ChangeSpec := { name := "polyCompares", fn := fun _ => fun
  | [d1, d2, d3] => { results := [.lit (.bool true)], args := [d1, d2, d3] }
  | _ => none }
def polyComparesRow : OpenClaim := { program := "ythhnadeoioeniaagreat", sum := "fdaa6f8b66e808cbcde849416ee802e0299c96e9846c913ad329d6f130706331", func := "dwindle/dwindlelaw08.PolyCompares", spec := "polyCompares", inPlace := ["internal/bytealg.abigen_runtime_cmpstring"], unfollowed := true, recurses := true, loops := true, apart := false }
def PolyComparesSaid : Prop := polyComparesRow.holds Tryz.pinned (OpenSpec.ofChange polyComparesSpec)

/-- ITS FALSE NEIGHBOUR: 'it returns false'. Refute it at one input. -/
def polyComparesWrong : ChangeSpec := { name := "polyCompares", fn := fun _ => fun
  | [d1, d2, d3] => { results := [.lit (.bool false)], args := [d1, d2, d3] }
  | _ => none }
def PolyComparesWrongFalsely : Prop := polyComparesRow.holds Tryz.pinned (OpenSpec.ofChange polyComparesWrong)

/-- 'dwindlelaw08.PolyLengths': WHATEVER THE INPUT: true; the input reads as it did. -/
def polyLengthsSpec : ChangeSpec := { name := "polyLengths", fn := fun _ => fun
  | [d1, d2, d3] => { results := [.lit (.bool true)], args := [d1, d2, d3] }
  | _ => none }
def polyLengthsRow : OpenClaim := { program := "ythhnadeoioeniaagreat", sum := "fdaa6f8b66e808cbcde849416ee802e0299c96e9846c913ad329d6f130706331", func := "dwindle/dwindlelaw08.PolyLengths", spec := "polyLengths", inPlace := ["internal/bytealg.abigen_runtime_cmpstring"], unfollowed := true, recurses := true, loops := true, apart := false }
def PolyLengthsSaid : Prop := polyLengthsRow.holds Tryz.pinned (OpenSpec.ofChange polyLengthsSpec)

/-- ITS FALSE NEIGHBOUR: 'it returns false'. Refute it at one input. -/
def polyLengthsWrong : ChangeSpec := { name := "polyLengths", fn := fun _ => fun
  | [d1, d2, d3] => { results := [.lit (.bool false)], args := [d1, d2, d3] }
  | _ => none }
def PolyLengthsWrongFalsely : Prop := polyLengthsRow.holds Tryz.pinned (OpenSpec.ofChange polyLengthsWrong)

/- THE SECOND FORM. 'bulk': how many values and letters a reading holds, each counted each time it is reached (what is shared counts as often as it is met; a slice's spare places count too). A statement '..UptoSaid' is the law's where the arguments, and the package variables that the reading takes, are together of bulk at most 1048576: NARROWER than '..Said'. Prove '..Said' where nothing that the law and all that it calls make is longer than what came in: it says more and counts as full. Else prove '..UptoSaid'. A law counts once. -/
mutual
def uptoBulk {H : Type} : DataW H → Nat
  | .lit (.string bytes) => bytes.length + 1
  | .lit _ => 1
  | .nil => 1
  | .ptr d => uptoBulk d + 1
  | .slice elems spare => uptoBulkAll elems + uptoBulkAll spare + 1
  | .agg parts => uptoBulkAll parts + 1
  | .iface _ d => uptoBulk d + 1
  | .map entries => uptoBulkEntries entries + 1
  | .held _ => 1
def uptoBulkAll {H : Type} : List (DataW H) → Nat
  | [] => 0
  | d :: r => uptoBulk d + uptoBulkAll r
def uptoBulkEntries {H : Type} : List (Lit × DataW H) → Nat
  | [] => 0
  | x :: r => uptoBulkEntry x + uptoBulkEntries r
def uptoBulkEntry {H : Type} : Lit × DataW H → Nat
  | (.string bytes, d) => bytes.length + uptoBulk d + 1
  | (_, d) => uptoBulk d + 1
 end
def uptoSmall : (H : Type) → List (DataW H) → Bool := fun _ ds => decide (uptoBulkAll ds ≤ 1048576)
def OpenSpec.upto (s : _root_.Go.ChangeSpec) : _root_.Go.OpenSpec := { _root_.Go.OpenSpec.ofChange s with cond := some uptoSmall }

/-- 'dwindlelaw08.PolyTerms', WHERE WHAT IT READS IS OF BULK AT MOST 1048576: true; the input reads as it did. -/
def polyTermsUptoRow : OpenClaim := { program := "ythhnadeoioeniaagreat", sum := "fdaa6f8b66e808cbcde849416ee802e0299c96e9846c913ad329d6f130706331", func := "dwindle/dwindlelaw08.PolyTerms", spec := "polyTerms", inPlace := ["internal/bytealg.abigen_runtime_cmpstring"], unfollowed := true, recurses := true, loops := true, apart := false, narrowed := true }
def PolyTermsUptoSaid : Prop := polyTermsUptoRow.holds Tryz.pinned (OpenSpec.upto polyTermsSpec)

/-- 'dwindlelaw08.PolyInstances', WHERE WHAT IT READS IS OF BULK AT MOST 1048576: true; the input reads as it did. -/
def polyInstancesUptoRow : OpenClaim := { program := "ythhnadeoioeniaagreat", sum := "fdaa6f8b66e808cbcde849416ee802e0299c96e9846c913ad329d6f130706331", func := "dwindle/dwindlelaw08.PolyInstances", spec := "polyInstances", inPlace := ["internal/bytealg.abigen_runtime_cmpstring"], unfollowed := true, recurses := true, loops := true, apart := false, narrowed := true }
def PolyInstancesUptoSaid : Prop := polyInstancesUptoRow.holds Tryz.pinned (OpenSpec.upto polyInstancesSpec)

/-- 'dwindlelaw08.PolyChecks', WHERE WHAT IT READS IS OF BULK AT MOST 1048576: true; the input reads as it did. -/
def polyChecksUptoRow : OpenClaim := { program := "ythhnadeoioeniaagreat", sum := "fdaa6f8b66e808cbcde849416ee802e0299c96e9846c913ad329d6f130706331", func := "dwindle/dwindlelaw08.PolyChecks", spec := "polyChecks", inPlace := ["internal/bytealg.abigen_runtime_cmpstring"], unfollowed := true, recurses := true, apart := false, narrowed := true }
def PolyChecksUptoSaid : Prop := polyChecksUptoRow.holds Tryz.pinned (OpenSpec.upto polyChecksSpec)

/-- 'dwindlelaw08.PolyEvals', WHERE WHAT IT READS IS OF BULK AT MOST 1048576: true; the input reads as it did. -/
def polyEvalsUptoRow : OpenClaim := { program := "ythhnadeoioeniaagreat", sum := "fdaa6f8b66e808cbcde849416ee802e0299c96e9846c913ad329d6f130706331", func := "dwindle/dwindlelaw08.PolyEvals", spec := "polyEvals", inPlace := ["internal/bytealg.abigen_runtime_cmpstring"], unfollowed := true, recurses := true, apart := false, narrowed := true }
def PolyEvalsUptoSaid : Prop := polyEvalsUptoRow.holds Tryz.pinned (OpenSpec.upto polyEvalsSpec)

/-- 'dwindlelaw08.PolyValues', WHERE WHAT IT READS IS OF BULK AT MOST 1048576: true; the input reads as it did. -/
def polyValuesUptoRow : OpenClaim := { program := "ythhnadeoioeniaagreat", sum := "fdaa6f8b66e808cbcde849416ee802e0299c96e9846c913ad329d6f130706331", func := "dwindle/dwindlelaw08.PolyValues", spec := "polyValues", inPlace := ["internal/bytealg.abigen_runtime_cmpstring"], unfollowed := true, recurses := true, loops := true, apart := false, narrowed := true }
def PolyValuesUptoSaid : Prop := polyValuesUptoRow.holds Tryz.pinned (OpenSpec.upto polyValuesSpec)

/-- 'dwindlelaw08.PolyCompares', WHERE WHAT IT READS IS OF BULK AT MOST 1048576: true; the input reads as it did. -/
def polyComparesUptoRow : OpenClaim := { program := "ythhnadeoioeniaagreat", sum := "fdaa6f8b66e808cbcde849416ee802e0299c96e9846c913ad329d6f130706331", func := "dwindle/dwindlelaw08.PolyCompares", spec := "polyCompares", inPlace := ["internal/bytealg.abigen_runtime_cmpstring"], unfollowed := true, recurses := true, loops := true, apart := false, narrowed := true }
def PolyComparesUptoSaid : Prop := polyComparesUptoRow.holds Tryz.pinned (OpenSpec.upto polyComparesSpec)

/-- 'dwindlelaw08.PolyLengths', WHERE WHAT IT READS IS OF BULK AT MOST 1048576: true; the input reads as it did. -/
def polyLengthsUptoRow : OpenClaim := { program := "ythhnadeoioeniaagreat", sum := "fdaa6f8b66e808cbcde849416ee802e0299c96e9846c913ad329d6f130706331", func := "dwindle/dwindlelaw08.PolyLengths", spec := "polyLengths", inPlace := ["internal/bytealg.abigen_runtime_cmpstring"], unfollowed := true, recurses := true, loops := true, apart := false, narrowed := true }
def PolyLengthsUptoSaid : Prop := polyLengthsUptoRow.holds Tryz.pinned (OpenSpec.upto polyLengthsSpec)

end Rows
end Go.Proofs.YthhnadeoioeniaaGreat
