/-
  NARROWER THAN 'FOR EVERY INPUT', by the rows' own cells (each row's printed sentence says how): PathGreater: loops · PathOrder: loops · PathClosed: loops · PathTotal: loops.
  DERIVED. THE GIVEN ROWS OF THIS SEAT. 5 by the template 'for every input the law returns true; each argument reads behind the call as it read before'; 0 by the template 'total and deterministic' (their statements: YtehchnjnbbnkbaaTotals.lean).
  GIVEN WITH THE SEED: the statements are not yours to turn. If you find one false, say at which input.
  Laid BY PROGRAM, IN A SANDBOX (cutbox-rows.mjs): the forced cells as the released guide's own fill.sh prints them over the translation b1ec178c20aacd77… (all of the seat's roots in one cut). By AI agents, Wed Nov 11 2026. No macro, syntax, notation, axiom, sorry.
-/
import Derived.Test.YtehchnjnbbnkbaaChecked
import GoSem.Claim
import GoSem.ClaimJoined
import GoSem.ClaimMapViews
import Derived.JoinedTies
import Derived.KernelRfl
namespace Go.Proofs.Ytehchnjnbbnkbaa
/- THE CELL 'sum', in the pinned program and in every row, IS THE sha256 OF THE DUMP (.gsa) THAT YtehchnjnbbnkbaaProg.lean LOADS. Nothing in Lean hashes anything: it is a label: what it is worth is what the hold of that sum in a sandbox is worth. -/
noncomputable def Try.pinned : Pinned := { name := "ytehchnjnbbnkbaa", sum := "b1ec178c20aacd77fac0903925f64f915171a91b32df90851fee4574d9c66cde", checked := Try.checked }
namespace Rows
def none {H : Type} : Left H := { results := [], args := [] }

/-- 'dwindlelaw06.PathGreater': WHATEVER THE INPUT: true; the input reads as it did. -/
def pathGreaterSpec : ChangeSpec := { name := "pathGreater", fn := fun _ => fun
  | [d1, d2, d3] => { results := [.lit (.bool true)], args := [d1, d2, d3] }
  | _ => none }
def pathGreaterRow : OpenClaim := { program := "ytehchnjnbbnkbaa", sum := "b1ec178c20aacd77fac0903925f64f915171a91b32df90851fee4574d9c66cde", func := "dwindle/dwindlelaw06.PathGreater", spec := "pathGreater", inPlace := ["internal/bytealg.abigen_runtime_cmpstring"], unfollowed := true, recurses := true, loops := true, apart := false }
def PathGreaterSaid : Prop := pathGreaterRow.holds Try.pinned (OpenSpec.ofChange pathGreaterSpec)

/-- ITS FALSE NEIGHBOUR: 'it returns false'. Refute it at one input. -/
def pathGreaterWrong : ChangeSpec := { name := "pathGreater", fn := fun _ => fun
  | [d1, d2, d3] => { results := [.lit (.bool false)], args := [d1, d2, d3] }
  | _ => none }
def PathGreaterWrongFalsely : Prop := pathGreaterRow.holds Try.pinned (OpenSpec.ofChange pathGreaterWrong)

/-- 'dwindlelaw06.PathOrder': WHATEVER THE INPUT: true; the input reads as it did. -/
def pathOrderSpec : ChangeSpec := { name := "pathOrder", fn := fun _ => fun
  | [d1, d2] => { results := [.lit (.bool true)], args := [d1, d2] }
  | _ => none }
def pathOrderRow : OpenClaim := { program := "ytehchnjnbbnkbaa", sum := "b1ec178c20aacd77fac0903925f64f915171a91b32df90851fee4574d9c66cde", func := "dwindle/dwindlelaw06.PathOrder", spec := "pathOrder", inPlace := ["internal/bytealg.abigen_runtime_cmpstring"], unfollowed := true, recurses := true, loops := true, apart := false }
def PathOrderSaid : Prop := pathOrderRow.holds Try.pinned (OpenSpec.ofChange pathOrderSpec)

/-- ITS FALSE NEIGHBOUR: 'it returns false'. Refute it at one input. -/
def pathOrderWrong : ChangeSpec := { name := "pathOrder", fn := fun _ => fun
  | [d1, d2] => { results := [.lit (.bool false)], args := [d1, d2] }
  | _ => none }
def PathOrderWrongFalsely : Prop := pathOrderRow.holds Try.pinned (OpenSpec.ofChange pathOrderWrong)

/-- 'dwindlelaw06.PathClosed': WHATEVER THE INPUT: true; the input reads as it did. -/
def pathClosedSpec : ChangeSpec := { name := "pathClosed", fn := fun _ => fun
  | [d1, d2, d3] => { results := [.lit (.bool true)], args := [d1, d2, d3] }
  | _ => none }
def pathClosedRow : OpenClaim := { program := "ytehchnjnbbnkbaa", sum := "b1ec178c20aacd77fac0903925f64f915171a91b32df90851fee4574d9c66cde", func := "dwindle/dwindlelaw06.PathClosed", spec := "pathClosed", inPlace := ["internal/bytealg.abigen_runtime_cmpstring"], unfollowed := true, recurses := true, loops := true, apart := false }
def PathClosedSaid : Prop := pathClosedRow.holds Try.pinned (OpenSpec.ofChange pathClosedSpec)

/-- ITS FALSE NEIGHBOUR: 'it returns false'. Refute it at one input. -/
def pathClosedWrong : ChangeSpec := { name := "pathClosed", fn := fun _ => fun
  | [d1, d2, d3] => { results := [.lit (.bool false)], args := [d1, d2, d3] }
  | _ => none }
def PathClosedWrongFalsely : Prop := pathClosedRow.holds Try.pinned (OpenSpec.ofChange pathClosedWrong)

/-- 'dwindlelaw06.PathTotal': WHATEVER THE INPUT: true; the input reads as it did. -/
def pathTotalSpec : ChangeSpec := { name := "pathTotal", fn := fun _ => fun
  | [d1, d2, d3] => { results := [.lit (.bool true)], args := [d1, d2, d3] }
  | _ => none }
def pathTotalRow : OpenClaim := { program := "ytehchnjnbbnkbaa", sum := "b1ec178c20aacd77fac0903925f64f915171a91b32df90851fee4574d9c66cde", func := "dwindle/dwindlelaw06.PathTotal", spec := "pathTotal", inPlace := ["internal/bytealg.abigen_runtime_cmpstring"], unfollowed := true, recurses := true, loops := true, apart := false }
def PathTotalSaid : Prop := pathTotalRow.holds Try.pinned (OpenSpec.ofChange pathTotalSpec)

/-- ITS FALSE NEIGHBOUR: 'it returns false'. Refute it at one input. -/
def pathTotalWrong : ChangeSpec := { name := "pathTotal", fn := fun _ => fun
  | [d1, d2, d3] => { results := [.lit (.bool false)], args := [d1, d2, d3] }
  | _ => none }
def PathTotalWrongFalsely : Prop := pathTotalRow.holds Try.pinned (OpenSpec.ofChange pathTotalWrong)

/-- 'dwindlelaw06.PathRanks': WHATEVER THE INPUT: true; the input reads as it did. -/
def pathRanksSpec : ChangeSpec := { name := "pathRanks", fn := fun _ => fun
  | [d1, d2] => { results := [.lit (.bool true)], args := [d1, d2] }
  | _ => none }
def pathRanksRow : OpenClaim := { program := "ytehchnjnbbnkbaa", sum := "b1ec178c20aacd77fac0903925f64f915171a91b32df90851fee4574d9c66cde", func := "dwindle/dwindlelaw06.PathRanks", spec := "pathRanks", inPlace := ["internal/bytealg.abigen_runtime_cmpstring"], unfollowed := true, recurses := true, apart := false }
def PathRanksSaid : Prop := pathRanksRow.holds Try.pinned (OpenSpec.ofChange pathRanksSpec)

/-- ITS FALSE NEIGHBOUR: 'it returns false'. Refute it at one input. -/
def pathRanksWrong : ChangeSpec := { name := "pathRanks", fn := fun _ => fun
  | [d1, d2] => { results := [.lit (.bool false)], args := [d1, d2] }
  | _ => none }
def PathRanksWrongFalsely : Prop := pathRanksRow.holds Try.pinned (OpenSpec.ofChange pathRanksWrong)

/- THE SECOND FORM. 'bulk': how many values and letters a reading holds, each counted each time it is reached (what is shared counts as often as it is met; a slice's spare places count too). A statement '..UptoSaid' is the law's where the arguments, and the package variables that the reading takes, are together of bulk at most 1048576: NARROWER than '..Said'. Prove '..Said' where nothing that the law and all that it calls make is longer than what came in: it says more and counts as full. Else prove '..UptoSaid'. A law counts once. -/
mutual
def uptoBulk {H : Type} : DataW H → Nat
  | .lit (.string bytes) => bytes.length + 1
  | .lit _ => 1
  | .nil => 1
  | .ptr d => uptoBulk d + 1
  | .slice elems spare => uptoBulkAll elems + uptoBulkAll spare + 1
  | .agg parts => uptoBulkAll parts + 1
  | .iface _ d => uptoBulk d + 1
  | .map entries => uptoBulkEntries entries + 1
  | .held _ => 1
def uptoBulkAll {H : Type} : List (DataW H) → Nat
  | [] => 0
  | d :: r => uptoBulk d + uptoBulkAll r
def uptoBulkEntries {H : Type} : List (Lit × DataW H) → Nat
  | [] => 0
  | x :: r => uptoBulkEntry x + uptoBulkEntries r
def uptoBulkEntry {H : Type} : Lit × DataW H → Nat
  | (.string bytes, d) => bytes.length + uptoBulk d + 1
  | (_, d) => uptoBulk d + 1
 end
def uptoSmall : (H : Type) → List (DataW H) → Bool := fun _ ds => decide (uptoBulkAll ds ≤ 1048576)
def OpenSpec.upto (s : _root_.Go.ChangeSpec) : _root_.Go.OpenSpec := { _root_.Go.OpenSpec.ofChange s with cond := some uptoSmall }

/-- 'dwindlelaw06.PathGreater', WHERE WHAT IT READS IS OF BULK AT MOST 1048576: true; the input reads as it did. -/
def pathGreaterUptoRow : OpenClaim := { program := "ytehchnjnbbnkbaa", sum := "b1ec178c20aacd77fac0903925f64f915171a91b32df90851fee4574d9c66cde", func := "dwindle/dwindlelaw06.PathGreater", spec := "pathGreater", inPlace := ["internal/bytealg.abigen_runtime_cmpstring"], unfollowed := true, recurses := true, loops := true, apart := false, narrowed := true }
def PathGreaterUptoSaid : Prop := pathGreaterUptoRow.holds Try.pinned (OpenSpec.upto pathGreaterSpec)

/-- 'dwindlelaw06.PathOrder', WHERE WHAT IT READS IS OF BULK AT MOST 1048576: true; the input reads as it did. -/
def pathOrderUptoRow : OpenClaim := { program := "ytehchnjnbbnkbaa", sum := "b1ec178c20aacd77fac0903925f64f915171a91b32df90851fee4574d9c66cde", func := "dwindle/dwindlelaw06.PathOrder", spec := "pathOrder", inPlace := ["internal/bytealg.abigen_runtime_cmpstring"], unfollowed := true, recurses := true, loops := true, apart := false, narrowed := true }
def PathOrderUptoSaid : Prop := pathOrderUptoRow.holds Try.pinned (OpenSpec.upto pathOrderSpec)

/-- 'dwindlelaw06.PathClosed', WHERE WHAT IT READS IS OF BULK AT MOST 1048576: true; the input reads as it did. -/
def pathClosedUptoRow : OpenClaim := { program := "ytehchnjnbbnkbaa", sum := "b1ec178c20aacd77fac0903925f64f915171a91b32df90851fee4574d9c66cde", func := "dwindle/dwindlelaw06.PathClosed", spec := "pathClosed", inPlace := ["internal/bytealg.abigen_runtime_cmpstring"], unfollowed := true, recurses := true, loops := true, apart := false, narrowed := true }
def PathClosedUptoSaid : Prop := pathClosedUptoRow.holds Try.pinned (OpenSpec.upto pathClosedSpec)

/-- 'dwindlelaw06.PathTotal', WHERE WHAT IT READS IS OF BULK AT MOST 1048576: true; the input reads as it did. -/
def pathTotalUptoRow : OpenClaim := { program := "ytehchnjnbbnkbaa", sum := "b1ec178c20aacd77fac0903925f64f915171a91b32df90851fee4574d9c66cde", func := "dwindle/dwindlelaw06.PathTotal", spec := "pathTotal", inPlace := ["internal/bytealg.abigen_runtime_cmpstring"], unfollowed := true, recurses := true, loops := true, apart := false, narrowed := true }
def PathTotalUptoSaid : Prop := pathTotalUptoRow.holds Try.pinned (OpenSpec.upto pathTotalSpec)

/-- 'dwindlelaw06.PathRanks', WHERE WHAT IT READS IS OF BULK AT MOST 1048576: true; the input reads as it did. -/
def pathRanksUptoRow : OpenClaim := { program := "ytehchnjnbbnkbaa", sum := "b1ec178c20aacd77fac0903925f64f915171a91b32df90851fee4574d9c66cde", func := "dwindle/dwindlelaw06.PathRanks", spec := "pathRanks", inPlace := ["internal/bytealg.abigen_runtime_cmpstring"], unfollowed := true, recurses := true, apart := false, narrowed := true }
def PathRanksUptoSaid : Prop := pathRanksUptoRow.holds Try.pinned (OpenSpec.upto pathRanksSpec)

end Rows
end Go.Proofs.Ytehchnjnbbnkbaa
