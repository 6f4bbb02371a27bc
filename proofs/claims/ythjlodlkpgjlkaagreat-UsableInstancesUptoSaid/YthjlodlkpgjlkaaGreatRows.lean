/-
  NARROWER THAN 'FOR EVERY INPUT', by the rows' own cells (each row's printed sentence says how): UsableFilters: loops · UsableRules: loops · UsableInstances: loops · UsableCompatible: loops · UsableOrders: loops.
  DERIVED. THE GIVEN ROWS OF THIS SEAT. 6 by the template 'for every input the law returns true; each argument reads behind the call as it read before'; 0 by the template 'total and deterministic' (their statements: YthjlodlkpgjlkaaGreatTotals.lean).
  GIVEN WITH THE SEED: the statements are not yours to turn. If you find one false, say at which input.
  Laid BY PROGRAM, IN A SANDBOX (cutbox-rows.mjs): the forced cells as the released guide's own fill.sh prints them over the translation 62ef7e9f4b273eeb… (all of the seat's roots in one cut). By AI agents, Wed Nov 11 2026. No macro, syntax, notation, axiom, sorry.
-/
import Derived.Test.YthjlodlkpgjlkaaGreatChecked
import GoSem.Claim
import GoSem.ClaimJoined
import GoSem.ClaimMapViews
import Derived.JoinedTies
import Derived.KernelRfl
namespace Go.Proofs.YthjlodlkpgjlkaaGreat
/- THE CELL 'sum', in the pinned program and in every row, IS THE sha256 OF THE DUMP (.gsa) THAT YthjlodlkpgjlkaaGreatProg.lean LOADS. Nothing in Lean hashes anything: it is a label: what it is worth is what the hold of that sum in a sandbox is worth. -/
noncomputable def Tryz.pinned : Pinned := { name := "ythjlodlkpgjlkaagreat", sum := "62ef7e9f4b273eeb4d6ff3789c1f222e5332befbf8b767a34b4346b24378d6c6", checked := Tryz.checked }
namespace Rows
def none {H : Type} : Left H := { results := [], args := [] }

/-- 'dwindlelaw11.UsableFilters': WHATEVER THE INPUT: true; the input reads as it did. -/
def usableFiltersSpec : ChangeSpec := { name := "usableFilters", fn := fun _ => fun
  | [d1, d2] => { results := [.lit (.bool true)], args := [d1, d2] }
  | _ => none }
def usableFiltersRow : OpenClaim := { program := "ythjlodlkpgjlkaagreat", sum := "62ef7e9f4b273eeb4d6ff3789c1f222e5332befbf8b767a34b4346b24378d6c6", func := "dwindle/dwindlelaw11.UsableFilters", spec := "usableFilters", inPlace := ["internal/bytealg.abigen_runtime_cmpstring"], unfollowed := true, recurses := true, loops := true, plainKeys := false, apart := false }
def UsableFiltersSaid : Prop := usableFiltersRow.holds Tryz.pinned (OpenSpec.ofChange usableFiltersSpec)

/-- ITS FALSE NEIGHBOUR: 'it returns false'. Refute it at one input. -/
def usableFiltersWrong : ChangeSpec := { name := "usableFilters", fn := fun _ => fun
  | [d1, d2] => { results := [.lit (.bool false)], args := [d1, d2] }
  | _ => none }
def UsableFiltersWrongFalsely : Prop := usableFiltersRow.holds Tryz.pinned (OpenSpec.ofChange usableFiltersWrong)

/-- 'dwindlelaw11.UsableRules': WHATEVER THE INPUT: true; the input reads as it did. -/
def usableRulesSpec : ChangeSpec := { name := "usableRules", fn := fun _ => fun
  | [d1, d2, d3] => { results := [.lit (.bool true)], args := [d1, d2, d3] }
  | _ => none }
def usableRulesRow : OpenClaim := { program := "ythjlodlkpgjlkaagreat", sum := "62ef7e9f4b273eeb4d6ff3789c1f222e5332befbf8b767a34b4346b24378d6c6", func := "dwindle/dwindlelaw11.UsableRules", spec := "usableRules", inPlace := ["internal/bytealg.abigen_runtime_cmpstring"], unfollowed := true, recurses := true, loops := true, plainKeys := false, apart := false }
def UsableRulesSaid : Prop := usableRulesRow.holds Tryz.pinned (OpenSpec.ofChange usableRulesSpec)

/-- ITS FALSE NEIGHBOUR: 'it returns false'. Refute it at one input. -/
def usableRulesWrong : ChangeSpec := { name := "usableRules", fn := fun _ => fun
  | [d1, d2, d3] => { results := [.lit (.bool false)], args := [d1, d2, d3] }
  | _ => none }
def UsableRulesWrongFalsely : Prop := usableRulesRow.holds Tryz.pinned (OpenSpec.ofChange usableRulesWrong)

/-- 'dwindlelaw11.UsableInstances': WHATEVER THE INPUT: true; the input reads as it did. -/
def usableInstancesSpec : ChangeSpec := { name := "usableInstances", fn := fun _ => fun
  | [d1, d2, d3] => { results := [.lit (.bool true)], args := [d1, d2, d3] }
  | _ => none }
def usableInstancesRow : OpenClaim := { program := "ythjlodlkpgjlkaagreat", sum := "62ef7e9f4b273eeb4d6ff3789c1f222e5332befbf8b767a34b4346b24378d6c6", func := "dwindle/dwindlelaw11.UsableInstances", spec := "usableInstances", inPlace := ["internal/bytealg.abigen_runtime_cmpstring"], unfollowed := true, recurses := true, loops := true, plainKeys := false, apart := false }
def UsableInstancesSaid : Prop := usableInstancesRow.holds Tryz.pinned (OpenSpec.ofChange usableInstancesSpec)

/-- ITS FALSE NEIGHBOUR: 'it returns false'. Refute it at one input. -/
def usableInstancesWrong : ChangeSpec := { name := "usableInstances", fn := fun _ => fun
  | [d1, d2, d3] => { results := [.lit (.bool false)], args := [d1, d2, d3] }
  | _ => none }
def UsableInstancesWrongFalsely : Prop := usableInstancesRow.holds Tryz.pinned (OpenSpec.ofChange usableInstancesWrong)

/-- 'dwindlelaw11.UsableMonotone': WHATEVER THE INPUT: true; the input reads as it did. -/
def usableMonotoneSpec : ChangeSpec := { name := "usableMonotone", fn := fun _ => fun
  | [d1, d2] => { results := [.lit (.bool true)], args := [d1, d2] }
  | _ => none }
def usableMonotoneRow : OpenClaim := { program := "ythjlodlkpgjlkaagreat", sum := "62ef7e9f4b273eeb4d6ff3789c1f222e5332befbf8b767a34b4346b24378d6c6", func := "dwindle/dwindlelaw11.UsableMonotone", spec := "usableMonotone", inPlace := ["internal/bytealg.abigen_runtime_cmpstring"], unfollowed := true, recurses := true, plainKeys := false, apart := false }
def UsableMonotoneSaid : Prop := usableMonotoneRow.holds Tryz.pinned (OpenSpec.ofChange usableMonotoneSpec)

/-- ITS FALSE NEIGHBOUR: 'it returns false'. Refute it at one input. -/
def usableMonotoneWrong : ChangeSpec := { name := "usableMonotone", fn := fun _ => fun
  | [d1, d2] => { results := [.lit (.bool false)], args := [d1, d2] }
  | _ => none }
def UsableMonotoneWrongFalsely : Prop := usableMonotoneRow.holds Tryz.pinned (OpenSpec.ofChange usableMonotoneWrong)

/-- 'dwindlelaw11.UsableCompatible': WHATEVER THE INPUT: true; the input reads as it did. -/
def usableCompatibleSpec : ChangeSpec := { name := "usableCompatible", fn := fun _ => fun
  | [d1, d2] => { results := [.lit (.bool true)], args := [d1, d2] }
  | _ => none }
def usableCompatibleRow : OpenClaim := { program := "ythjlodlkpgjlkaagreat", sum := "62ef7e9f4b273eeb4d6ff3789c1f222e5332befbf8b767a34b4346b24378d6c6", func := "dwindle/dwindlelaw11.UsableCompatible", spec := "usableCompatible", inPlace := ["internal/bytealg.abigen_runtime_cmpstring"], unfollowed := true, recurses := true, loops := true, plainKeys := false, apart := false }
def UsableCompatibleSaid : Prop := usableCompatibleRow.holds Tryz.pinned (OpenSpec.ofChange usableCompatibleSpec)

/-- ITS FALSE NEIGHBOUR: 'it returns false'. Refute it at one input. -/
def usableCompatibleWrong : ChangeSpec := { name := "usableCompatible", fn := fun _ => fun
  | [d1, d2] => { results := [.lit (.bool false)], args := [d1, d2] }
  | _ => none }
def UsableCompatibleWrongFalsely : Prop := usableCompatibleRow.holds Tryz.pinned (OpenSpec.ofChange usableCompatibleWrong)

/-- 'dwindlelaw11.UsableOrders': WHATEVER THE INPUT: true; the input reads as it did. -/
def usableOrdersSpec : ChangeSpec := { name := "usableOrders", fn := fun _ => fun
  | [d1, d2] => { results := [.lit (.bool true)], args := [d1, d2] }
  | _ => none }
def usableOrdersRow : OpenClaim := { program := "ythjlodlkpgjlkaagreat", sum := "62ef7e9f4b273eeb4d6ff3789c1f222e5332befbf8b767a34b4346b24378d6c6", func := "dwindle/dwindlelaw11.UsableOrders", spec := "usableOrders", inPlace := ["internal/bytealg.abigen_runtime_cmpstring"], unfollowed := true, recurses := true, loops := true, plainKeys := false, apart := false }
def UsableOrdersSaid : Prop := usableOrdersRow.holds Tryz.pinned (OpenSpec.ofChange usableOrdersSpec)

/-- ITS FALSE NEIGHBOUR: 'it returns false'. Refute it at one input. -/
def usableOrdersWrong : ChangeSpec := { name := "usableOrders", fn := fun _ => fun
  | [d1, d2] => { results := [.lit (.bool false)], args := [d1, d2] }
  | _ => none }
def UsableOrdersWrongFalsely : Prop := usableOrdersRow.holds Tryz.pinned (OpenSpec.ofChange usableOrdersWrong)

/- THE SECOND FORM. 'bulk': how many values and letters a reading holds, each counted each time it is reached (what is shared counts as often as it is met; a slice's spare places count too). A statement '..UptoSaid' is the law's where the arguments, and the package variables that the reading takes, are together of bulk at most 1048576: NARROWER than '..Said'. Prove '..Said' where nothing that the law and all that it calls make is longer than what came in: it says more and counts as full. Else prove '..UptoSaid'. A law counts once. -/
mutual
def uptoBulk {H : Type} : DataW H → Nat
  | .lit (.string bytes) => bytes.length + 1
  | .lit _ => 1
  | .nil => 1
  | .ptr d => uptoBulk d + 1
  | .slice elems spare => uptoBulkAll elems + uptoBulkAll spare + 1
  | .agg parts => uptoBulkAll parts + 1
  | .iface _ d => uptoBulk d + 1
  | .map entries => uptoBulkEntries entries + 1
  | .held _ => 1
def uptoBulkAll {H : Type} : List (DataW H) → Nat
  | [] => 0
  | d :: r => uptoBulk d + uptoBulkAll r
def uptoBulkEntries {H : Type} : List (Lit × DataW H) → Nat
  | [] => 0
  | x :: r => uptoBulkEntry x + uptoBulkEntries r
def uptoBulkEntry {H : Type} : Lit × DataW H → Nat
  | (.string bytes, d) => bytes.length + uptoBulk d + 1
  | (_, d) => uptoBulk d + 1
 end
def uptoSmall : (H : Type) → List (DataW H) → Bool := fun _ ds => decide (uptoBulkAll ds ≤ 1048576)
def OpenSpec.upto (s : _root_.Go.ChangeSpec) : _root_.Go.OpenSpec := { _root_.Go.OpenSpec.ofChange s with cond := some uptoSmall }

/-- 'dwindlelaw11.UsableFilters', WHERE WHAT IT READS IS OF BULK AT MOST 1048576: true; the input reads as it did. -/
def usableFiltersUptoRow : OpenClaim := { program := "ythjlodlkpgjlkaagreat", sum := "62ef7e9f4b273eeb4d6ff3789c1f222e5332befbf8b767a34b4346b24378d6c6", func := "dwindle/dwindlelaw11.UsableFilters", spec := "usableFilters", inPlace := ["internal/bytealg.abigen_runtime_cmpstring"], unfollowed := true, recurses := true, loops := true, plainKeys := false, apart := false, narrowed := true }
def UsableFiltersUptoSaid : Prop := usableFiltersUptoRow.holds Tryz.pinned (OpenSpec.upto usableFiltersSpec)

/-- 'dwindlelaw11.UsableRules', WHERE WHAT IT READS IS OF BULK AT MOST 1048576: true; the input reads as it did. -/
def usableRulesUptoRow : OpenClaim := { program := "ythjlodlkpgjlkaagreat", sum := "62ef7e9f4b273eeb4d6ff3789c1f222e5332befbf8b767a34b4346b24378d6c6", func := "dwindle/dwindlelaw11.UsableRules", spec := "usableRules", inPlace := ["internal/bytealg.abigen_runtime_cmpstring"], unfollowed := true, recurses := true, loops := true, plainKeys := false, apart := false, narrowed := true }
def UsableRulesUptoSaid : Prop := usableRulesUptoRow.holds Tryz.pinned (OpenSpec.upto usableRulesSpec)

/-- 'dwindlelaw11.UsableInstances', WHERE WHAT IT READS IS OF BULK AT MOST 1048576: true; the input reads as it did. -/
def usableInstancesUptoRow : OpenClaim := { program := "ythjlodlkpgjlkaagreat", sum := "62ef7e9f4b273eeb4d6ff3789c1f222e5332befbf8b767a34b4346b24378d6c6", func := "dwindle/dwindlelaw11.UsableInstances", spec := "usableInstances", inPlace := ["internal/bytealg.abigen_runtime_cmpstring"], unfollowed := true, recurses := true, loops := true, plainKeys := false, apart := false, narrowed := true }
def UsableInstancesUptoSaid : Prop := usableInstancesUptoRow.holds Tryz.pinned (OpenSpec.upto usableInstancesSpec)

/-- 'dwindlelaw11.UsableMonotone', WHERE WHAT IT READS IS OF BULK AT MOST 1048576: true; the input reads as it did. -/
def usableMonotoneUptoRow : OpenClaim := { program := "ythjlodlkpgjlkaagreat", sum := "62ef7e9f4b273eeb4d6ff3789c1f222e5332befbf8b767a34b4346b24378d6c6", func := "dwindle/dwindlelaw11.UsableMonotone", spec := "usableMonotone", inPlace := ["internal/bytealg.abigen_runtime_cmpstring"], unfollowed := true, recurses := true, plainKeys := false, apart := false, narrowed := true }
def UsableMonotoneUptoSaid : Prop := usableMonotoneUptoRow.holds Tryz.pinned (OpenSpec.upto usableMonotoneSpec)

/-- 'dwindlelaw11.UsableCompatible', WHERE WHAT IT READS IS OF BULK AT MOST 1048576: true; the input reads as it did. -/
def usableCompatibleUptoRow : OpenClaim := { program := "ythjlodlkpgjlkaagreat", sum := "62ef7e9f4b273eeb4d6ff3789c1f222e5332befbf8b767a34b4346b24378d6c6", func := "dwindle/dwindlelaw11.UsableCompatible", spec := "usableCompatible", inPlace := ["internal/bytealg.abigen_runtime_cmpstring"], unfollowed := true, recurses := true, loops := true, plainKeys := false, apart := false, narrowed := true }
def UsableCompatibleUptoSaid : Prop := usableCompatibleUptoRow.holds Tryz.pinned (OpenSpec.upto usableCompatibleSpec)

/-- 'dwindlelaw11.UsableOrders', WHERE WHAT IT READS IS OF BULK AT MOST 1048576: true; the input reads as it did. -/
def usableOrdersUptoRow : OpenClaim := { program := "ythjlodlkpgjlkaagreat", sum := "62ef7e9f4b273eeb4d6ff3789c1f222e5332befbf8b767a34b4346b24378d6c6", func := "dwindle/dwindlelaw11.UsableOrders", spec := "usableOrders", inPlace := ["internal/bytealg.abigen_runtime_cmpstring"], unfollowed := true, recurses := true, loops := true, plainKeys := false, apart := false, narrowed := true }
def UsableOrdersUptoSaid : Prop := usableOrdersUptoRow.holds Tryz.pinned (OpenSpec.upto usableOrdersSpec)

end Rows
end Go.Proofs.YthjlodlkpgjlkaaGreat
