/-
  NARROWER THAN 'FOR EVERY INPUT', by the rows' own cells (each row's printed sentence says how): UnifyMatches: loops · UnifyUnifies: loops · UnifyMatching: loops · UnifyMostGeneral: loops · UnifySymmetric: loops.
  DERIVED. THE GIVEN ROWS OF THIS SEAT. 5 by the template 'for every input the law returns true; each argument reads behind the call as it read before'; 0 by the template 'total and deterministic' (their statements: YtgohjdaepcmonaaTotals.lean).
  GIVEN WITH THE SEED: the statements are not yours to turn. If you find one false, say at which input.
  Laid BY PROGRAM, IN A SANDBOX (cutbox-rows.mjs): the forced cells as the released guide's own fill.sh prints them over the translation 87b17e3d2d94e32c… (all of the seat's roots in one cut). By AI agents, Wed Nov 11 2026. No macro, syntax, notation, axiom, sorry.
-/
import Derived.Test.YtgohjdaepcmonaaChecked
import GoSem.Claim
import GoSem.ClaimJoined
import GoSem.ClaimMapViews
import Derived.JoinedTies
import Derived.KernelRfl
namespace Go.Proofs.Ytgohjdaepcmonaa
/- THE CELL 'sum', in the pinned program and in every row, IS THE sha256 OF THE DUMP (.gsa) THAT YtgohjdaepcmonaaProg.lean LOADS. Nothing in Lean hashes anything: it is a label: what it is worth is what the hold of that sum in a sandbox is worth. -/
noncomputable def Try.pinned : Pinned := { name := "ytgohjdaepcmonaa", sum := "87b17e3d2d94e32c6514b422d73ff381f3b6c8b351104a2890008cc59b6c74c0", checked := Try.checked }
namespace Rows
def none {H : Type} : Left H := { results := [], args := [] }

/-- 'dwindlelaw03.UnifyMatches': WHATEVER THE INPUT: true; the input reads as it did. -/
def unifyMatchesSpec : ChangeSpec := { name := "unifyMatches", fn := fun _ => fun
  | [d1, d2] => { results := [.lit (.bool true)], args := [d1, d2] }
  | _ => none }
def unifyMatchesRow : OpenClaim := { program := "ytgohjdaepcmonaa", sum := "87b17e3d2d94e32c6514b422d73ff381f3b6c8b351104a2890008cc59b6c74c0", func := "dwindle/dwindlelaw03.UnifyMatches", spec := "unifyMatches", inPlace := ["internal/bytealg.abigen_runtime_cmpstring", "slices.overlaps[dwindle/api.Bind]"], unfollowed := true, recurses := true, loops := true, plainKeys := false, apart := false }
def UnifyMatchesSaid : Prop := unifyMatchesRow.holds Try.pinned (OpenSpec.ofChange unifyMatchesSpec)

/-- ITS FALSE NEIGHBOUR: 'it returns false'. Refute it at one input. -/
def unifyMatchesWrong : ChangeSpec := { name := "unifyMatches", fn := fun _ => fun
  | [d1, d2] => { results := [.lit (.bool false)], args := [d1, d2] }
  | _ => none }
def UnifyMatchesWrongFalsely : Prop := unifyMatchesRow.holds Try.pinned (OpenSpec.ofChange unifyMatchesWrong)

/-- 'dwindlelaw03.UnifyUnifies': WHATEVER THE INPUT: true; the input reads as it did. -/
def unifyUnifiesSpec : ChangeSpec := { name := "unifyUnifies", fn := fun _ => fun
  | [d1, d2, d3] => { results := [.lit (.bool true)], args := [d1, d2, d3] }
  | _ => none }
def unifyUnifiesRow : OpenClaim := { program := "ytgohjdaepcmonaa", sum := "87b17e3d2d94e32c6514b422d73ff381f3b6c8b351104a2890008cc59b6c74c0", func := "dwindle/dwindlelaw03.UnifyUnifies", spec := "unifyUnifies", inPlace := ["internal/bytealg.abigen_runtime_cmpstring", "slices.overlaps[dwindle/api.Bind]"], unfollowed := true, recurses := true, loops := true, plainKeys := false, apart := false }
def UnifyUnifiesSaid : Prop := unifyUnifiesRow.holds Try.pinned (OpenSpec.ofChange unifyUnifiesSpec)

/-- ITS FALSE NEIGHBOUR: 'it returns false'. Refute it at one input. -/
def unifyUnifiesWrong : ChangeSpec := { name := "unifyUnifies", fn := fun _ => fun
  | [d1, d2, d3] => { results := [.lit (.bool false)], args := [d1, d2, d3] }
  | _ => none }
def UnifyUnifiesWrongFalsely : Prop := unifyUnifiesRow.holds Try.pinned (OpenSpec.ofChange unifyUnifiesWrong)

/-- 'dwindlelaw03.UnifyMatching': WHATEVER THE INPUT: true; the input reads as it did. -/
def unifyMatchingSpec : ChangeSpec := { name := "unifyMatching", fn := fun _ => fun
  | [d1, d2, d3] => { results := [.lit (.bool true)], args := [d1, d2, d3] }
  | _ => none }
def unifyMatchingRow : OpenClaim := { program := "ytgohjdaepcmonaa", sum := "87b17e3d2d94e32c6514b422d73ff381f3b6c8b351104a2890008cc59b6c74c0", func := "dwindle/dwindlelaw03.UnifyMatching", spec := "unifyMatching", inPlace := ["internal/bytealg.abigen_runtime_cmpstring", "slices.overlaps[dwindle/api.Bind]"], unfollowed := true, recurses := true, loops := true, plainKeys := false, apart := false }
def UnifyMatchingSaid : Prop := unifyMatchingRow.holds Try.pinned (OpenSpec.ofChange unifyMatchingSpec)

/-- ITS FALSE NEIGHBOUR: 'it returns false'. Refute it at one input. -/
def unifyMatchingWrong : ChangeSpec := { name := "unifyMatching", fn := fun _ => fun
  | [d1, d2, d3] => { results := [.lit (.bool false)], args := [d1, d2, d3] }
  | _ => none }
def UnifyMatchingWrongFalsely : Prop := unifyMatchingRow.holds Try.pinned (OpenSpec.ofChange unifyMatchingWrong)

/-- 'dwindlelaw03.UnifyMostGeneral': WHATEVER THE INPUT: true; the input reads as it did. -/
def unifyMostGeneralSpec : ChangeSpec := { name := "unifyMostGeneral", fn := fun _ => fun
  | [d1, d2, d3] => { results := [.lit (.bool true)], args := [d1, d2, d3] }
  | _ => none }
def unifyMostGeneralRow : OpenClaim := { program := "ytgohjdaepcmonaa", sum := "87b17e3d2d94e32c6514b422d73ff381f3b6c8b351104a2890008cc59b6c74c0", func := "dwindle/dwindlelaw03.UnifyMostGeneral", spec := "unifyMostGeneral", inPlace := ["internal/bytealg.abigen_runtime_cmpstring", "slices.overlaps[dwindle/api.Bind]"], unfollowed := true, recurses := true, loops := true, plainKeys := false, apart := false }
def UnifyMostGeneralSaid : Prop := unifyMostGeneralRow.holds Try.pinned (OpenSpec.ofChange unifyMostGeneralSpec)

/-- ITS FALSE NEIGHBOUR: 'it returns false'. Refute it at one input. -/
def unifyMostGeneralWrong : ChangeSpec := { name := "unifyMostGeneral", fn := fun _ => fun
  | [d1, d2, d3] => { results := [.lit (.bool false)], args := [d1, d2, d3] }
  | _ => none }
def UnifyMostGeneralWrongFalsely : Prop := unifyMostGeneralRow.holds Try.pinned (OpenSpec.ofChange unifyMostGeneralWrong)

/-- 'dwindlelaw03.UnifySymmetric': WHATEVER THE INPUT: true; the input reads as it did. -/
def unifySymmetricSpec : ChangeSpec := { name := "unifySymmetric", fn := fun _ => fun
  | [d1, d2] => { results := [.lit (.bool true)], args := [d1, d2] }
  | _ => none }
def unifySymmetricRow : OpenClaim := { program := "ytgohjdaepcmonaa", sum := "87b17e3d2d94e32c6514b422d73ff381f3b6c8b351104a2890008cc59b6c74c0", func := "dwindle/dwindlelaw03.UnifySymmetric", spec := "unifySymmetric", inPlace := ["internal/bytealg.abigen_runtime_cmpstring", "slices.overlaps[dwindle/api.Bind]"], unfollowed := true, recurses := true, loops := true, plainKeys := false, apart := false }
def UnifySymmetricSaid : Prop := unifySymmetricRow.holds Try.pinned (OpenSpec.ofChange unifySymmetricSpec)

/-- ITS FALSE NEIGHBOUR: 'it returns false'. Refute it at one input. -/
def unifySymmetricWrong : ChangeSpec := { name := "unifySymmetric", fn := fun _ => fun
  | [d1, d2] => { results := [.lit (.bool false)], args := [d1, d2] }
  | _ => none }
def UnifySymmetricWrongFalsely : Prop := unifySymmetricRow.holds Try.pinned (OpenSpec.ofChange unifySymmetricWrong)

/- THE SECOND FORM. 'bulk': how many values and letters a reading holds, each counted each time it is reached (what is shared counts as often as it is met; a slice's spare places count too). A statement '..UptoSaid' is the law's where the arguments, and the package variables that the reading takes, are together of bulk at most 1048576: NARROWER than '..Said'. Prove '..Said' where nothing that the law and all that it calls make is longer than what came in: it says more and counts as full. Else prove '..UptoSaid'. A law counts once. -/
mutual
def uptoBulk {H : Type} : DataW H → Nat
  | .lit (.string bytes) => bytes.length + 1
  | .lit _ => 1
  | .nil => 1
  | .ptr d => uptoBulk d + 1
  | .slice elems spare => uptoBulkAll elems + uptoBulkAll spare + 1
  | .agg parts => uptoBulkAll parts + 1
  | .iface _ d => uptoBulk d + 1
  | .map entries => uptoBulkEntries entries + 1
  | .held _ => 1
def uptoBulkAll {H : Type} : List (DataW H) → Nat
  | [] => 0
  | d :: r => uptoBulk d + uptoBulkAll r
def uptoBulkEntries {H : Type} : List (Lit × DataW H) → Nat
  | [] => 0
  | x :: r => uptoBulkEntry x + uptoBulkEntries r
def uptoBulkEntry {H : Type} : Lit × DataW H → Nat
  | (.string bytes, d) => bytes.length + uptoBulk d + 1
  | (_, d) => uptoBulk d + 1
 end
def uptoSmall : (H : Type) → List (DataW H) → Bool := fun _ ds => decide (uptoBulkAll ds ≤ 1048576)
def OpenSpec.upto (s : _root_.Go.ChangeSpec) : _root_.Go.OpenSpec := { _root_.Go.OpenSpec.ofChange s with cond := some uptoSmall }

/-- 'dwindlelaw03.UnifyMatches', WHERE WHAT IT READS IS OF BULK AT MOST 1048576: true; the input reads as it did. -/
def unifyMatchesUptoRow : OpenClaim := { program := "ytgohjdaepcmonaa", sum := "87b17e3d2d94e32c6514b422d73ff381f3b6c8b351104a2890008cc59b6c74c0", func := "dwindle/dwindlelaw03.UnifyMatches", spec := "unifyMatches", inPlace := ["internal/bytealg.abigen_runtime_cmpstring", "slices.overlaps[dwindle/api.Bind]"], unfollowed := true, recurses := true, loops := true, plainKeys := false, apart := false, narrowed := true }
def UnifyMatchesUptoSaid : Prop := unifyMatchesUptoRow.holds Try.pinned (OpenSpec.upto unifyMatchesSpec)

/-- 'dwindlelaw03.UnifyUnifies', WHERE WHAT IT READS IS OF BULK AT MOST 1048576: true; the input reads as it did. -/
def unifyUnifiesUptoRow : OpenClaim := { program := "ytgohjdaepcmonaa", sum := "87b17e3d2d94e32c6514b422d73ff381f3b6c8b351104a2890008cc59b6c74c0", func := "dwindle/dwindlelaw03.UnifyUnifies", spec := "unifyUnifies", inPlace := ["internal/bytealg.abigen_runtime_cmpstring", "slices.overlaps[dwindle/api.Bind]"], unfollowed := true, recurses := true, loops := true, plainKeys := false, apart := false, narrowed := true }
def UnifyUnifiesUptoSaid : Prop := unifyUnifiesUptoRow.holds Try.pinned (OpenSpec.upto unifyUnifiesSpec)

/-- 'dwindlelaw03.UnifyMatching', WHERE WHAT IT READS IS OF BULK AT MOST 1048576: true; the input reads as it did. -/
def unifyMatchingUptoRow : OpenClaim := { program := "ytgohjdaepcmonaa", sum := "87b17e3d2d94e32c6514b422d73ff381f3b6c8b351104a2890008cc59b6c74c0", func := "dwindle/dwindlelaw03.UnifyMatching", spec := "unifyMatching", inPlace := ["internal/bytealg.abigen_runtime_cmpstring", "slices.overlaps[dwindle/api.Bind]"], unfollowed := true, recurses := true, loops := true, plainKeys := false, apart := false, narrowed := true }
def UnifyMatchingUptoSaid : Prop := unifyMatchingUptoRow.holds Try.pinned (OpenSpec.upto unifyMatchingSpec)

/-- 'dwindlelaw03.UnifyMostGeneral', WHERE WHAT IT READS IS OF BULK AT MOST 1048576: true; the input reads as it did. -/
def unifyMostGeneralUptoRow : OpenClaim := { program := "ytgohjdaepcmonaa", sum := "87b17e3d2d94e32c6514b422d73ff381f3b6c8b351104a2890008cc59b6c74c0", func := "dwindle/dwindlelaw03.UnifyMostGeneral", spec := "unifyMostGeneral", inPlace := ["internal/bytealg.abigen_runtime_cmpstring", "slices.overlaps[dwindle/api.Bind]"], unfollowed := true, recurses := true, loops := true, plainKeys := false, apart := false, narrowed := true }
def UnifyMostGeneralUptoSaid : Prop := unifyMostGeneralUptoRow.holds Try.pinned (OpenSpec.upto unifyMostGeneralSpec)

/-- 'dwindlelaw03.UnifySymmetric', WHERE WHAT IT READS IS OF BULK AT MOST 1048576: true; the input reads as it did. -/
def unifySymmetricUptoRow : OpenClaim := { program := "ytgohjdaepcmonaa", sum := "87b17e3d2d94e32c6514b422d73ff381f3b6c8b351104a2890008cc59b6c74c0", func := "dwindle/dwindlelaw03.UnifySymmetric", spec := "unifySymmetric", inPlace := ["internal/bytealg.abigen_runtime_cmpstring", "slices.overlaps[dwindle/api.Bind]"], unfollowed := true, recurses := true, loops := true, plainKeys := false, apart := false, narrowed := true }
def UnifySymmetricUptoSaid : Prop := unifySymmetricUptoRow.holds Try.pinned (OpenSpec.upto unifySymmetricSpec)

end Rows
end Go.Proofs.Ytgohjdaepcmonaa
