import Derived.Test.YtgohjdaepcmonaaR03C
set_option linter.unusedVariables false
set_option linter.unusedSimpArgs false
namespace Go.Proofs.Ytgohjdaepcmonaa
open Go.Abs
structure RInv (U : List ByteArray) (s : Su) (l : Prs) : Prop where
  hU : InU U (fnS s)
  cnt : CntOk U s
  pr : PrOk U (fnS s) l
  so : SortS s
def SolveR (U : List ByteArray) (a b : Tm) (s : Su) (l : Prs) (o : Option Bd) : Prop :=
  ∀ Q : D → Heap → Prop, (∀ σ1, o = some σ1 → ∀ s1 l1, fnS s1 = σ1 → RInv U s1 l1 → PrNew σ1 [a] l l1 → Q (bD true) (solH s1 l1)) → (o = none → ∀ s1 l1, Q (bD false) (solH s1 l1)) →
    cl f_r03_solver_solve [.ptr (.own 0) 0, tD a, tD b] (solH s l) Q
section
variable {U : List ByteArray} {s : Su} {l : Prs} {θ : ByteArray → Tm} {r : ByteArray → Nat} {a b a' b' : Tm}
end
end Go.Proofs.Ytgohjdaepcmonaa
