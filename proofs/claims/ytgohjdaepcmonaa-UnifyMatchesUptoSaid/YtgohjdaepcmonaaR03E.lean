import Derived.Test.YtgohjdaepcmonaaUniI
import Derived.Test.YtgohjdaepcmonaaR03D
set_option linter.unusedVariables false
set_option linter.unusedSimpArgs false
namespace Go.Proofs.Ytgohjdaepcmonaa
open Go.Abs
def encI (l : List Int) : List (List V) := l.map fun i => [.i i]
def capD (n : Nat) : Int := if n ≤ 201 then n else 201
structure ArrOk (s : Su) (A B : List Int) : Prop where
  la : A.length = s.length
  lb : B.length = s.length
  ba : ∀ i (h : i < A.length), 0 ≤ A[i] ∧ A[i] ≤ 4001
  bb : ∀ i (h : i < B.length), 0 ≤ B[i] ∧ B[i] ≤ 201
def Ex (s : Su) (θ : ByteArray → Tm) (A B : List Int) (x : ByteArray) : Prop :=
  ∀ i (h : i < s.length) (ha : i < A.length) (hb : i < B.length), (s[i]).1 = x → A[i] = capS (θ x).size ∧ B[i] = capD (θ x).depth
abbrev arrH (A B : List Int) : Heap := [.row t_int (encI A), .row t_int (encI B)]
end Go.Proofs.Ytgohjdaepcmonaa
