import Derived.Test.YtgohjdaepcmonaaR01C
set_option linter.unusedVariables false
set_option linter.unusedSimpArgs false
namespace Go.Proofs.Ytgohjdaepcmonaa
open Go.Abs
def bz : ByteArray := ByteArray.mk #[]
def nameAt (m : Bool) (l : List ByteArray) (k : Nat) : Bool := nameOk (l.getD k bz) m && (decide (k = 0) || decide (cmpN (l.getD (k - 1) bz) (l.getD k bz) = -1))
def namesOk (m : Bool) (l : List ByteArray) : Bool := (List.range l.length).all (nameAt m l)
def suNames (l : Su) : List ByteArray := l.map (·.1)
def suErr (l : Su) : Int := if namesOk false (suNames l) then Tm.checkAll (l.map (·.2)) else 4
end Go.Proofs.Ytgohjdaepcmonaa
