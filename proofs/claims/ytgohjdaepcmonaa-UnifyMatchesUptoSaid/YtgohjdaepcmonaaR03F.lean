import Derived.Test.YtgohjdaepcmonaaR03E
set_option linter.unusedVariables false
set_option linter.unusedSimpArgs false
namespace Go.Proofs.Ytgohjdaepcmonaa
open Go.Abs
def RuForm (l : Ru) : Prop := ∀ x ∈ l, x.1.formed = true ∧ x.2.formed = true
end Go.Proofs.Ytgohjdaepcmonaa
