/- Contracts and plain laws of this seat: part MC. It needs no conditions. -/
import Derived.Test.YtgglheknmlfghaaGreatMB
import Derived.Test.YtgglheknmlfghaaGreatM6
set_option linter.unusedVariables false
set_option linter.unusedSimpArgs false
set_option linter.unusedSectionVars false
set_option maxRecDepth 100000
namespace Go.V
open Go Go.Proofs
structure FormF (g : Lang) (w : List Int) (a : List Prt) : Prop where
 word : zgj g.inv w = 0
 plain : bare a ∈ zbx g w
 choice : Choice g (bare a) a
end Go.V
namespace Go.V
open Go Go.Proofs
end Go.V
