/- What is asked of a text's bytes; for seats without package variables (fill this as U3). -/
import Derived.Test.YtknekjalbninmaaGreatM1
import Derived.Test.YtknekjalbninmaaGreatU0
import Derived.Lib.TrimU
namespace Go.V
open Go Go.Proofs
def validB (s : ByteArray) : Bool := Lib.validD s.data.toList
end Go.V
