/- Contracts: the forms of an entry. -/
import Derived.Test.YtgglheknmlfghaaC5
set_option linter.unusedSimpArgs false
set_option linter.unusedVariables false
set_option maxRecDepth 10000
namespace Go.V
open Go Go.Proofs

def Ent.forms (e : Ent) : List (List Int) := e.form :: e.alts
theorem forms_ok (e : Ent) (h : e.alts.length < 2^40) : PureF Try.prog 61 [.agg e.row] 40 1 (e.forms.map fun a => [ints a]) := by
  refine fresh_of_body mixed Try.func61 rfl call_61 (by simp) ?_
  simp [Try.f61, Ent.row, listsD, ints, Ent.forms, maxLen]
  omega
end Go.V
