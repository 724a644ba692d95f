/- Contracts: the forms of an entry. -/
import Derived.Test.YtgglheknmlfghaaGreatC5
set_option linter.unusedSimpArgs false
set_option linter.unusedVariables false
set_option maxRecDepth 10000
namespace Go.V
open Go Go.Proofs

def Ent.forms (e : Ent) : List (List Int) := e.form :: e.alts
theorem forms_ok (e : Ent) (h : e.alts.length < 2^40) : PureF Tryz.prog 104 [.agg e.row] 31 1 (e.forms.map fun a => [ints a]) := by
  refine fresh_of_body mixed Tryz.func104 rfl call_104 (by simp) ?_
  simp [Tryz.f104, Ent.row, listsD, ints, Ent.forms, maxLen]
  omega
theorem refForms_ok (e : Ent) (h : e.alts.length < 2^40) : PureF Tryz.prog 89 [.agg e.row] 31 1 (e.forms.map fun a => [ints a]) := by
  refine fresh_of_body mixed Tryz.func89 rfl call_89 (by simp) ?_
  simp [Tryz.f89, Ent.row, listsD, ints, Ent.forms, maxLen]
  omega
end Go.V
