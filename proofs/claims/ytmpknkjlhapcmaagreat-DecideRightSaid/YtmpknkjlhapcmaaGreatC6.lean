/- Contracts: the forms of an entry. -/
import Derived.Test.YtmpknkjlhapcmaaGreatC5
set_option linter.unusedSimpArgs false
set_option linter.unusedVariables false
set_option maxRecDepth 10000
namespace Go.V
open Go Go.Proofs

def Ent.forms (e : Ent) : List (List Int) := e.form :: e.alts
theorem forms_ok (e : Ent) (h : e.alts.length < 2^40) : PureF Tryz.prog 165 [.agg e.row] 51 1 (e.forms.map fun a => [ints a]) := by
  refine fresh_of_body mixed Tryz.func165 rfl call_165 (by simp) ?_
  simp [Tryz.f165, Ent.row, listsD, ints, Ent.forms, maxLen]
  omega
theorem refForms_ok (e : Ent) (h : e.alts.length < 2^40) : PureF Tryz.prog 148 [.agg e.row] 51 1 (e.forms.map fun a => [ints a]) := by
  refine fresh_of_body mixed Tryz.func148 rfl call_148 (by simp) ?_
  simp [Tryz.f148, Ent.row, listsD, ints, Ent.forms, maxLen]
  omega
end Go.V
