/- The laws of chapter 12 on Get and on Same: whatever the documents, they return true. -/
import Derived.Test.YtnjcohimpfmgcaaDoorN4
import Derived.Test.YtnjcohimpfmgcaaDoorK1
set_option linter.unusedSimpArgs false
set_option linter.unusedVariables false
set_option maxRecDepth 10000
namespace Go.V
open Go Go.Proofs

theorem law_gets (d : Dc) (id : Int) : PureR Tryd.prog 5 [docD d, int id] (.bool true) := by
  refine pure_of_body mixed Tryd.func5 rfl call_5 ?_
  simp (decide := true) [Tryd.f5, docD, Dc.row]
  refine ECall.pure (by rfl) (some_ok d) (by simp (decide := true) [docD, Dc.row]) ?_
  cases h : someD d
  · simp
    refine ECall.pure (by rfl) awake12_R (by simp) ?_
    simp
  have hf := someD_fit h
  have h1 := hf.notes
  simp
  refine ECall.pure (by rfl) (copy_ok d hf) (by simp (decide := true) [docD, Dc.row]) ?_
  simp
  refine ECall.pure (by rfl) (get_ok d id (by omega)) (by simp (decide := true) [docD, Dc.row]) ?_
  simp (decide := true) [getD', Nt.row]
  refine ECall.pure (by rfl) (refGet_ok d id (by omega)) (by simp (decide := true) [docD, Dc.row]) ?_
  simp (decide := true) [getD', Nt.row, int]
  refine ECall.pure (by rfl) awake12_R (by simp) ?_
  simp
theorem law_same12 (a b : Dc) : PureR Tryd.prog 7 [docD a, docD b] (.bool true) := by
  refine pure_of_body mixed Tryd.func7 rfl call_7 ?_
  simp (decide := true) [Tryd.f7, docD, Dc.row]
  refine ECall.pure (by rfl) (some_ok a) (by simp (decide := true) [docD, Dc.row]) ?_
  cases h : someD a
  · simp
    refine ECall.pure (by rfl) awake12_R (by simp) ?_
    simp
  have hf := someD_fit h
  simp
  refine ECall.pure (by rfl) (some_ok b) (by simp (decide := true) [docD, Dc.row]) ?_
  cases h' : someD b
  · simp
    refine ECall.pure (by rfl) awake12_R (by simp) ?_
    simp
  have hf' := someD_fit h'
  simp (decide := true)
  refine scall_pure (by rfl) (by rfl) (copy_ok a hf) (by simp (decide := true) [docD, Dc.row]) ?_
  simp (decide := true)
  refine scall_pure (by rfl) (by rfl) (copy_ok b hf') (by simp (decide := true) [docD, Dc.row]) ?_
  simp (decide := true)
  refine scall_pure (by rfl) (by rfl) (same_ok a b hf') (by simp (decide := true) [docD, Dc.row]) ?_
  simp (decide := true)
  refine scall_pure (by rfl) (by rfl) (refSame_ok a b hf') (by simp (decide := true) [docD, Dc.row]) ?_
  simp (decide := true)
  refine scall_pure (by rfl) (by rfl) (copy_ok a hf) (by simp (decide := true) [docD, Dc.row]) ?_
  simp (decide := true)
  refine scall_pure (by rfl) (by rfl) (same_ok a a hf) (by simp (decide := true) [docD, Dc.row]) ?_
  simp (decide := true)
  refine scall_pure (by rfl) (by rfl) awake12_R (by simp) ?_
  simp (decide := true)
end Go.V
