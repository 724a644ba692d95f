/- The law of chapter 12 on Check: whatever the document, it returns true. -/
import Derived.Test.YtnjcohimpfmgcaaDoorR11
import Derived.Test.YtnjcohimpfmgcaaDoorK1
set_option linter.unusedSimpArgs false
set_option linter.unusedVariables false
set_option maxRecDepth 10000
namespace Go.V
open Go Go.Proofs

theorem law_checks (d : Dc) (hs : ∀ t ∈ d.tiers, t.name.size ≤ 9223372036854775807) (hx : ∀ n ∈ d.notes, n.text.size ≤ 9223372036854775807) : PureR Tryd.prog 4 [docD d] (.bool true) := by
  refine pure_of_body mixed Tryd.func4 rfl call_4 ?_
  simp (decide := true) [Tryd.f4, docD, Dc.row]
  refine scall_pure (by rfl) (by rfl) (some_ok d) (by simp (decide := true) [docD, Dc.row]) ?_
  cases h : someD d
  · simp (decide := true)
    refine scall_pure (by rfl) (by rfl) awake12_R (by simp) ?_
    simp (decide := true)
  have hf := someD_fit h
  have h1 := hf.notes
  have h2 := hf.tiers
  simp (decide := true)
  refine scall_pure (by rfl) (by rfl) (copy_ok d hf) (by simp (decide := true) [docD, Dc.row]) ?_
  simp (decide := true)
  refine scall_pure (by rfl) (by rfl) (check_ok d (by omega) (by omega)) (by simp (decide := true) [docD, Dc.row]) ?_
  simp (decide := true) [int]
  refine scall_pure (by rfl) (by rfl) (refCheck_ok d (by omega) (by omega) hs hx) (by simp (decide := true) [docD, Dc.row]) ?_
  simp (decide := true) [int, check_eq]
  refine scall_pure (by rfl) (by rfl) awake12_R (by simp) ?_
  simp (decide := true)
end Go.V
