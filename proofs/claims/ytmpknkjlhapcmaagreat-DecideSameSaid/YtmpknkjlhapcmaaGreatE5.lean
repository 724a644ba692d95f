/- The laws of chapter 31 on Check and on Same: whatever the decisions, they return true. -/
import Derived.Test.YtmpknkjlhapcmaaGreatE4
import Derived.Test.YtmpknkjlhapcmaaGreatK0
set_option linter.unusedSimpArgs false
set_option linter.unusedVariables false
set_option maxRecDepth 10000
namespace Go.V
open Go Go.Proofs

theorem law_checks (l : List Dec) : PureR Tryz.prog 3 [decsD l] (.bool true) := by
  refine pure_of_body mixed Tryz.func3 rfl call_3 ?_
  simp [Tryz.f3, decsD]
  refine ECall.pure (by rfl) (few_ok l) (by simp) ?_
  cases h : fewL l
  · simp
    refine ECall.pure (by rfl) awake31_R (by simp) ?_
    simp
  · obtain ⟨h1, h2⟩ := fewL_fits h
    simp
    refine ECall.pure (by rfl) (check_ok l h1 h2) (by simp) ?_
    simp
    refine ECall.pure (by rfl) (refCheck_ok l h1 h2) (by simp) ?_
    simp (decide := true) [int]
    refine ECall.pure (by rfl) awake31_R (by simp) ?_
    simp
theorem law_same31 (a b : List Dec) : PureR Tryz.prog 8 [decsD a, decsD b] (.bool true) := by
  refine pure_of_body mixed Tryz.func8 rfl call_8 ?_
  simp [Tryz.f8, decsD]
  refine ECall.pure (by rfl) (few_ok a) (by simp) ?_
  cases h : fewL a
  · simp
    refine ECall.pure (by rfl) awake31_R (by simp) ?_
    simp
  obtain ⟨h1, h2⟩ := fewL_fits h
  simp
  refine ECall.pure (by rfl) (few_ok b) (by simp) ?_
  cases h' : fewL b
  · simp
    refine ECall.pure (by rfl) awake31_R (by simp) ?_
    simp
  obtain ⟨h3, h4⟩ := fewL_fits h'
  simp
  refine ECall.pure (by rfl) (same31_ok a b h3 h4) (by simp) ?_
  simp
  refine ECall.pure (by rfl) (refSame31_ok a b h3 h2 h4) (by simp) ?_
  simp
  refine ECall.pure (by rfl) (same31_ok a a h1 h2) (by simp) ?_
  simp
  refine ECall.pure (by rfl) awake31_R (by simp) ?_
  simp
end Go.V
