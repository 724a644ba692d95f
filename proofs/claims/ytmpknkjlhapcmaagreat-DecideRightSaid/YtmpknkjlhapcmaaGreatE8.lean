/- The law of chapter 31 on Drop and Picked: whatever the decisions, it returns true. -/
import Derived.Test.YtmpknkjlhapcmaaGreatE7
import Derived.Test.YtmpknkjlhapcmaaGreatK0
set_option linter.unusedSimpArgs false
set_option linter.unusedVariables false
set_option maxRecDepth 10000
namespace Go.V
open Go Go.Proofs

theorem pickedL_fit {l : List Dec} {r : Rf} (hf : Fits31 l) : (pickedL l r).1.length < 2^62 := by
  unfold pickedL
  split
  · rename_i d hd; exact hf d (List.mem_of_find?_eq_some hd)
  · simp
theorem fits_filter {l : List Dec} {p : Dec → Bool} (hf : Fits31 l) : Fits31 (l.filter p) := fun d hd => hf d (List.mem_filter.1 hd).1
theorem rightL_few {l : List Dec} (h : rightL l = true) : fewL l = true := by
  unfold rightL at h; rw [Bool.and_eq_true] at h; exact h.1
theorem fewL_len {l : List Dec} (h : fewL l = true) : l.length ≤ 40 := by
  simp only [fewL, Bool.and_eq_true, decide_eq_true_eq] at h; exact h.1
theorem law_drops (l : List Dec) (r : Rf) : PureR Tryz.prog 5 [decsD l, refD r] (.bool true) := by
  refine pure_of_body mixed Tryz.func5 rfl call_5 ?_
  simp [Tryz.f5, decsD, refD, Rf.row, int, Value.oneCell']
  refine ECall.pure (by rfl) (right_ok l) (by simp) ?_
  cases h : rightL l
  · simp
    refine ECall.pure (by rfl) awake31_R (by simp) ?_
    simp
  have hfew := rightL_few h
  have hlen := fewL_len hfew
  obtain ⟨h1, h2⟩ := fewL_fits hfew
  simp
  refine ECall.pure (by rfl) (picked_ok l r h1) (by simp) ?_
  simp [anaD, Value.oneCell']
  refine ECall.pure (by rfl) (refPicked_ok l r h1) (by simp) ?_
  simp (decide := true) [anaD, Value.oneCell']
  refine scall_pure (by rfl) (by rfl) (drop_ok l r (by omega)) (by simp) ?_
  simp (decide := true)
  refine scall_pure (by rfl) (by rfl) (refDrop_ok l r (by omega)) (by simp) ?_
  have hd : (dropL l r).length < 2^62 := by have := List.length_filter_le (fun d : Dec => !decide (d.ref = r)) l; unfold dropL; omega
  simp (decide := true)
  refine scall_pure (by rfl) (by rfl) (refSame31_ok (dropL l r) (dropL l r) hd (fits_filter h2) (fits_filter h2)) (by simp) ?_
  simp (decide := true)
  refine scall_pure (by rfl) (by rfl) (same29_ok (pickedL l r).1 (pickedL l r).1 (pickedL_fit h2) (pickedL_fit h2)) (by simp) ?_
  simp (decide := true)
  refine scall_pure (by rfl) (by rfl) awake31_R (by simp) ?_
  simp (decide := true)
end Go.V
