/- Contracts: analyses are the same. -/
import Derived.Test.YtmpknkjlhapcmaaGreatC7
set_option linter.unusedSimpArgs false
set_option linter.unusedVariables false
set_option maxRecDepth 10000
namespace Go.V
open Go Go.Proofs

theorem lessP_total {a b : Prt} (h : lessP a b = false) (h' : lessP b a = false) : a = b := by
  rw [prt_eq]
  unfold lessP at h h'
  by_cases e1 : a.entry = b.entry
  · rw [if_pos e1] at h; rw [if_pos e1.symm] at h'
    by_cases e2 : a.alt = b.alt
    · rw [if_pos e2] at h; rw [if_pos e2.symm] at h'
      simp at h h'
      exact ⟨e1, e2, by omega⟩
    · rw [if_neg e2] at h; rw [if_neg (fun e => e2 e.symm)] at h'
      simp at h h'; omega
  · rw [if_neg e1] at h; rw [if_neg (fun e => e1 e.symm)] at h'
    simp at h h'; omega
theorem lessA_irrefl : ∀ (a : List Prt), lessA a a = false
  | [] => rfl
  | a :: l => by simp [lessA, lessA_irrefl l]
theorem lessA_total : ∀ {a b : List Prt}, lessA a b = false → lessA b a = false → a = b
  | [], [], _, _ => rfl
  | [], _ :: _, h, _ => by simp [lessA] at h
  | _ :: _, [], _, h => by simp [lessA] at h
  | a :: l, b :: m, h, h' => by
    simp only [lessA] at h h'
    by_cases e : a = b
    · subst e
      simp at h h'
      rw [lessA_total h h']
    · rw [if_neg e] at h; rw [if_neg (fun q => e q.symm)] at h'
      exact absurd (lessP_total h h') e
theorem lessA_same (a b : List Prt) : (!lessA a b && !lessA b a) = decide (a = b) := by
  by_cases e : a = b
  · subst e; simp [lessA_irrefl]
  · rw [decide_eq_false e]
    cases h : lessA a b <;> cases h' : lessA b a <;> simp
    exact e (lessA_total h h')
theorem same29_ok (a b : List Prt) (ha : a.length < 2^62) (hb : b.length < 2^62) : PureR Tryz.prog 25 [anaD a, anaD b] (.bool (decide (a = b))) := by
  refine pure_of_body mixed Tryz.func25 rfl call_25 ?_
  rw [← lessA_same]
  simp [Tryz.f25, anaD]
  refine ECall.pure (by rfl) (less29_ok a b ha hb) (by simp) ?_
  cases h : lessA a b
  · simp
    refine ECall.pure (by rfl) (less29_ok b a hb ha) (by simp) ?_
    simp
  · simp
end Go.V
