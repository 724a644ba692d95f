/- Contracts: analyses are the same. -/
import Derived.Test.YtgglheknmlfghaaGreatC7
set_option linter.unusedSimpArgs false
set_option linter.unusedVariables false
set_option maxRecDepth 10000
namespace Go.V
open Go Go.Proofs

theorem lessP_total {a b : Prt} (h : lessP a b = false) (h' : lessP b a = false) : a = b := by
  rw [prt_eq]
  unfold lessP at h h'
  by_cases e1 : a.entry = b.entry
  · rw [if_pos e1] at h; rw [if_pos e1.symm] at h'
    by_cases e2 : a.alt = b.alt
    · rw [if_pos e2] at h; rw [if_pos e2.symm] at h'
      simp at h h'
      exact ⟨e1, e2, by omega⟩
    · rw [if_neg e2] at h; rw [if_neg (fun e => e2 e.symm)] at h'
      simp at h h'; omega
  · rw [if_neg e1] at h; rw [if_neg (fun e => e1 e.symm)] at h'
    simp at h h'; omega
theorem lessA_irrefl : ∀ (a : List Prt), lessA a a = false
  | [] => rfl
  | a :: l => by simp [lessA, lessA_irrefl l]
theorem lessA_total : ∀ {a b : List Prt}, lessA a b = false → lessA b a = false → a = b
  | [], [], _, _ => rfl
  | [], _ :: _, h, _ => by simp [lessA] at h
  | _ :: _, [], _, h => by simp [lessA] at h
  | a :: l, b :: m, h, h' => by
    simp only [lessA] at h h'
    by_cases e : a = b
    · subst e
      simp at h h'
      rw [lessA_total h h']
    · rw [if_neg e] at h; rw [if_neg (fun q => e q.symm)] at h'
      exact absurd (lessP_total h h') e
theorem lessA_same (a b : List Prt) : (!lessA a b && !lessA b a) = decide (a = b) := by
  by_cases e : a = b
  · subst e; simp [lessA_irrefl]
  · rw [decide_eq_false e]
    cases h : lessA a b <;> cases h' : lessA b a <;> simp
    exact e (lessA_total h h')
theorem same29_ok (a b : List Prt) (ha : a.length < 2^62) (hb : b.length < 2^62) : PureR Tryz.prog 56 [anaD a, anaD b] (.bool (decide (a = b))) := by
  refine pure_of_body mixed Tryz.func56 rfl call_56 ?_
  rw [← lessA_same]
  simp [Tryz.f56, anaD]
  refine ECall.pure (by rfl) (less29_ok a b ha hb) (by simp) ?_
  cases h : lessA a b
  · simp
    refine ECall.pure (by rfl) (less29_ok b a hb ha) (by simp) ?_
    simp
  · simp
theorem same30_ok (a b : List (List Prt)) (hb : b.length < 2^62) (ha : ∀ x ∈ a, x.length < 2^62) (hb' : ∀ x ∈ b, x.length < 2^62) : PureR Tryz.prog 22 [anasD a, anasD b] (.bool (decide (a = b))) := by
  refine pure_of_body mixed Tryz.func22 rfl call_22 ?_
  simp [Tryz.f22, anasD]
  refine ⟨fun h e => h (by rw [e]), fun h => ?_⟩
  refine loop_rule mixed (fun k : Nat => { n := 27, next := 0, slots := [(0, .d (anasD a)), (1, .d (anasD b)), (5, .d (.int .i64 k))], own := [] })
    (fun k => k ≤ a.length ∧ a.take k = b.take k) (fun k => a.length - k) 0 (by simp) (by simp [anasD]) ?_
  intro k ⟨hk, hp⟩
  have h : a.length = b.length := by omega
  by_cases hlt : k < a.length
  · have hlt' : k < b.length := by omega
    have e1 : a[k]? = some a[k] := List.getElem?_eq_getElem hlt
    have e2 : b[k]? = some b[k] := List.getElem?_eq_getElem hlt'
    simp (decide := true) [anasD, e1, e2, hlt, hlt', I64]
    refine scall_pure (by rfl) (by rfl) (same29_ok a[k] b[k] (ha _ (List.getElem_mem hlt)) (hb' _ (List.getElem_mem hlt'))) (by simp) ?_
    simp (decide := true) [anasD, I64]
    refine ⟨fun hne e => hne (by subst e; rfl), fun he => ⟨by omega, k + 1, ⟨hlt, ?_⟩, by omega, by omega⟩⟩
    rw [take_snoc hlt, take_snoc hlt', hp, he]
  · have : k = a.length := by omega
    subst this
    simp (decide := true) [anasD]
    rw [List.take_length, h, List.take_length] at hp
    exact hp
end Go.V
