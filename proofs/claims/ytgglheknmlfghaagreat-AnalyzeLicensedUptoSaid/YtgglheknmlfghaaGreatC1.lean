/- Contracts of functions over lists of numbers. -/
import Derived.Test.YtgglheknmlfghaaGreatC0
set_option linter.unusedSimpArgs false
set_option linter.unusedVariables false
set_option maxRecDepth 10000
namespace Go.V
open Go Go.Proofs

theorem ints_len (l : List Int) : (l.map fun n => [D.int .i64 n]).length = l.length := by simp
theorem getElem?_ints (l : List Int) (k : Nat) : (l.map fun n => [D.int .i64 n])[k]? = (l[k]?).map fun n => [D.int .i64 n] := by simp

theorem take_snoc {α : Type} {l : List α} {k : Nat} (h : k < l.length) : l.take (k + 1) = l.take k ++ [l[k]] := by
  rw [List.take_add_one, List.getElem?_eq_getElem h]; rfl

theorem has_ok (l : List Int) (x : Int) (hl : l.length < 2^62) : PureR Tryz.prog 131 [ints l, int x] (.bool (decide (x ∈ l))) := by
  refine pure_of_body mixed Tryz.func131 rfl call_131 ?_
  simp [Tryz.f131, ints, int]
  refine loop_rule mixed (fun k : Nat => { n := 17, next := 0, slots := [(0, .d (ints l)), (1, .d (int x)), (7, .d (ints l)), (8, .d (.int .i64 l.length)), (9, .d (.int .i64 k))], own := [] })
    (fun k => k ≤ l.length ∧ x ∉ l.take k) (fun k => l.length - k) 0 (by simp) (by simp [ints, int]) ?_
  intro k ⟨hk, hp⟩
  by_cases hlt : k < l.length
  · have e1 : l[k]? = some l[k] := List.getElem?_eq_getElem hlt
    simp (decide := true) [ints, int, e1, hlt, I64]
    refine ⟨fun h => ?_, fun h => ⟨by omega, k + 1, ⟨hlt, ?_⟩, by omega, by omega⟩⟩
    · rw [← h]; exact List.getElem_mem hlt
    · rw [take_snoc hlt, List.mem_append, not_or]; exact ⟨hp, by simpa using fun e => h e.symm⟩
  · have : k = l.length := by omega
    subst this
    simp (decide := true) [ints, int]
    simpa using hp
theorem refHas_ok (l : List Int) (x : Int) (hl : l.length < 2^62) : PureR Tryz.prog 135 [ints l, int x] (.bool (decide (x ∈ l))) := by
  refine pure_of_body mixed Tryz.func135 rfl call_135 ?_
  simp [Tryz.f135, ints, int]
  refine loop_rule mixed (fun k : Nat => { n := 18, next := 0, slots := [(0, .d (ints l)), (1, .d (int x)), (7, .d (.int .i64 l.length)), (8, .d (.int .i64 k))], own := [] })
    (fun k => k ≤ l.length ∧ x ∉ l.take k) (fun k => l.length - k) 0 (by simp) (by simp [ints, int]) ?_
  intro k ⟨hk, hp⟩
  by_cases hlt : k < l.length
  · have e1 : l[k]? = some l[k] := List.getElem?_eq_getElem hlt
    simp (decide := true) [ints, int, e1, hlt, I64]
    refine ⟨fun h => ?_, fun h => ⟨by omega, k + 1, ⟨hlt, ?_⟩, by omega, by omega⟩⟩
    · rw [← h]; exact List.getElem_mem hlt
    · rw [take_snoc hlt, List.mem_append, not_or]; exact ⟨hp, by simpa using fun e => h e.symm⟩
  · have : k = l.length := by omega
    subst this
    simp (decide := true) [ints, int]
    simpa using hp
theorem equal_ok (a b : List Int) (hb : b.length < 2^62) : PureR Tryz.prog 39 [ints a, ints b] (.bool (decide (a = b))) := by
  refine pure_of_body mixed Tryz.func39 rfl call_39 ?_
  simp [Tryz.f39, ints]
  refine ⟨fun h e => h (by rw [e]), fun h => ?_⟩
  refine loop_rule mixed (fun k : Nat => { n := 26, next := 0, slots := [(0, .d (ints a)), (1, .d (ints b)), (12, .d (.int .i64 a.length)), (13, .d (.int .i64 k))], own := [] })
    (fun k => k ≤ a.length ∧ a.take k = b.take k) (fun k => a.length - k) 0 (by simp) (by simp [ints]) ?_
  intro k ⟨hk, hp⟩
  have h : a.length = b.length := by omega
  by_cases hlt : k < a.length
  · have e1 : a[k]? = some a[k] := List.getElem?_eq_getElem hlt
    have e2 : b[k]? = some (b[k]'(by omega)) := List.getElem?_eq_getElem (by omega)
    have hlt' : k < b.length := by omega
    simp (decide := true) [ints, e1, e2, hlt, hlt', I64]
    refine ⟨fun hne e => hne (by subst e; rfl), fun he => ⟨by omega, k + 1, ⟨hlt, ?_⟩, by omega, by omega⟩⟩
    rw [take_snoc hlt, take_snoc hlt', hp, he]
  · have : k = a.length := by omega
    subst this
    simp (decide := true) [ints]
    rw [List.take_length, h, List.take_length] at hp
    exact hp
/-- Whether a list precedes another one. -/
def lessL : List Int → List Int → Bool
  | a :: l, b :: m => if a = b then lessL l m else decide (a < b)
  | [], _ :: _ => true
  | _, [] => false
theorem lessL_drop {a b : List Int} {k : Nat} (h : k < a.length) (h' : k < b.length) : lessL (a.drop k) (b.drop k) = if a[k] = b[k] then lessL (a.drop (k + 1)) (b.drop (k + 1)) else decide (a[k] < b[k]) := by
  rw [List.drop_eq_getElem_cons h, List.drop_eq_getElem_cons h']; rfl
theorem lessL_end {a b : List Int} {k : Nat} (h : ¬ (k < a.length ∧ k < b.length)) (hk : k ≤ a.length ∧ k ≤ b.length) : lessL (a.drop k) (b.drop k) = decide (a.length < b.length) := by
  by_cases h1 : k < b.length
  · have : k = a.length := by omega
    subst this
    rw [List.drop_length, List.drop_eq_getElem_cons h1]
    simp [lessL, h1]
  · have : k = b.length := by omega
    subst this
    rw [List.drop_length]
    have : ¬ a.length < b.length := by omega
    cases a.drop b.length <;> simp [lessL, this]
theorem before_ok (a b : List Int) (ha : a.length < 2^62) (hb : b.length < 2^62) : PureR Tryz.prog 44 [ints a, ints b] (.bool (lessL a b)) := by
  refine pure_of_body mixed Tryz.func44 rfl call_44 ?_
  simp [Tryz.f44, ints]
  refine loop_rule mixed (fun k : Nat => { n := 41, next := 0, slots := [(0, .d (ints a)), (1, .d (ints b)), (5, .d (.int .i64 k))], own := [] })
    (fun k => k ≤ a.length ∧ k ≤ b.length ∧ lessL a b = lessL (a.drop k) (b.drop k)) (fun k => a.length - k) 0 (by simp) (by simp [ints]) ?_
  intro k ⟨hk, hk', hp⟩
  by_cases hlt : k < a.length
  · by_cases hlt' : k < b.length
    · have e1 : a[k]? = some a[k] := List.getElem?_eq_getElem hlt
      have e2 : b[k]? = some b[k] := List.getElem?_eq_getElem hlt'
      rw [lessL_drop hlt hlt'] at hp
      simp (decide := true) [ints, e1, e2, hlt, hlt', I64]
      refine ⟨fun h => by rw [hp, if_neg h], fun h => ⟨by omega, k + 1, ⟨hlt, hlt', ?_⟩, by omega, by omega⟩⟩
      rw [hp, if_pos h]
    · rw [lessL_end (fun h => hlt' h.2) ⟨hk, hk'⟩] at hp
      simp (decide := true) [ints, hlt, hlt', hp]
  · rw [lessL_end (fun h => hlt h.1) ⟨hk, hk'⟩] at hp
    simp (decide := true) [ints, hlt, hp]
theorem refLess_ok (a b : List Int) (ha : a.length < 2^62) (hb : b.length < 2^62) : PureR Tryz.prog 47 [ints a, ints b] (.bool (lessL a b)) := by
  refine pure_of_body mixed Tryz.func47 rfl call_47 ?_
  simp [Tryz.f47, ints]
  refine loop_rule mixed (fun k : Nat => { n := 41, next := 0, slots := [(0, .d (ints a)), (1, .d (ints b)), (5, .d (.int .i64 k))], own := [] })
    (fun k => k ≤ a.length ∧ k ≤ b.length ∧ lessL a b = lessL (a.drop k) (b.drop k)) (fun k => a.length - k) 0 (by simp) (by simp [ints]) ?_
  intro k ⟨hk, hk', hp⟩
  by_cases hlt : k < a.length
  · by_cases hlt' : k < b.length
    · have e1 : a[k]? = some a[k] := List.getElem?_eq_getElem hlt
      have e2 : b[k]? = some b[k] := List.getElem?_eq_getElem hlt'
      rw [lessL_drop hlt hlt'] at hp
      simp (decide := true) [ints, e1, e2, hlt, hlt', I64]
      refine ⟨fun h => by rw [hp, if_neg h], fun h => ⟨by omega, k + 1, ⟨hlt, hlt', ?_⟩, by omega, by omega⟩⟩
      rw [hp, if_pos h]
    · rw [lessL_end (fun h => hlt' h.2) ⟨hk, hk'⟩] at hp
      simp (decide := true) [ints, hlt, hlt', hp]
  · rw [lessL_end (fun h => hlt h.1) ⟨hk, hk'⟩] at hp
    simp (decide := true) [ints, hlt, hp]
end Go.V
