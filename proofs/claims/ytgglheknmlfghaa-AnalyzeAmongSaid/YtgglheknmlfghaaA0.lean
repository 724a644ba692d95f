/- Contracts: whether an analysis is among some, by the program and by the reference; the law that both agree. Conditions: lists as they lie in cells. -/
import Derived.Test.YtgglheknmlfghaaC8
import Derived.Test.YtgglheknmlfghaaK0
set_option linter.unusedSimpArgs false
set_option linter.unusedVariables false
set_option maxRecDepth 10000
namespace Go.V
open Go Go.Proofs

theorem among_ok (l : List (List Prt)) (a : List Prt) (hl : l.length < 2^62) (hs : ∀ x ∈ l, x.length < 2^62) : PureR Try.prog 5 [anasD l, anaD a] (.bool (decide (a ∈ l))) := by
  refine pure_of_body mixed Try.func5 rfl call_5 ?_
  simp [Try.f5, anasD, anaD]
  refine loop_rule mixed (fun k : Nat => { n := 17, next := 1, slots := [(3, .bp 0 0), (7, .d (anasD l)), (8, .d (.int .i64 l.length)), (9, .d (.int .i64 k))], own := [(0, .box 25 [.d (partsD a)])] })
    (fun k => k ≤ l.length ∧ a ∉ l.take k) (fun k => l.length - k) 0 (by simp) (by simp [anasD]) ?_
  intro k ⟨hk, hp⟩
  by_cases hlt : k < l.length
  · have e1 : l[k]? = some l[k] := List.getElem?_eq_getElem hlt
    simp (decide := true) [anasD, e1, hlt, I64]
    refine ECall.pure (by rfl) (sameAna_ok a l[k] (hs _ (List.getElem_mem hlt))) (by simp) ?_
    simp (decide := true) [anasD, I64]
    refine ⟨fun h => ?_, fun h => ⟨by omega, k + 1, ⟨hlt, ?_⟩, by omega, by omega⟩⟩
    · rw [h]; exact List.getElem_mem hlt
    · rw [take_snoc hlt, List.mem_append, not_or]; exact ⟨hp, by simpa using h⟩
  · have : k = l.length := by omega
    subst this
    simp (decide := true) [anasD]
    simpa using hp
theorem refAmong_ok (l : List (List Prt)) (a : List Prt) (hl : l.length < 2^62) (hs : ∀ x ∈ l, x.length < 2^62) (ha : a.length < 2^62) : PureR Try.prog 6 [anasD l, anaD a] (.bool (decide (a ∈ l))) := by
  refine pure_of_body mixed Try.func6 rfl call_6 ?_
  simp [Try.f6, anasD, anaD]
  refine loop_rule mixed (fun k : Nat => { n := 18, next := 1, slots := [(0, .d (anasD l)), (3, .bp 0 0), (5, .d (.int .i64 k))], own := [(0, .box 25 [.d (partsD a)])] })
    (fun k => k ≤ l.length ∧ a ∉ l.take k) (fun k => l.length - k) 0 (by simp) (by simp [anasD]) ?_
  intro k ⟨hk, hp⟩
  by_cases hlt : k < l.length
  · have e1 : l[k]? = some l[k] := List.getElem?_eq_getElem hlt
    simp (decide := true) [anasD, e1, hlt, I64]
    refine scall_pure (by rfl) (by rfl) (same29_ok l[k] a (hs _ (List.getElem_mem hlt)) ha) (by simp) ?_
    simp (decide := true) [anasD, I64]
    refine ⟨fun h => ?_, fun h => ⟨by omega, k + 1, ⟨hlt, ?_⟩, by omega, by omega⟩⟩
    · rw [← h]; exact List.getElem_mem hlt
    · rw [take_snoc hlt, List.mem_append, not_or]; exact ⟨hp, by simpa using fun e => h e.symm⟩
  · have : k = l.length := by omega
    subst this
    simp (decide := true) [anasD]
    simpa using hp
theorem law_among (l : List (List Prt)) (a : List Prt) : PureR Try.prog 3 [anasD l, anaD a] (.bool true) := by
  refine pure_of_body mixed Try.func3 rfl call_3 ?_
  by_cases h1 : (50 : Int) < l.length
  · simp [Try.f3, anasD, anaD, partsD, I64, h1]
    refine ECall.pure (by rfl) awake_R (by simp) ?_
    simp
  by_cases h2 : (10 : Int) < a.length
  · simp [Try.f3, anasD, anaD, partsD, I64, h1, h2]
    refine ECall.pure (by rfl) awake_R (by simp) ?_
    simp
  simp [Try.f3, anasD, anaD, partsD, I64, h1, h2]
  refine loop_rule mixed (fun k : Nat => { n := 40, next := 1, slots := [(0, .d (anasD l)), (3, .bp 0 0), (5, .d (.int .i64 k))], own := [(0, .box 25 [.d (partsD a)])] })
    (fun k => k ≤ l.length ∧ ∀ x ∈ l.take k, x.length ≤ 10) (fun k => l.length - k) 0 (by simp) (by simp [anasD, partsD]) ?_
  intro k ⟨hk, hp⟩
  by_cases hlt : k < l.length
  · have e1 : l[k]? = some l[k] := List.getElem?_eq_getElem hlt
    simp (decide := true) [anasD, partsD, e1, hlt, I64]
    refine ⟨fun h => ?_, fun h => ⟨by omega, k + 1, ⟨hlt, ?_⟩, by omega, by omega⟩⟩
    rotate_left
    · exact take_all hlt hp (by omega)
    refine ECall.pure (by rfl) awake_R (by simp) ?_
    simp
  · have : k = l.length := by omega
    subst this
    rw [List.take_length] at hp
    have hl : l.length < 2^62 := by omega
    have ha : a.length < 2^62 := by omega
    have hs : ∀ x ∈ l, x.length < 2^62 := fun x hx => by have := hp x hx; omega
    simp (decide := true) [anasD, partsD]
    refine scall_pure (by rfl) (by rfl) (among_ok l a hl hs) (by simp) ?_
    simp (decide := true) [anasD, partsD, anaD]
    refine scall_pure (by rfl) (by rfl) (refAmong_ok l a hl hs ha) (by simp) ?_
    simp (decide := true) [anasD, partsD, anaD]
    refine scall_pure (by rfl) (by rfl) awake_R (by simp) ?_
    simp (decide := true)
end Go.V
