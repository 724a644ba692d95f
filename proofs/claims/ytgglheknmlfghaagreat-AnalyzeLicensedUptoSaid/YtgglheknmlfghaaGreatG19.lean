/- The checks of a language, by the reference, safe on whatever is not too large: labels, names, units, segments. -/
import Derived.Test.YtgglheknmlfghaaGreatG18
set_option linter.unusedSimpArgs false
set_option linter.unusedVariables false
set_option maxRecDepth 10000
namespace Go.V
open Go Go.Proofs

def IsB (r : D) : Prop := ∃ b, r = .bool b
def IsI (r : D) : Prop := ∃ e, r = int e
@[simp] theorem isB_mk (b : Bool) : IsB (.bool b) := ⟨b, rfl⟩
@[simp] theorem isI_mk (n : Int) : IsI (.int .i64 n) := ⟨n, rfl⟩
theorem label10_ok (s : ByteArray) (hs : s.size ≤ 1048576) : PureE Tryz.prog 111 [.str s] IsB := by
  refine some_of_body mixed Tryz.func111 rfl call_111 ?_
  simp (decide := true) [Tryz.f111, int]
  refine loop_rule mixed (fun k : Nat => { n := 38, next := 0, slots := [(0, .d (.str s)), (3, .d (int k))], own := [] })
    (fun k => k ≤ s.size) (fun k => s.size - k) 0 (by simp) (by simp (decide := true) [int]) ?_
  intro k hk
  by_cases hlt : k < s.size
  · have hlt' : (k : Int) < s.size := by omega
    have e1 : byteAt s (k : Int) = (byteN s k : Int) := byteAt_nat s k
    by_cases b1 : (byteN s k : Int) < 32
    · simp (decide := true) [int, hlt, hlt', e1, b1]
    · by_cases b2 : (byteN s k : Int) = 127
      · simp (decide := true) [int, hlt, hlt', e1, b1, b2]
      · simp (decide := true) [int, hlt, hlt', e1, b1, b2, I64]
        exact ⟨⟨by omega, by omega⟩, k + 1, hlt, by omega, by omega⟩
  · have hlt' : ¬ (k : Int) < s.size := by omega
    simp (decide := true) [int, hlt']
    refine ECall.pure (by rfl) (refPoints_ok s hs) (by simp) ?_
    cases hp : ptsGo s s.size 0 with
    | none => simp (decide := true) [ptsD, int]
    | some l =>
      by_cases c1 : (1 : Int) ≤ s.size
      · simp (decide := true) [ptsD, int, ints, c1]
      · simp (decide := true) [ptsD, int, ints, c1]
theorem label17_ok (s : ByteArray) (hs : s.size ≤ 1048576) : PureE Tryz.prog 114 [.str s] IsB := by
  refine some_of_body mixed Tryz.func114 rfl call_114 ?_
  simp (decide := true) [Tryz.f114, int]
  refine loop_rule mixed (fun k : Nat => { n := 16, next := 0, slots := [(0, .d (.str s)), (3, .d (int k))], own := [] })
    (fun k => k ≤ s.size) (fun k => s.size - k) 0 (by simp) (by simp (decide := true) [int]) ?_
  intro k hk
  by_cases hlt : k < s.size
  · have hlt' : (k : Int) < s.size := by omega
    have e1 : byteAt s (k : Int) = (byteN s k : Int) := byteAt_nat s k
    by_cases b1 : (byteN s k : Int) = 32
    · simp (decide := true) [int, hlt, hlt', e1, b1]
    · simp (decide := true) [int, hlt, hlt', e1, b1, I64]
      exact ⟨⟨by omega, by omega⟩, k + 1, hlt, by omega, by omega⟩
  · have hlt' : ¬ (k : Int) < s.size := by omega
    simp (decide := true) [int, hlt']
    refine ECall.some (by rfl) (label10_ok s hs) ?_
    rintro r ⟨b, rfl⟩
    simp (decide := true) [int]
theorem gloss24_ok (s : ByteArray) (hs : s.size ≤ 1048576) : PureE Tryz.prog 184 [.str s] IsB := by
  refine some_of_body mixed Tryz.func184 rfl call_184 ?_
  simp (decide := true) [Tryz.f184, int]
  refine loop_rule mixed (fun k : Nat => { n := 22, next := 0, slots := [(0, .d (.str s)), (3, .d (int k))], own := [] })
    (fun k => k ≤ s.size) (fun k => s.size - k) 0 (by simp) (by simp (decide := true) [int]) ?_
  intro k hk
  by_cases hlt : k < s.size
  · have hlt' : (k : Int) < s.size := by omega
    have e1 : byteAt s (k : Int) = (byteN s k : Int) := byteAt_nat s k
    by_cases b1 : (byteN s k : Int) = 32
    · simp (decide := true) [int, hlt, hlt', e1, b1]
    · by_cases b2 : (byteN s k : Int) = 45
      · simp (decide := true) [int, hlt, hlt', e1, b1, b2]
      · simp (decide := true) [int, hlt, hlt', e1, b1, b2, I64]
        exact ⟨⟨by omega, by omega⟩, k + 1, hlt, by omega, by omega⟩
  · have hlt' : ¬ (k : Int) < s.size := by omega
    simp (decide := true) [int, hlt']
    refine ECall.some (by rfl) (label10_ok s hs) ?_
    rintro r ⟨b, rfl⟩
    simp (decide := true) [int]
theorem text12_ok (s : ByteArray) : PureE Tryz.prog 185 [.str s] IsI := by
  refine some_of_body mixed Tryz.func185 rfl call_185 ?_
  by_cases h0 : 200 < s.size
  · have h0' : (200 : Int) < s.size := by omega
    simp (decide := true) [Tryz.f185, h0', h0, int]
  have h0' : ¬ (200 : Int) < s.size := by omega
  simp (decide := true) [Tryz.f185, h0', h0, int]
  refine ECall.pure (by rfl) (refPoints_ok s (by omega)) (by simp) ?_
  cases hp : ptsGo s s.size 0 with
  | none => simp (decide := true) [ptsD, int]
  | some l =>
    have hll : l.length ≤ s.size := pts_len s _ _ _ hp
    simp (decide := true) [ptsD, ints, int]
    refine loop_rule mixed (fun k : Nat => { n := 34, next := 0, slots := [(3, .d (ints l)), (5, .d (int k))], own := [] })
      (fun k => k ≤ l.length) (fun k => l.length - k) 0 (by simp) (by simp (decide := true) [int, ints]) ?_
    intro k hk
    by_cases hlt : k < l.length
    · have hlt' : (k : Int) < l.length := by omega
      obtain ⟨x, ex⟩ : ∃ x, l[k] = x := ⟨_, rfl⟩
      have e1 : l[k]? = some x := by rw [List.getElem?_eq_getElem hlt, ex]
      by_cases b1 : x < 32
      · simp (decide := true) [ints, int, e1, ex, hlt, hlt', b1]
      · by_cases b2 : x = 127
        · simp (decide := true) [ints, int, e1, ex, hlt, hlt', b1, b2]
        · simp (decide := true) [ints, int, e1, ex, hlt, hlt', b1, b2, I64]
          exact ⟨⟨by omega, by omega⟩, k + 1, hlt, by omega, by omega⟩
    · have hlt' : ¬ (k : Int) < l.length := by omega
      simp (decide := true) [ints, int, hlt']
end Go.V
