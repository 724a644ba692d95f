/- Contracts: the text of a note, by the program. -/
import Derived.Test.YtnjcohimpfmgcaaDoorU3
import Derived.Test.YtnjcohimpfmgcaaDoorW1
set_option linter.unusedSimpArgs false
set_option linter.unusedVariables false
set_option maxRecDepth 10000
namespace Go.V
open Go Go.Proofs

def byteN (s : ByteArray) (k : Nat) : Nat := (s.data.toList.getD k 0).toNat
theorem byteAt_nat (s : ByteArray) (k : Nat) : byteAt s (k : Int) = (byteN s k : Int) := by simp [byteAt, byteN]
/-- A byte that no text may hold. -/
def badByte (b : Nat) : Bool := decide (b < 32) || decide (b = 127)
def badText (s : ByteArray) : Bool := (List.range s.size).any fun k => badByte (byteN s k)
def textE (s : ByteArray) : Int := if 200 < s.size then 5 else if validB s = true then (if badText s = true then 3 else 0) else 3
theorem text_ok (s : ByteArray) : PureR Tryd.prog 13 [.str s] (int (textE s)) := by
  refine pure_of_body mixed Tryd.func13 rfl call_13 ?_
  by_cases h0 : 200 < s.size
  · have h0' : (200 : Int) < s.size := by omega
    simp (decide := true) [Tryd.f13, h0', textE, h0, int]
  have h0' : ¬ (200 : Int) < s.size := by omega
  simp (decide := true) [Tryd.f13, h0', int]
  refine ECall.some (by rfl) (points_ok s (by omega)) ?_
  rintro r ⟨l, rfl⟩
  refine ⟨by simp, ?_⟩
  by_cases hv : validB s = true
  case neg => simp (decide := true) [hv, textE, h0, int]
  simp (decide := true) [hv, int]
  refine loop_rule mixed (fun k : Nat => { n := 32, next := 0, slots := [(0, .d (.str s)), (17, .d (.int .i64 s.size)), (18, .d (.int .i64 k))], own := [] })
    (fun k => k ≤ s.size ∧ ∀ j, j < k → badByte (byteN s j) = false) (fun k => s.size - k) 0 (by simp) (by simp (decide := true) [int]) ?_
  intro k ⟨hk, hp⟩
  by_cases hlt : k < s.size
  · have e1 : byteAt s (k : Int) = (byteN s k : Int) := byteAt_nat s k
    have hst : badByte (byteN s k) = false → ∀ j, j < k + 1 → badByte (byteN s j) = false := by
      intro hb j hj
      rcases Nat.lt_or_ge j k with hj' | hj'
      · exact hp j hj'
      · have : j = k := by omega
        subst this; exact hb
    have hbad : badByte (byteN s k) = true → badText s = true := fun hb => by
      unfold badText; rw [List.any_eq_true]; exact ⟨k, by simpa using hlt, hb⟩
    by_cases b1 : byteN s k < 32
    · have b1' : (byteN s k : Int) < 32 := by omega
      have hb := hbad (by simp [badByte, b1])
      simp (decide := true) [int, hlt, e1, b1', textE, h0, hv, hb]
    · have b1' : ¬ (byteN s k : Int) < 32 := by omega
      by_cases b2 : byteN s k = 127
      · have b2' : (byteN s k : Int) = 127 := by omega
        have hb := hbad (by simp [badByte, b2])
        simp (decide := true) [int, hlt, e1, b1', b2', textE, h0, hv, hb]
      · have b2' : ¬ (byteN s k : Int) = 127 := by omega
        simp (decide := true) [int, hlt, e1, b1', b2', I64]
        exact ⟨by omega, k + 1, ⟨hlt, hst (by simp [badByte, b1, b2])⟩, by omega, by omega⟩
  · have : k = s.size := by omega
    subst this
    have hb : badText s = false := by
      unfold badText; rw [List.any_eq_false]
      intro j hj
      have := hp j (by simpa using hj)
      simp [this]
    simp (decide := true) [int, textE, h0, hv, hb]
end Go.V
