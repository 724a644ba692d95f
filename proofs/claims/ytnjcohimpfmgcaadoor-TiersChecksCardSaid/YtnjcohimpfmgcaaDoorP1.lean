/- Contracts: names, by the program and by the reference. -/
import Derived.Test.YtnjcohimpfmgcaaDoorT1
import Derived.Test.YtnjcohimpfmgcaaDoorN3
set_option linter.unusedSimpArgs false
set_option linter.unusedVariables false
set_option maxRecDepth 10000
namespace Go.V
open Go Go.Proofs

def nmS (b : Nat) : Bool := decide (97 ≤ b) && decide (b ≤ 122)
def nmC (b : Nat) : Bool := nmS b || (decide (48 ≤ b) && decide (b ≤ 57)) || decide (b = 45) || decide (b = 95)
def nameP (s : ByteArray) : Bool := decide (1 ≤ s.size) && decide (s.size ≤ 32) && nmS (byteN s 0) && (List.range s.size).all fun k => nmC (byteN s k)
theorem strRows_len (s : ByteArray) : (strRows s).length = s.size := by unfold strRows; rw [List.length_map]; rfl
theorem strRows_get {s : ByteArray} {k : Nat} (h : k < s.size) : (strRows s)[k]? = some [.int .u8 (byteN s k : Int)] := by
  have hsz : s.size = s.data.toList.length := by rw [Array.length_toList]; rfl
  unfold strRows
  rw [List.getElem?_map, List.getElem?_eq_getElem (by omega)]
  simp [byteN, List.getD, List.getElem?_eq_getElem (show k < s.data.toList.length by omega)]
/-- The ways a byte may stand to names. -/
theorem nm_cases (b : Nat) : (97 ≤ b ∧ b ≤ 122) ∨ (48 ≤ b ∧ b ≤ 57) ∨ b = 45 ∨ b = 95 ∨ (b < 48 ∧ b ≠ 45) ∨ (57 < b ∧ b < 97 ∧ b ≠ 95) ∨ 122 < b := by omega
theorem name_len {s : ByteArray} (h : s.size = 0) : nameP s = false := by simp [nameP, h]
theorem name_ok (s : ByteArray) : PureR Tryd.prog 69 [.str s] (.bool (nameP s)) := by
  refine pure_of_body mixed Tryd.func69 rfl call_69 ?_
  by_cases h0 : s.size = 0
  · have hs : s = ⟨#[]⟩ := by
      cases s with | mk d => congr 1; exact Array.eq_empty_of_size_eq_zero h0
    subst hs
    simp (decide := true) [Tryd.f69, name_len h0]
  have hne : ¬ s = ⟨#[]⟩ := fun e => h0 (by rw [e]; rfl)
  by_cases h1 : 32 < s.size
  · have h1' : (32 : Int) < s.size := by omega
    have : nameP s = false := by simp [nameP]; omega
    simp (decide := true) [Tryd.f69, hne, h1', this]
  have h1' : ¬ (32 : Int) < s.size := by omega
  have hnl : ¬ s.toList = [] := fun e => h0 (by rw [ByteArray.toList_eq] at e; have := congrArg List.length e; rw [Array.length_toList] at this; exact this)
  have hps : 0 < s.size := by omega
  have e0 : byteAt s 0 = (byteN s 0 : Int) := byteAt_nat s 0
  have hz : (0 : Int) < s.size := by omega
  by_cases h2 : byteN s 0 < 97
  · have h2' : (byteN s 0 : Int) < 97 := by omega
    have : nameP s = false := by simp [nameP, nmS]; omega
    simp (decide := true) [Tryd.f69, hne, hnl, hps, h1', e0, hz, h2', this]
  have h2' : ¬ (byteN s 0 : Int) < 97 := by omega
  by_cases h3 : 122 < byteN s 0
  · have h3' : (122 : Int) < byteN s 0 := by omega
    have : nameP s = false := by simp [nameP, nmS]; omega
    simp (decide := true) [Tryd.f69, hne, hnl, hps, h1', e0, hz, h2', h3', this]
  have h3' : ¬ (122 : Int) < byteN s 0 := by omega
  have hP : nameP s = (List.range s.size).all fun k => nmC (byteN s k) := by
    have a1 : decide (1 ≤ s.size) = true := by simpa using (by omega : 1 ≤ s.size)
    have a2 : decide (s.size ≤ 32) = true := by simpa using (by omega : s.size ≤ 32)
    have a3 : nmS (byteN s 0) = true := by simp [nmS]; omega
    simp only [nameP, a1, a2, a3, Bool.true_and]
  rw [hP]
  simp (decide := true) [Tryd.f69, hne, hnl, hps, h1', e0, hz, h2', h3', eBytes, strRows_len]
  refine ⟨by unfold maxLen; omega, ?_⟩
  refine loop_rule mixed (fun k : Nat => { n := 52, next := 0, slots := [(23, .d (.sl (strRows s))), (24, .d (.int .i64 s.size)), (25, .d (.int .i64 k))], own := [] })
    (fun k => k ≤ s.size ∧ ∀ j, j < k → nmC (byteN s j) = true) (fun k => s.size - k) 0 (by simp) (by simp (decide := true) [int]) ?_
  intro k ⟨hk, hp⟩
  by_cases hlt : k < s.size
  · have hlt' : (k : Int) < s.size := by omega
    have hg := strRows_get hlt
    have hlen := strRows_len s
    have hg2 : (strRows s)[k]'(by rw [hlen]; exact hlt) = [.int .u8 (byteN s k : Int)] := by rw [List.getElem?_eq_getElem (by rw [hlen]; exact hlt)] at hg; simpa using hg
    have good : nmC (byteN s k) = true → ∀ j, j < k + 1 → nmC (byteN s j) = true := by
      intro hb j hj
      rcases Nat.lt_or_ge j k with hj' | hj'
      · exact hp j hj'
      · have : j = k := by omega
        subst this; exact hb
    have bad : nmC (byteN s k) = false → (List.range s.size).all (fun k => nmC (byteN s k)) = false := fun hb => by
      rw [List.all_eq_false]; exact ⟨k, by simpa using hlt, by simp [hb]⟩
    generalize byteN s k = b at hg hg2 good bad
    rcases nm_cases b with ⟨c1, c2⟩ | ⟨c1, c2⟩ | rfl | rfl | ⟨c1, c2⟩ | ⟨c1, c2, c3⟩ | c1
    · have q1 : ¬ (b : Int) < 97 := by omega
      have q2 : ¬ (122 : Int) < b := by omega
      simp (decide := true) [hlt, hlt', hg, hg2, hlen, q1, q2, I64]
      exact ⟨by omega, k + 1, ⟨by omega, good (by simp [nmC, nmS]; omega)⟩, by omega, by omega⟩
    · have q1 : (b : Int) < 97 := by omega
      have q2 : ¬ (b : Int) < 48 := by omega
      have q3 : ¬ (57 : Int) < b := by omega
      simp (decide := true) [hlt, hlt', hg, hg2, hlen, q1, q2, q3, I64]
      exact ⟨by omega, k + 1, ⟨by omega, good (by simp [nmC, nmS]; omega)⟩, by omega, by omega⟩
    · simp (decide := true) [hlt, hlt', hg, hg2, hlen, I64]
      exact ⟨by omega, k + 1, ⟨by omega, good (by decide)⟩, by omega, by omega⟩
    · simp (decide := true) [hlt, hlt', hg, hg2, hlen, I64]
      exact ⟨by omega, k + 1, ⟨by omega, good (by decide)⟩, by omega, by omega⟩
    · have q1 : (b : Int) < 97 := by omega
      have q2 : (b : Int) < 48 := by omega
      have q3 : ¬ (b : Int) = 45 := by omega
      have q4 : ¬ (b : Int) = 95 := by omega
      have hb := bad (by simp [nmC, nmS]; omega)
      simp (decide := true) [hlt, hlt', hg, hg2, hlen, q1, q2, q3, q4, hb]
    · have q1 : (b : Int) < 97 := by omega
      have q2 : ¬ (b : Int) < 48 := by omega
      have q5 : (57 : Int) < b := by omega
      have q3 : ¬ (b : Int) = 45 := by omega
      have q4 : ¬ (b : Int) = 95 := by omega
      have hb := bad (by simp [nmC, nmS]; omega)
      simp (decide := true) [hlt, hlt', hg, hg2, hlen, q1, q2, q3, q4, q5, hb]
    · have q1 : ¬ (b : Int) < 97 := by omega
      have q0 : (122 : Int) < b := by omega
      have q2 : ¬ (b : Int) < 48 := by omega
      have q5 : (57 : Int) < b := by omega
      have q3 : ¬ (b : Int) = 45 := by omega
      have q4 : ¬ (b : Int) = 95 := by omega
      have hb := bad (by simp [nmC, nmS]; omega)
      simp (decide := true) [hlt, hlt', hg, hg2, hlen, q0, q1, q2, q3, q4, q5, hb]
  · have : k = s.size := by omega
    subst this
    have hb : (List.range s.size).all (fun k => nmC (byteN s k)) = true := by
      rw [List.all_eq_true]; intro j hj; exact hp j (by simpa using hj)
    simp (decide := true) [hb]
/-- The kinds of a byte for the reference's test. -/
theorem refName_ok (s : ByteArray) (hs : s.size ≤ 9223372036854775807) : PureR Tryd.prog 78 [.str s] (.bool (nameP s)) := by
  refine pure_of_body mixed Tryd.func78 rfl call_78 ?_
  simp (decide := true) [Tryd.f78]
  refine loop_rule mixed (fun k : Nat => { n := 59, next := 0, slots := [(0, .d (.str s)), (3, .d (.int .i64 k))], own := [] })
    (fun k => k ≤ s.size ∧ ∀ j, j < k → (nmC (byteN s j) = true ∧ (j = 0 → nmS (byteN s 0) = true))) (fun k => s.size - k) 0 (by simp) (by simp (decide := true) [int]) ?_
  intro k ⟨hk, hp⟩
  by_cases hlt : k < s.size
  · have hlt' : (k : Int) < s.size := by omega
    have e0 : byteAt s (k : Int) = (byteN s k : Int) := byteAt_nat s k
    have good : nmC (byteN s k) = true → (k = 0 → nmS (byteN s k) = true) → ∀ j, j < k + 1 → (nmC (byteN s j) = true ∧ (j = 0 → nmS (byteN s 0) = true)) := by
      intro hb h0 j hj
      rcases Nat.lt_or_ge j k with hj' | hj'
      · exact hp j hj'
      · have : j = k := by omega
        subst this; exact ⟨hb, fun e => by subst e; exact h0 rfl⟩
    have bad : nmC (byteN s k) = false → nameP s = false := fun hb => by
      have : (List.range s.size).all (fun k => nmC (byteN s k)) = false := by rw [List.all_eq_false]; exact ⟨k, by simpa using hlt, by simp [hb]⟩
      simp only [nameP, this, Bool.and_false]
    have bad0 : k = 0 → nmS (byteN s k) = false → nameP s = false := fun h0 hb => by
      subst h0
      simp only [nameP, hb, Bool.and_false, Bool.false_and]
    generalize byteN s k = b at e0 good bad bad0
    by_cases hs : 97 ≤ b ∧ b ≤ 122
    · obtain ⟨c1, c2⟩ := hs
      have q1 : (97 : Int) ≤ b := by omega
      have q2 : (b : Int) ≤ 122 := by omega
      have hS : nmS b = true := by simp [nmS]; omega
      simp (decide := true) [hlt, hlt', e0, q1, q2, I64]
      exact ⟨by omega, k + 1, ⟨by omega, good (by simp [nmC, hS]) (fun _ => hS)⟩, by omega, by omega⟩
    · have hS : nmS b = false := by simp [nmS]; omega
      by_cases hk0 : k = 0
      · subst hk0
        have hb := bad0 rfl hS
        have e0' : byteAt s 0 = (b : Int) := e0
        by_cases q1 : (97 : Int) ≤ b
        · have q2 : ¬ (b : Int) ≤ 122 := by omega
          simp (decide := true) [hlt, hlt', e0', q1, q2, hb]
        · simp (decide := true) [hlt, hlt', e0', q1, hb]
      · have hk0' : ¬ (k : Int) = 0 := by omega
        have key : ∀ (r : Bool), nmC b = r → (decide (97 ≤ (b : Int)) && decide ((b : Int) ≤ 122)) = false := fun _ _ => by simp; omega
        by_cases q1 : (97 : Int) ≤ b
        · have q2 : ¬ (b : Int) ≤ 122 := by omega
          have q3 : ¬ (b : Int) = 45 := by omega
          have q4 : ¬ (b : Int) = 95 := by omega
          have q5 : ¬ (b : Int) < 48 := by omega
          have q6 : (57 : Int) < b := by omega
          have hb := bad (by simp [nmC, hS]; omega)
          simp (decide := true) [hlt, hlt', e0, q1, q2, q3, q4, q5, q6, hk0, hk0', hb]
        · rcases nm_cases b with ⟨c1, c2⟩ | ⟨c1, c2⟩ | rfl | rfl | ⟨c1, c2⟩ | ⟨c1, c2, c3⟩ | c1
          · omega
          · have q3 : ¬ (b : Int) = 45 := by omega
            have q4 : ¬ (b : Int) = 95 := by omega
            have q5 : ¬ (b : Int) < 48 := by omega
            have q6 : ¬ (57 : Int) < b := by omega
            simp (decide := true) [hlt, hlt', e0, q1, q3, q4, q5, q6, hk0, hk0', I64]
            exact ⟨by omega, k + 1, ⟨by omega, good (by simp [nmC]; omega) (fun h => absurd h hk0)⟩, by omega, by omega⟩
          · simp (decide := true) [hlt, hlt', e0, hk0, hk0', I64]
            exact ⟨by omega, k + 1, ⟨by omega, good (by decide) (fun h => absurd h hk0)⟩, by omega, by omega⟩
          · simp (decide := true) [hlt, hlt', e0, hk0, hk0', I64]
            exact ⟨by omega, k + 1, ⟨by omega, good (by decide) (fun h => absurd h hk0)⟩, by omega, by omega⟩
          · have q3 : ¬ (b : Int) = 45 := by omega
            have q4 : ¬ (b : Int) = 95 := by omega
            have q5 : (b : Int) < 48 := by omega
            have hb := bad (by simp [nmC, hS]; omega)
            simp (decide := true) [hlt, hlt', e0, q1, q3, q4, q5, hk0, hk0', hb]
          · have q3 : ¬ (b : Int) = 45 := by omega
            have q4 : ¬ (b : Int) = 95 := by omega
            have q5 : ¬ (b : Int) < 48 := by omega
            have q6 : (57 : Int) < b := by omega
            have hb := bad (by simp [nmC, hS]; omega)
            simp (decide := true) [hlt, hlt', e0, q1, q3, q4, q5, q6, hk0, hk0', hb]
          · omega
  · have : k = s.size := by omega
    subst this
    have hall : (List.range s.size).all (fun k => nmC (byteN s k)) = true := by
      rw [List.all_eq_true]; intro j hj; exact (hp j (by simpa using hj)).1
    by_cases h1 : 1 ≤ s.size
    · have h1' : (1 : Int) ≤ s.size := by omega
      have hS := (hp 0 (by omega)).2 rfl
      simp (decide := true) [h1', nameP, hall, hS, h1]
      omega
    · have h1' : ¬ (1 : Int) ≤ s.size := by omega
      simp (decide := true) [h1', nameP, h1]
end Go.V
