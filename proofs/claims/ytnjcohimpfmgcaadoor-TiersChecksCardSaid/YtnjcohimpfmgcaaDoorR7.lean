/- Contracts: Check and Light, by the reference of chapter 12. -/
import Derived.Test.YtnjcohimpfmgcaaDoorR6
set_option linter.unusedSimpArgs false
set_option linter.unusedVariables false
set_option maxRecDepth 10000
namespace Go.V
open Go Go.Proofs

set_option maxHeartbeats 1000000 in
theorem refCheck_ok (d : Dc) (ht : d.tiers.length < 2^40) (hn : d.notes.length < 2^40) (hs : ∀ t ∈ d.tiers, t.name.size ≤ 9223372036854775807) (hx : ∀ n ∈ d.notes, n.text.size ≤ 9223372036854775807) :
    PureR Tryd.prog 19 [docD d] (int (refE d)) := by
  refine pure_of_body mixed Tryd.func19 rfl call_19 ?_
  simp (decide := true) [Tryd.f19, docD, Dc.row]
  refine ECall.pure (by rfl) (refTiers_ok d.tiers (by omega) hs) (by simp) ?_
  by_cases h1 : tiersE d.tiers = 0
  case neg => simp (decide := true) [int, h1, refE]
  by_cases h2 : d.len < 0
  · simp (decide := true) [int, h1, h2, refE]
  by_cases h3 : 86400000 < d.len
  · simp (decide := true) [int, h1, h2, h3, refE]
  by_cases h4 : 300 < d.notes.length
  · have h4' : (300 : Int) < d.notes.length := by omega
    simp (decide := true) [int, h1, h2, h3, h4, h4', refE, notesD]
  have h4' : ¬ (300 : Int) < d.notes.length := by omega
  have hE : refE d = if notesGo d d.notes.length 0 = 0 then terGos d d.tiers.length 0 else notesGo d d.notes.length 0 := by
    simp only [refE]
    rw [if_neg (by simpa using h1), if_neg (by omega), if_neg h4]
    by_cases h : notesGo d d.notes.length 0 = 0 <;> simp [h]
  rw [hE]
  simp (decide := true) [int, h1, h2, h3, h4', notesD]
  refine loop_rule mixed (fun i : Nat => { n := 54, next := 1, slots := [(1, .bp 0 0), (4, .d (.int .i64 i))], own := [(0, .box 32 (docCells d))] })
    (fun i => i ≤ d.notes.length ∧ notesGo d d.notes.length 0 = notesGo d (d.notes.length - i) i) (fun i => d.notes.length - i) 0 (by simp) (by simp (decide := true) [int, notesD, tiersD, ints]) ?_
  rintro i ⟨hi, hg⟩
  by_cases hlt : i < d.notes.length
  · obtain ⟨m, hm⟩ : ∃ m, d.notes.length - i = m + 1 := ⟨d.notes.length - i - 1, by omega⟩
    have hm' : d.notes.length - (i + 1) = m := by omega
    rw [hm, notesGo_IE, if_pos hlt] at hg
    have hlt' : (i : Int) < d.notes.length := by omega
    simp (decide := true) [int, notesD, hlt']
    refine ECall.pure (by rfl) (noteError_ok d i hlt (by omega) (by omega) hx) (by simp (decide := true) [docD, Dc.row, int, ints, tiersD, notesD]) ?_
    by_cases hz : noteIE d i = 0
    · rw [if_pos hz] at hg
      simp (decide := true) [int, hz, I64]
      exact ⟨by omega, i + 1, ⟨by omega, by rw [hg, hm']⟩, by omega, by simp [notesD]⟩
    · rw [if_neg hz] at hg
      simp (decide := true) [int, hz, hg]
  · have : i = d.notes.length := by omega
    subst this
    rw [Nat.sub_self] at hg
    rw [hg]
    simp (decide := true) [int, notesGo, tiersD, notesD]
    refine loop_rule mixed (fun i : Nat => { n := 54, next := 1, slots := [(1, .bp 0 0), (6, .d (.int .i64 i))], own := [(0, .box 32 (docCells d))] })
      (fun i => i ≤ d.tiers.length ∧ terGos d d.tiers.length 0 = terGos d (d.tiers.length - i) i) (fun i => d.tiers.length - i) 0 (by simp) (by simp (decide := true) [int, notesD, tiersD, ints]) ?_
    rintro i ⟨hi, hg⟩
    by_cases hlt : i < d.tiers.length
    · have hlt' : (i : Int) < d.tiers.length := by omega
      obtain ⟨m, hm⟩ : ∃ m, d.tiers.length - i = m + 1 := ⟨d.tiers.length - i - 1, by omega⟩
      have hm' : d.tiers.length - (i + 1) = m := by omega
      rw [hm] at hg
      simp only [terGos, if_pos hlt] at hg
      simp (decide := true) [int, tiersD, hlt']
      refine ECall.pure (by rfl) (tierError_ok d i hlt (by omega)) (by simp (decide := true) [docD, Dc.row, int, ints, tiersD, notesD]) ?_
      by_cases hz : terE d i = 0
      · rw [if_pos hz] at hg
        simp (decide := true) [int, hz, I64]
        exact ⟨by omega, i + 1, ⟨by omega, by rw [hg, hm']⟩, by omega, by simp [tiersD]⟩
      · rw [if_neg hz] at hg
        simp (decide := true) [int, hz, hg]
    · have : i = d.tiers.length := by omega
      subst this
      rw [Nat.sub_self] at hg
      simp (decide := true) [int, tiersD, hg, terGos]
def lightP (d : Dc) : Bool := decide (d.notes.length ≤ 14) && decide (d.tiers.length ≤ 6) && decide (d.spk.length ≤ 6) && decide (refE d = 0)
theorem light_ok (d : Dc) (hs : ∀ t ∈ d.tiers, t.name.size ≤ 9223372036854775807) (hx : ∀ n ∈ d.notes, n.text.size ≤ 9223372036854775807) :
    PureR Tryd.prog 22 [docD d] (.bool (lightP d)) := by
  refine pure_of_body mixed Tryd.func22 rfl call_22 ?_
  by_cases h1 : d.notes.length ≤ 14
  case neg =>
    have g1 : ¬ (d.notes.length : Int) ≤ 14 := by omega
    simp (decide := true) [Tryd.f22, docD, Dc.row, notesD, tiersD, ints, int, lightP, h1, g1]
  have g1 : (d.notes.length : Int) ≤ 14 := by omega
  by_cases h2 : d.tiers.length ≤ 6
  case neg =>
    have g2 : ¬ (d.tiers.length : Int) ≤ 6 := by omega
    simp (decide := true) [Tryd.f22, docD, Dc.row, notesD, tiersD, ints, int, lightP, h1, g1, h2, g2]
  have g2 : (d.tiers.length : Int) ≤ 6 := by omega
  by_cases h3 : d.spk.length ≤ 6
  case neg =>
    have g3 : ¬ (d.spk.length : Int) ≤ 6 := by omega
    simp (decide := true) [Tryd.f22, docD, Dc.row, notesD, tiersD, ints, int, lightP, h1, g1, h2, g2, h3, g3]
  have g3 : (d.spk.length : Int) ≤ 6 := by omega
  simp (decide := true) [Tryd.f22, docD, Dc.row, notesD, tiersD, ints, int, g1, g2, g3]
  refine ECall.pure (by rfl) (refCheck_ok d (by omega) (by omega) hs hx) (by simp (decide := true) [docD, Dc.row, int, ints, tiersD, notesD]) ?_
  by_cases hz : refE d = 0
  · simp (decide := true) [int, hz, lightP, h1, h2, h3]
  · simp (decide := true) [int, hz, lightP, h1, h2, h3]
end Go.V
