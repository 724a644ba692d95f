/- Contract: Check at documents, by the program. -/
import Derived.Test.YtnjcohimpfmgcaaDoorP6
set_option linter.unusedSimpArgs false
set_option linter.unusedVariables false
set_option maxRecDepth 10000
namespace Go.V
open Go Go.Proofs

/-- The first error of the notes from an index on. -/
def notesGo (d : Dc) : Nat → Nat → Int
  | 0, _ => 0
  | m + 1, i => if i < d.notes.length then
      (let n := d.notes[i]?.getD default
       if n.id < 1 ∨ 1099511627776 < n.id then 2 else if i ≠ 0 ∧ n.id ≤ (d.notes[i - 1]?.getD default).id then 10
       else if n.tier < 0 ∨ (d.tiers.length : Int) ≤ n.tier then 2 else if noteE d n = 0 then notesGo d m (i + 1) else noteE d n)
    else 0
def tierGos (d : Dc) : Nat → Nat → Int
  | 0, _ => 0
  | m + 1, i => if i < d.tiers.length then (if tierE d i = 0 then tierGos d m (i + 1) else tierE d i) else 0
def checkE (d : Dc) : Int :=
  if tiersE d.tiers ≠ 0 then tiersE d.tiers else if d.len < 0 ∨ 86400000 < d.len then 12 else if 300 < d.notes.length then 11
  else if notesGo d d.notes.length 0 ≠ 0 then notesGo d d.notes.length 0 else tierGos d d.tiers.length 0
set_option maxHeartbeats 4000000 in
theorem check0_ok (d : Dc) (ht : d.tiers.length < 2^30) (hn : d.notes.length < 2^30) (hT : ∀ t : Nat, t < d.tiers.length → PureR Tryd.prog 38 [docD d, .mp (mapD (firsts d.notes)), int t] (int (tierE d t))) :
    PureR Tryd.prog 17 [docD d] (int (checkE d)) := by
  refine pure_of_body mixed Tryd.func17 rfl call_17 ?_
  simp (decide := true) [Tryd.f17, docD, Dc.row]
  refine ECall.pure (by rfl) (tiersCheck_ok d.tiers (by omega)) (by simp) ?_
  by_cases h1 : tiersE d.tiers = 0
  case neg => simp (decide := true) [int, h1, checkE]
  by_cases h2 : d.len < 0
  · simp (decide := true) [int, h1, h2, checkE]
  by_cases h3 : 86400000 < d.len
  · simp (decide := true) [int, h1, h2, h3, checkE]
  by_cases h4 : 300 < d.notes.length
  · have h4' : (300 : Int) < d.notes.length := by omega
    simp (decide := true) [int, h1, h2, h3, h4, h4', checkE, notesD]
  have h4' : ¬ (300 : Int) < d.notes.length := by omega
  simp (decide := true) [int, h1, h2, h3, h4', notesD]
  refine ECall.pure (by rfl) (byId_ok d (by omega)) (by simp (decide := true) [docD, Dc.row, int, notesD]) ?_
  have hE : checkE d = if notesGo d d.notes.length 0 = 0 then tierGos d d.tiers.length 0 else notesGo d d.notes.length 0 := by
    simp only [checkE]
    rw [if_neg (by simpa using h1), if_neg (by omega), if_neg h4]
    by_cases h : notesGo d d.notes.length 0 = 0 <;> simp [h]
  rw [hE]
  simp (decide := true) [int, notesD]
  refine loop_rule mixed (fun i : Nat => { n := 95, next := 1, slots := [(1, .bp 0 0), (4, .d (.mp (mapD (firsts d.notes)))), (33, .d (notesD d.notes)), (34, .d (.int .i64 d.notes.length)), (35, .d (.int .i64 i))], own := [(0, .box 32 (docCells d))] })
    (fun i => i ≤ d.notes.length ∧ notesGo d d.notes.length 0 = notesGo d (d.notes.length - i) i) (fun i => d.notes.length - i) 0 (by simp) (by simp (decide := true) [int, notesD, tiersD, ints]) ?_
  rintro i ⟨hi, hg⟩
  by_cases hlt : i < d.notes.length
  · obtain ⟨m, hm⟩ : ∃ m, d.notes.length - i = m + 1 := ⟨d.notes.length - i - 1, by omega⟩
    have hm' : d.notes.length - (i + 1) = m := by omega
    rw [hm] at hg
    obtain ⟨n, en'⟩ : ∃ n, d.notes[i] = n := ⟨_, rfl⟩
    have en : d.notes[i]? = some n := by rw [List.getElem?_eq_getElem hlt, en']
    have hlt' : (i : Int) < d.notes.length := by omega
    simp only [notesGo, if_pos hlt, en, Option.getD_some] at hg
    by_cases a1 : n.id < 1
    · rw [if_pos (Or.inl a1)] at hg
      simp (decide := true) [int, notesD, Nt.row, hlt, hlt', en, en', a1, hg]
    by_cases a2 : 1099511627776 < n.id
    · rw [if_pos (Or.inr a2)] at hg
      simp (decide := true) [int, notesD, Nt.row, hlt, hlt', en, en', a1, a2, hg]
    rw [if_neg (by omega)] at hg
    have fin : ∀ (X : List (Nat × Sym) → Prop), True := fun _ => trivial
    cases i with
    | zero =>
      rw [if_neg (by simp)] at hg
      by_cases b1 : n.tier < 0
      · rw [if_pos (Or.inl b1)] at hg
        simp (decide := true) [int, notesD, Nt.row, hlt, hlt', en, en', a1, a2, b1, hg]
      by_cases b2 : (d.tiers.length : Int) ≤ n.tier
      · rw [if_pos (Or.inr b2)] at hg
        simp (decide := true) [int, notesD, tiersD, Nt.row, hlt, hlt', en, en', a1, a2, b1, b2, hg]
      rw [if_neg (by omega)] at hg
      simp (decide := true) [int, notesD, tiersD, Nt.row, hlt, hlt', en, en', a1, a2, b1, b2]
      refine ECall.pure (by rfl) (note_ok d n (by omega) (by omega) (by omega)) (by simp (decide := true) [docD, Dc.row, int, notesD, Nt.row]) ?_
      by_cases hz : noteE d n = 0
      · rw [if_pos hz] at hg
        simp (decide := true) [int, hz, I64]
        exact ⟨1, ⟨by omega, by rw [hg, hm']⟩, by omega, by omega⟩
      · rw [if_neg hz] at hg
        simp (decide := true) [int, hz, hg]
    | succ j =>
      have hjl : j < d.notes.length := by omega
      have hjl' : (j : Int) < d.notes.length := by omega
      obtain ⟨pv, ep'⟩ : ∃ pv, d.notes[j] = pv := ⟨_, rfl⟩
      have ep : d.notes[j]? = some pv := by rw [List.getElem?_eq_getElem hjl, ep']
      have j0 : (0 : Int) < (j : Int) + 1 := by omega
      have j1 : (j : Int) + 1 - 1 = j := by omega
      have hq : (j : Int) + 1 < d.notes.length := by omega
      have tn1 : ((j : Int) + 1).toNat = j + 1 := by omega
      simp only [Nat.add_sub_cancel, ep, Option.getD_some] at hg
      by_cases c1 : n.id ≤ pv.id
      · rw [if_pos ⟨by omega, c1⟩] at hg
        simp (decide := true) [int, notesD, Nt.row, hlt, hlt', en, en', a1, a2, hjl, hjl', ep, ep', j0, j1, hq, tn1, c1, hg, I64]
        try omega
      rw [if_neg (by omega)] at hg
      by_cases b1 : n.tier < 0
      · rw [if_pos (Or.inl b1)] at hg
        simp (decide := true) [int, notesD, Nt.row, hlt, hlt', en, en', a1, a2, hjl, hjl', ep, ep', j0, j1, hq, tn1, c1, b1, hg, I64]
        try omega
      by_cases b2 : (d.tiers.length : Int) ≤ n.tier
      · rw [if_pos (Or.inr b2)] at hg
        simp (decide := true) [int, notesD, tiersD, Nt.row, hlt, hlt', en, en', a1, a2, hjl, hjl', ep, ep', j0, j1, hq, tn1, c1, b1, b2, hg, I64]
        try omega
      rw [if_neg (by omega)] at hg
      simp (decide := true) [int, notesD, tiersD, Nt.row, hlt, hlt', en, en', a1, a2, hjl, hjl', ep, ep', j0, j1, hq, tn1, c1, b1, b2, I64]
      repeat (refine And.intro (by omega) ?_)
      refine ECall.pure (by rfl) (note_ok d n (by omega) (by omega) (by omega)) (by simp (decide := true) [docD, Dc.row, int, notesD, Nt.row]) ?_
      by_cases hz : noteE d n = 0
      · rw [if_pos hz] at hg
        simp (decide := true) [int, hz, I64]
        exact ⟨⟨by omega, by omega⟩, j + 1 + 1, ⟨by omega, by rw [hg, hm']⟩, by omega, by omega⟩
      · rw [if_neg hz] at hg
        simp (decide := true) [int, hz, hg]
  · have : i = d.notes.length := by omega
    subst this
    rw [Nat.sub_self] at hg
    rw [hg]
    simp (decide := true) [int, notesGo, tiersD, notesD]
    refine loop_rule mixed (fun i : Nat => { n := 95, next := 1, slots := [(1, .bp 0 0), (4, .d (.mp (mapD (firsts d.notes)))), (83, .d (.int .i64 d.tiers.length)), (84, .d (.int .i64 i))], own := [(0, .box 32 (docCells d))] })
      (fun i => i ≤ d.tiers.length ∧ tierGos d d.tiers.length 0 = tierGos d (d.tiers.length - i) i) (fun i => d.tiers.length - i) 0 (by simp) (by simp (decide := true) [int, notesD, tiersD, ints]) ?_
    rintro i ⟨hi, hg⟩
    by_cases hlt : i < d.tiers.length
    · have hlt' : (i : Int) < d.tiers.length := by omega
      obtain ⟨m, hm⟩ : ∃ m, d.tiers.length - i = m + 1 := ⟨d.tiers.length - i - 1, by omega⟩
      have hm' : d.tiers.length - (i + 1) = m := by omega
      rw [hm] at hg
      simp only [tierGos, if_pos hlt] at hg
      simp (decide := true) [int, hlt']
      refine ECall.pure (by rfl) (hT i hlt) (by simp (decide := true) [docD, Dc.row, int, notesD]) ?_
      by_cases hz : tierE d i = 0
      · rw [if_pos hz] at hg
        simp (decide := true) [int, hz, I64]
        exact ⟨by omega, i + 1, ⟨by omega, by rw [hg, hm']⟩, by omega, by omega⟩
      · rw [if_neg hz] at hg
        simp (decide := true) [int, hz, hg]
    · have : i = d.tiers.length := by omega
      subst this
      rw [Nat.sub_self] at hg
      simp (decide := true) [int, hg, tierGos]
theorem check_ok (d : Dc) (ht : d.tiers.length < 2^30) (hn : d.notes.length < 2^30) : PureR Tryd.prog 17 [docD d] (int (checkE d)) :=
  check0_ok d ht hn fun t h => tier_ok d t h hn
end Go.V
