/- Contracts: Check of decisions, by the program and by the reference; sizes. -/
import Derived.Test.YtmpknkjlhapcmaaGreatE2
set_option linter.unusedSimpArgs false
set_option linter.unusedVariables false
set_option maxRecDepth 10000
namespace Go.V
open Go Go.Proofs

/-- The error of the decision with an index. -/
def checkAt (l : List Dec) (k : Nat) : Option Int := match l[k]? with
  | none => none
  | some d => if isId d.ref.rcd = true then (if isId d.ref.note = true then (if d.pick.length = 0 then some 4 else if d.pick.length > 4 then some 11
      else if (decide (0 < k) && match l[k - 1]? with | some c => !lessD c d | none => false) = true then some 10
      else if (l.take k).any (rivalsD d) = true then some 8 else none) else some 2) else some 2
def checkL (l : List Dec) : Int := ((List.range l.length).findSome? (checkAt l)).getD 0
theorem checkL_hit {l : List Dec} {k : Nat} {e : Int} (h : k < l.length) (hp : ∀ j, j < k → checkAt l j = none) (he : checkAt l k = some e) : checkL l = e := by
  unfold checkL
  have : (List.range l.length).findSome? (checkAt l) = some e := by
    rw [List.findSome?_eq_some_iff]
    refine ⟨List.range k, k, (List.range' (k + 1) (l.length - (k + 1))), ?_, he, fun a ha => hp a (List.mem_range.1 ha)⟩
    obtain ⟨m, hm⟩ : ∃ m, l.length = k + (1 + m) := ⟨l.length - (k + 1), by omega⟩
    have hm' : l.length - (k + 1) = m := by omega
    rw [hm', hm, List.range_eq_range', List.range_eq_range', ← List.range'_append, ← List.range'_append]
    simp
  rw [this]; rfl
theorem checkL_none {l : List Dec} (hp : ∀ j, j < l.length → checkAt l j = none) : checkL l = 0 := by
  unfold checkL
  have : (List.range l.length).findSome? (checkAt l) = none := by
    rw [List.findSome?_eq_none_iff]
    intro a ha; exact hp a (List.mem_range.1 ha)
  rw [this]; rfl
theorem below_succ {p : Nat → Prop} {k : Nat} (h : ∀ j, j < k → p j) (hk : p k) : ∀ j, j < k + 1 → p j := by
  intro j hj
  rcases Nat.lt_or_ge j k with h1 | h1
  · exact h j h1
  · have : j = k := by omega
    subst this; exact hk
def Fits31 (l : List Dec) : Prop := ∀ d ∈ l, d.fit
theorem check_ok (l : List Dec) (hl : l.length < 2^62) (hf : Fits31 l) : PureR Tryz.prog 15 [decsD l] (int (checkL l)) := by
  refine pure_of_body mixed Tryz.func15 rfl call_15 ?_
  simp [Tryz.f15, decsD]
  refine loop_rule mixed (fun k : Nat => { n := 59, next := 0, slots := [(0, .d (decsD l)), (3, .fn 37 []), (6, .d (decsD l)), (7, .d (.int .i64 l.length)), (8, .d (.int .i64 k))], own := [] })
    (fun k => k ≤ l.length ∧ ∀ j, j < k → checkAt l j = none) (fun k => l.length - k) 0 (by simp) (by simp [decsD]) ?_
  intro k ⟨hk, hp⟩
  by_cases hlt : k < l.length
  · have e1 : l[k]? = some l[k] := List.getElem?_eq_getElem hlt
    have hit := fun e => checkL_hit (e := e) hlt hp
    simp only [checkAt, e1] at hit
    have hno : ∀ e, checkAt l k = e → checkAt l k = e := fun _ h => h
    have hfd : l[k].fit := hf _ (List.getElem_mem hlt)
    have hll : ∀ e ∈ l, e.row.length = 4 := fun e _ => rfl
    simp (decide := true) [decsD, Dec.row, int, e1, hlt, I64]
    refine ECall.pure (by rfl) (identifier_ok l[k].ref.rcd) (by simp) ?_
    cases h1 : isId l[k].ref.rcd
    · simp (decide := true) [int, hit 2 (by simp [h1])]
    simp (decide := true) [int]
    refine ECall.pure (by rfl) (identifier_ok l[k].ref.note) (by simp) ?_
    cases h2 : isId l[k].ref.note
    · simp (decide := true) [int, hit 2 (by simp [h1, h2])]
    simp (decide := true) [int, partsD]
    by_cases h3 : l[k].pick = []
    · simp (decide := true) [h3, hit 4 (by simp [h1, h2, h3])]
    simp (decide := true) [h3]
    by_cases h4 : l[k].pick.length > 4
    · have h4i : (4 : Int) < (l[k].pick.length : Int) := by omega
      have h4j : ¬ (l[k].pick.length : Int) ≤ 4 := by omega
      simp (decide := true) [h4i, h4j, hit 11 (by simp [h1, h2, h3, h4])]
    have h4i : ¬ (4 : Int) < (l[k].pick.length : Int) := by omega
    have h4j : (l[k].pick.length : Int) ≤ 4 := by omega
    simp (decide := true) [h4i, h4j]
    rcases k with _ | j
    · simp (decide := true) []
      refine ⟨fun _ _ => rfl, scall_pure (by rfl) (by rfl) (meets_ok [] (by simp) l[0]) (by simp) ?_⟩
      simp (decide := true) [I64, decsD, int]
      refine ⟨1, ⟨hlt, below_succ hp ?_⟩, by omega, by omega⟩
      simp [checkAt, e1, h1, h2, h3, h4]
    · have hj : j < l.length := by omega
      have e0 : l[j]? = some l[j] := List.getElem?_eq_getElem hj
      have hjf : l[j].fit := hf _ (List.getElem_mem hj)
      have q1 : ((j : Int) + 1 - 1) = j := by omega
      have q2 : (j : Int) < l.length := by omega
      simp (decide := true) [e0, I64, q1, q2, Dec.row]
      refine ⟨by omega, by omega, scall_pure (by rfl) (by rfl) (compareD_ok l[j] l[j + 1] hjf hfd) (by simp) ?_⟩
      have hneg := cmpD_neg l[j] l[j + 1]
      have q3 : (l.map Dec.row).take (j + 1) = (l.take (j + 1)).map Dec.row := by rw [List.map_take]
      cases h5 : lessD l[j] l[j + 1]
      · rw [h5] at hneg
        have q4 : (0 : Int) ≤ cmpD l[j] l[j + 1] := by simp at hneg; omega
        simp (decide := true) [int, q4, hit 10 (by simp [h1, h2, h3, h4, e0, h5])]
      · rw [h5] at hneg
        have q4 : ¬ (0 : Int) ≤ cmpD l[j] l[j + 1] := by simp at hneg; omega
        simp (decide := true) [int, q4]
        simp only [q3]
        refine ⟨⟨by omega, by omega⟩, fun _ _ => rfl, scall_pure (by rfl) (by rfl) (meets_ok (l.take (j + 1)) (by simp; omega) l[j + 1]) (by simp) ?_⟩
        cases h6 : (l.take (j + 1)).any (rivalsD l[j + 1])
        · simp (decide := true) [int, I64, decsD]
          refine ⟨by omega, j + 1 + 1, ⟨hlt, below_succ hp ?_⟩, by omega, by omega⟩
          simp [checkAt, e1, e0, h1, h2, h3, h4, h5, h6]
        · simp (decide := true) [int, hit 8 (by simp [h1, h2, h3, h4, e0, h5, h6])]
  · have : k = l.length := by omega
    subst this
    simp (decide := true) [decsD, int]
    rw [checkL_none (by simpa using hp)]
theorem refCheck_ok (l : List Dec) (hl : l.length < 2^62) (hf : Fits31 l) : PureR Tryz.prog 16 [decsD l] (int (checkL l)) := by
  refine pure_of_body mixed Tryz.func16 rfl call_16 ?_
  simp [Tryz.f16, decsD]
  refine loop_rule mixed (fun k : Nat => { n := 74, next := 0, slots := [(0, .d (decsD l)), (6, .d (decsD l)), (7, .d (.int .i64 l.length)), (8, .d (.int .i64 k))], own := [] })
    (fun k => k ≤ l.length ∧ ∀ j, j < k → checkAt l j = none) (fun k => l.length - k) 0 (by simp) (by simp [decsD]) ?_
  intro k ⟨hk, hp⟩
  by_cases hlt : k < l.length
  · have e1 : l[k]? = some l[k] := List.getElem?_eq_getElem hlt
    have hit := fun e => checkL_hit (e := e) hlt hp
    simp only [checkAt, e1] at hit
    have hfd : l[k].fit := hf _ (List.getElem_mem hlt)
    have hll : ∀ e ∈ l, e.row.length = 4 := fun e _ => rfl
    simp (decide := true) [decsD, Dec.row, int, e1, hlt, I64]
    refine ECall.pure (by rfl) (refIdentifier_ok l[k].ref.rcd) (by simp) ?_
    cases h1 : isId l[k].ref.rcd
    · simp (decide := true) [int, hit 2 (by simp [h1])]
    simp (decide := true) [int]
    refine ECall.pure (by rfl) (refIdentifier_ok l[k].ref.note) (by simp) ?_
    cases h2 : isId l[k].ref.note
    · simp (decide := true) [int, hit 2 (by simp [h1, h2])]
    simp (decide := true) [int, partsD]
    by_cases h3 : l[k].pick = []
    · simp (decide := true) [h3, hit 4 (by simp [h1, h2, h3])]
    simp (decide := true) [h3]
    by_cases h4 : l[k].pick.length > 4
    · have h4i : (4 : Int) < (l[k].pick.length : Int) := by omega
      have h4j : ¬ (l[k].pick.length : Int) ≤ 4 := by omega
      simp (decide := true) [h4i, h4j, hit 11 (by simp [h1, h2, h3, h4])]
    have h4i : ¬ (4 : Int) < (l[k].pick.length : Int) := by omega
    have h4j : (l[k].pick.length : Int) ≤ 4 := by omega
    simp (decide := true) [h4i, h4j]
    by_cases hk0 : 0 < k
    · have hj : k - 1 < l.length := by omega
      have e0 : l[k - 1]? = some l[k - 1] := List.getElem?_eq_getElem hj
      have hjf : l[k - 1].fit := hf _ (List.getElem_mem hj)
      have hk1 : ¬ k = 0 := by omega
      simp (decide := true) [e0, I64, Dec.row, hk0, hk1]
      refine ⟨by omega, by omega, scall_pure (by rfl) (by rfl) (less31_ok l[k - 1] l[k] hjf hfd) (by simp) ?_⟩
      cases h5 : lessD l[k - 1] l[k]
      · simp (decide := true) [int, hit 10 (by simp [h1, h2, h3, h4, e0, h5, hk0])]
      simp (decide := true) [int]
      have hpre : (decide (0 < k) && match l[k - 1]? with | some c => !lessD c l[k] | none => false) = false := by simp [e0, h5]
      refine loop_rule mixed (fun m : Nat => { n := 74, next := 1, slots := [(0, .d (decsD l)), (3, .d (.int .i64 k)), (4, .bp 0 0), (5, .d (.int .i64 m)), (6, .d (decsD l)), (7, .d (.int .i64 l.length)), (8, .d (.int .i64 k))], own := [(0, .box 33 [.d (int l[k].ref.rcd), .d (int l[k].ref.note), .d (.bool l[k].yes), .d (partsD l[k].pick)])] })
        (fun m => m ≤ k ∧ ∀ e ∈ l.take m, rivalsD l[k] e = false) (fun m => k - m) 0 (by simp) (by simp [decsD, int, partsD]) ?_
      intro m ⟨hm, hq⟩
      by_cases hmk : m < k
      · have hml : m < l.length := by omega
        have e2 : l[m]? = some l[m] := List.getElem?_eq_getElem hml
        have hany : rivalsD l[k] l[m] = true → checkAt l k = some 8 := by
          intro h
          have : (l.take k).any (rivalsD l[k]) = true := List.any_eq_true.2 ⟨l[m], by rw [List.mem_take_iff_getElem]; exact ⟨m, by omega, rfl⟩, h⟩
          simp [checkAt, e1, h1, h2, h3, h4, hpre, this]
        have hgo : rivalsD l[k] l[m] = false → ∀ e ∈ l.take (m + 1), rivalsD l[k] e = false := fun h => take_all hml hq h
        cases y1 : l[k].yes
        · simp (decide := true) [e2, hmk, hml, Dec.row, int, I64, decsD, partsD, y1]
          exact ⟨by omega, m + 1, ⟨hmk, hgo (by simp [rivalsD, y1])⟩, by omega, by omega⟩
        · cases y2 : l[m].yes
          · simp (decide := true) [e2, hmk, hml, Dec.row, int, I64, decsD, partsD, y1, y2]
            exact ⟨by omega, m + 1, ⟨hmk, hgo (by simp [rivalsD, y2])⟩, by omega, by omega⟩
          · simp (decide := true) [e2, hmk, hml, Dec.row, int, I64, decsD, partsD, y1, y2]
            refine ⟨fun g1 g2 => (checkL_hit hlt hp (hany (by simp [rivalsD, y1, y2, rf_eq, g1, g2]))).symm, fun g => ⟨by omega, m + 1, ⟨hmk, hgo ?_⟩, by omega, by omega⟩⟩
            simp [rivalsD, y1, y2, rf_eq]
            exact fun e3 e4 => g e3.symm e4.symm
      · have : m = k := by omega
        subst this
        have hno : (l.take m).any (rivalsD l[m]) = false := by rw [List.any_eq_false]; intro x hx; rw [hq x hx]; simp
        simp (decide := true) [int, I64, decsD, partsD]
        refine ⟨by omega, m + 1, ⟨hlt, below_succ hp ?_⟩, by omega, by omega⟩
        simp [checkAt, e1, h1, h2, h3, h4, hpre, hno]
    · have hk1 : k = 0 := by omega
      simp (decide := true) [hk0, hk1]
      have hpre : (decide (0 < k) && match l[k - 1]? with | some c => !lessD c l[k] | none => false) = false := by simp [hk0]
      refine loop_rule mixed (fun m : Nat => { n := 74, next := 1, slots := [(0, .d (decsD l)), (3, .d (.int .i64 k)), (4, .bp 0 0), (5, .d (.int .i64 m)), (6, .d (decsD l)), (7, .d (.int .i64 l.length)), (8, .d (.int .i64 k))], own := [(0, .box 33 [.d (int l[k].ref.rcd), .d (int l[k].ref.note), .d (.bool l[k].yes), .d (partsD l[k].pick)])] })
        (fun m => m ≤ k ∧ ∀ e ∈ l.take m, rivalsD l[k] e = false) (fun m => k - m) 0 (by simp) (by simp [decsD, int, partsD, hk1]) ?_
      intro m ⟨hm, hq⟩
      by_cases hmk : m < k
      · have hml : m < l.length := by omega
        have e2 : l[m]? = some l[m] := List.getElem?_eq_getElem hml
        have hany : rivalsD l[k] l[m] = true → checkAt l k = some 8 := by
          intro h
          have : (l.take k).any (rivalsD l[k]) = true := List.any_eq_true.2 ⟨l[m], by rw [List.mem_take_iff_getElem]; exact ⟨m, by omega, rfl⟩, h⟩
          simp [checkAt, e1, h1, h2, h3, h4, hpre, this]
        have hgo : rivalsD l[k] l[m] = false → ∀ e ∈ l.take (m + 1), rivalsD l[k] e = false := fun h => take_all hml hq h
        cases y1 : l[k].yes
        · simp (decide := true) [e2, hmk, hml, Dec.row, int, I64, decsD, partsD, y1]
          exact ⟨by omega, m + 1, ⟨hmk, hgo (by simp [rivalsD, y1])⟩, by omega, by omega⟩
        · cases y2 : l[m].yes
          · simp (decide := true) [e2, hmk, hml, Dec.row, int, I64, decsD, partsD, y1, y2]
            exact ⟨by omega, m + 1, ⟨hmk, hgo (by simp [rivalsD, y2])⟩, by omega, by omega⟩
          · simp (decide := true) [e2, hmk, hml, Dec.row, int, I64, decsD, partsD, y1, y2]
            refine ⟨fun g1 g2 => (checkL_hit hlt hp (hany (by simp [rivalsD, y1, y2, rf_eq, g1, g2]))).symm, fun g => ⟨by omega, m + 1, ⟨hmk, hgo ?_⟩, by omega, by omega⟩⟩
            simp [rivalsD, y1, y2, rf_eq]
            exact fun e3 e4 => g e3.symm e4.symm
      · have : m = k := by omega
        subst this
        have hno : (l.take m).any (rivalsD l[m]) = false := by rw [List.any_eq_false]; intro x hx; rw [hq x hx]; simp
        simp (decide := true) [int, I64, decsD, partsD]
        refine ⟨by omega, m + 1, ⟨hlt, below_succ hp ?_⟩, by omega, by omega⟩
        simp [checkAt, e1, h1, h2, h3, h4, hpre, hno]
  · have : k = l.length := by omega
    subst this
    simp (decide := true) [decsD, int]
    rw [checkL_none (by simpa using hp)]
end Go.V
