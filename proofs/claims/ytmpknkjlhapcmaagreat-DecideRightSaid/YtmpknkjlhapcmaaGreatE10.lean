/- Contracts: a decision put among others, by the program and by the reference. -/
import Derived.Test.YtmpknkjlhapcmaaGreatE9
set_option linter.unusedSimpArgs false
set_option linter.unusedVariables false
set_option maxRecDepth 10000
namespace Go.V
open Go Go.Proofs

/-- The decision is left out where another one is put. -/
def goneD (d x : Dec) : Bool := decide (cmpD x d = 0) || rivalsD d x
def putStep (d : Dec) (s : List Dec × Nat) (x : Dec) : List Dec × Nat := if goneD d x = true then s else (s.1 ++ [x], if cmpD x d < 0 then (s.1 ++ [x]).length else s.2)
def putS (d : Dec) (l : List Dec) : List Dec × Nat := l.foldl (putStep d) ([], 0)
theorem putS_snoc {d : Dec} {l : List Dec} {k : Nat} (h : k < l.length) : putS d (l.take (k + 1)) = putStep d (putS d (l.take k)) l[k] := by
  unfold putS; rw [take_snoc h, List.foldl_append]; rfl
theorem putStep_len (d : Dec) (s : List Dec × Nat) (x : Dec) (h : s.2 ≤ s.1.length) : (putStep d s x).1.length ≤ s.1.length + 1 ∧ (putStep d s x).2 ≤ (putStep d s x).1.length := by
  unfold putStep
  split
  · exact ⟨by omega, h⟩
  · simp only [List.length_append, List.length_cons, List.length_nil]
    refine ⟨by omega, ?_⟩
    split <;> omega
theorem putS_len (d : Dec) (l : List Dec) : (putS d l).1.length ≤ l.length ∧ (putS d l).2 ≤ (putS d l).1.length := by
  have key : ∀ (l : List Dec) (s : List Dec × Nat), s.2 ≤ s.1.length → (l.foldl (putStep d) s).1.length ≤ s.1.length + l.length ∧ (l.foldl (putStep d) s).2 ≤ (l.foldl (putStep d) s).1.length := by
    intro l
    induction l with
    | nil => intro s h; exact ⟨by simp, h⟩
    | cons x r ih =>
      intro s h
      have h1 := putStep_len d s x h
      have h2 := ih (putStep d s x) h1.2
      simp only [List.foldl_cons, List.length_cons]
      exact ⟨by omega, h2.2⟩
  have := key l ([], 0) (by simp)
  unfold putS
  simpa using this
def putP (l : List Dec) (d : Dec) : List Dec := if checkL [d] = 0 then insertL (putS d l).1 (putS d l).2 d else l
theorem fits1 {d : Dec} (h : d.fit) : Fits31 [d] := fun x hx => by simp at hx; rw [hx]; exact h
theorem put_ok (l : List Dec) (d : Dec) (hl : l.length < 2^39) (hf : Fits31 l) (hd : d.fit) : PureR Tryz.prog 19 [decsD l, .agg d.row] (decsD (putP l d)) := by
  refine pure_of_body mixed Tryz.func19 rfl call_19 ?_
  simp [Tryz.f19, decsD, Dec.row, int]
  refine ECall.pure (by rfl) (check_ok [d] (by simp) (fits1 hd)) (fun _ => rfl) ?_
  by_cases hc : checkL [d] = 0
  · simp (decide := true) [hc, int]
    refine loop_rule mixed (fun k : Nat => { n := 45, next := 4, slots := [(3, .bp 0 0), (5, .ar 3), (6, .d (.int .i64 (putS d (l.take k)).2)), (15, .d (decsD l)), (16, .d (.int .i64 l.length)), (17, .d (.int .i64 k))], own := [(0, .box 33 [.d (int d.ref.rcd), .d (int d.ref.note), .d (.bool d.yes), .d (partsD d.pick)]), (3, .arr 33 4 ((putS d (l.take k)).1.map Dec.row))], moved := [3] })
      (fun k => k ≤ l.length) (fun k => l.length - k) 0 (by simp) (by simp [decsD, int, putS]) ?_
    intro k hk
    have hpl := putS_len d (l.take k)
    have htl : (l.take k).length ≤ l.length := by simp; omega
    by_cases hlt : k < l.length
    · have e1 : l[k]? = some l[k] := List.getElem?_eq_getElem hlt
      have hs := putS_snoc (d := d) hlt
      simp (decide := true) [decsD, Dec.row, int, e1, hlt, I64]
      refine ECall.pure (by rfl) (compareD_ok l[k] d (hf _ (List.getElem_mem hlt)) hd) (by simp) ?_
      by_cases g1 : cmpD l[k] d = 0
      · have hg : goneD d l[k] = true := by simp [goneD, g1]
        unfold putStep at hs
        rw [if_pos hg] at hs
        simp (decide := true) [int, g1, I64]
        exact ⟨by omega, k + 1, hlt, by omega, ⟨by rw [hs], by omega⟩, by rw [hs]⟩
      · simp (decide := true) [int, g1, I64, decsD, Dec.row, partsD]
        refine ECall.pure (by rfl) (rivals_ok d l[k]) (by simp) ?_
        cases g2 : rivalsD d l[k]
        · have hg : ¬ goneD d l[k] = true := by simp [goneD, g1, g2]
          unfold putStep at hs
          rw [if_neg hg] at hs
          by_cases g3 : cmpD l[k] d < 0
          · rw [if_pos g3] at hs
            simp (decide := true) [int, g1, g2, g3, I64, decsD, Dec.row, maxLen]
            exact ⟨by omega, by omega, by omega, k + 1, hlt, by omega, ⟨by rw [hs]; simp, by omega⟩, by rw [hs]; simp [Dec.row, int, partsD]⟩
          · rw [if_neg g3] at hs
            simp (decide := true) [int, g1, g2, g3, I64, decsD, Dec.row, maxLen]
            exact ⟨by omega, by omega, by omega, k + 1, hlt, by omega, ⟨by rw [hs], by omega⟩, by rw [hs]; simp [Dec.row, int, partsD]⟩
        · have hg : goneD d l[k] = true := by simp [goneD, g2]
          unfold putStep at hs
          rw [if_pos hg] at hs
          simp (decide := true) [int, g1, g2, I64]
          exact ⟨by omega, k + 1, hlt, by omega, ⟨by rw [hs], by omega⟩, by rw [hs]⟩
    · have : k = l.length := by omega
      subst this
      rw [List.take_length] at hpl
      simp (decide := true) [decsD, int]
      refine ECall.mut [3, 4] [.ar 0, .d (int (putS d l).2), .ar 1] [(0, .arr 33 4 ((putS d l).1.map Dec.row)), (1, .arr 33 4 [d.row])] (by rfl) (by simp [int]) (by simp) (by simp [int, Dec.row]; rfl) (insertD_ok (putS d l).1 d (putS d l).2 hpl.2 (by omega)) ?_
      simp [putP, hc]
  · simp (decide := true) [hc, int, decsD, putP]
/-- The reference's way: the decision is put ahead of the first one that it precedes. -/
def rgoneD (d x : Dec) : Bool := (decide (x.ref = d.ref) && decide (x.pick = d.pick)) || (d.yes && (x.yes && decide (x.ref = d.ref)))
def rputStep (d : Dec) (s : List Dec × Bool) (x : Dec) : List Dec × Bool :=
  (s.1 ++ (if !s.2 && lessD d x then [d] else []) ++ (if rgoneD d x then [] else [x]), s.2 || lessD d x)
def rputS (d : Dec) (l : List Dec) : List Dec × Bool := l.foldl (rputStep d) ([], false)
theorem rputS_snoc {d : Dec} {l : List Dec} {k : Nat} (h : k < l.length) : rputS d (l.take (k + 1)) = rputStep d (rputS d (l.take k)) l[k] := by
  unfold rputS; rw [take_snoc h, List.foldl_append]; rfl
theorem rputS_len (d : Dec) (l : List Dec) : (rputS d l).1.length ≤ 2 * l.length := by
  have key : ∀ (l : List Dec) (s : List Dec × Bool), (l.foldl (rputStep d) s).1.length ≤ s.1.length + 2 * l.length := by
    intro l
    induction l with
    | nil => intro s; simp
    | cons x r ih =>
      intro s
      have h1 : (rputStep d s x).1.length ≤ s.1.length + 2 := by
        unfold rputStep
        simp only [List.length_append]
        split <;> split <;> simp <;> omega
      have h2 := ih (rputStep d s x)
      simp only [List.foldl_cons, List.length_cons]
      omega
  have := key l ([], false)
  unfold rputS
  simpa using this
def putR (l : List Dec) (d : Dec) : List Dec := if checkL [d] = 0 then (if (rputS d l).2 = true then (rputS d l).1 else (rputS d l).1 ++ [d]) else l
set_option maxHeartbeats 4000000 in
theorem refPut_ok (l : List Dec) (d : Dec) (hl : l.length < 2^38) (hf : Fits31 l) (hd : d.fit) : PureR Tryz.prog 20 [decsD l, .agg d.row] (decsD (putR l d)) := by
  refine pure_of_body mixed Tryz.func20 rfl call_20 ?_
  simp [Tryz.f20, decsD, Dec.row, int]
  refine ECall.pure (by rfl) (refCheck_ok [d] (by simp) (fits1 hd)) (fun _ => rfl) ?_
  by_cases hc : checkL [d] = 0
  · simp (decide := true) [hc, int]
    refine loop_rule mixed (fun k : Nat => { n := 90, next := 4, slots := [(0, .d (decsD l)), (3, .bp 0 0), (5, .ar 3), (6, .d (.bool (rputS d (l.take k)).2)), (14, .d (decsD l)), (15, .d (.int .i64 l.length)), (16, .d (.int .i64 k))], own := [(0, .box 33 [.d (int d.ref.rcd), .d (int d.ref.note), .d (.bool d.yes), .d (partsD d.pick)]), (3, .arr 33 4 ((rputS d (l.take k)).1.map Dec.row))], moved := [3] })
      (fun k => k ≤ l.length) (fun k => l.length - k) 0 (by simp) (by simp [decsD, int, rputS]) ?_
    intro k hk
    have hpl := rputS_len d (l.take k)
    have htl : (l.take k).length ≤ l.length := by simp; omega
    by_cases hlt : k < l.length
    · have e1 : l[k]? = some l[k] := List.getElem?_eq_getElem hlt
      have hs := rputS_snoc (d := d) hlt
      have hfk := hf _ (List.getElem_mem hlt)
      obtain ⟨st, hst⟩ : ∃ st, rputS d (l.take k) = st := ⟨_, rfl⟩
      rw [hst] at hs hpl ⊢
      obtain ⟨out, inn⟩ := st
      simp only [rputStep] at hs hpl
      cases hin : inn
      · simp (decide := true) [decsD, Dec.row, int, e1, hlt, I64]
        refine scall_pure (by rfl) (by rfl) (less31_ok d l[k] hd hfk) (by simp) ?_
        cases hless : lessD d l[k]
        · by_cases q1 : l[k].ref.rcd = d.ref.rcd
          · by_cases q2 : l[k].ref.note = d.ref.note
            · simp (decide := true) [int, decsD, Dec.row, e1, hlt, I64, partsD, maxLen, q1, q2]
              refine scall_pure (by rfl) (by rfl) (same29_ok l[k].pick d.pick hfk hd) (by simp) ?_
              by_cases q3 : l[k].pick = d.pick
              · simp (decide := true) [int, decsD, Dec.row, e1, hlt, I64, partsD, maxLen, q1, q2, q3]
                exact ⟨by omega, k + 1, hlt, by omega, ⟨by rw [hs]; simp [rgoneD, rf_eq, Dec.row, int, partsD, hin, hless, q1, q2, q3], by omega⟩, by rw [hs]; simp [rgoneD, rf_eq, Dec.row, int, partsD, hin, hless, q1, q2, q3]⟩
              · cases y1 : d.yes
                · simp (decide := true) [int, decsD, Dec.row, e1, hlt, I64, partsD, maxLen, q1, q2, q3, y1]
                  exact ⟨by omega, by omega, by omega, k + 1, hlt, by omega, ⟨by rw [hs]; simp [rgoneD, rf_eq, Dec.row, int, partsD, hin, hless, q1, q2, q3, y1], by omega⟩, by rw [hs]; simp [rgoneD, rf_eq, Dec.row, int, partsD, hin, hless, q1, q2, q3, y1]⟩
                · cases y2 : l[k].yes
                  · simp (decide := true) [int, decsD, Dec.row, e1, hlt, I64, partsD, maxLen, q1, q2, q3, y1, y2]
                    exact ⟨by omega, by omega, by omega, k + 1, hlt, by omega, ⟨by rw [hs]; simp [rgoneD, rf_eq, Dec.row, int, partsD, hin, hless, q1, q2, q3, y1, y2], by omega⟩, by rw [hs]; simp [rgoneD, rf_eq, Dec.row, int, partsD, hin, hless, q1, q2, q3, y1, y2]⟩
                  · simp (decide := true) [int, decsD, Dec.row, e1, hlt, I64, partsD, maxLen, q1, q2, q3, y1, y2]
                    exact ⟨by omega, k + 1, hlt, by omega, ⟨by rw [hs]; simp [rgoneD, rf_eq, Dec.row, int, partsD, hin, hless, q1, q2, q3, y1, y2], by omega⟩, by rw [hs]; simp [rgoneD, rf_eq, Dec.row, int, partsD, hin, hless, q1, q2, q3, y1, y2]⟩
            · cases y1 : d.yes
              · simp (decide := true) [int, decsD, Dec.row, e1, hlt, I64, partsD, maxLen, q1, q2, y1]
                exact ⟨by omega, by omega, by omega, k + 1, hlt, by omega, ⟨by rw [hs]; simp [rgoneD, rf_eq, Dec.row, int, partsD, hin, hless, q1, q2, y1], by omega⟩, by rw [hs]; simp [rgoneD, rf_eq, Dec.row, int, partsD, hin, hless, q1, q2, y1]⟩
              · cases y2 : l[k].yes
                · simp (decide := true) [int, decsD, Dec.row, e1, hlt, I64, partsD, maxLen, q1, q2, y1, y2]
                  exact ⟨by omega, by omega, by omega, k + 1, hlt, by omega, ⟨by rw [hs]; simp [rgoneD, rf_eq, Dec.row, int, partsD, hin, hless, q1, q2, y1, y2], by omega⟩, by rw [hs]; simp [rgoneD, rf_eq, Dec.row, int, partsD, hin, hless, q1, q2, y1, y2]⟩
                · simp (decide := true) [int, decsD, Dec.row, e1, hlt, I64, partsD, maxLen, q1, q2, y1, y2]
                  exact ⟨by omega, by omega, by omega, k + 1, hlt, by omega, ⟨by rw [hs]; simp [rgoneD, rf_eq, Dec.row, int, partsD, hin, hless, q1, q2, y1, y2], by omega⟩, by rw [hs]; simp [rgoneD, rf_eq, Dec.row, int, partsD, hin, hless, q1, q2, y1, y2]⟩
          · cases y1 : d.yes
            · simp (decide := true) [int, decsD, Dec.row, e1, hlt, I64, partsD, maxLen, q1, y1]
              exact ⟨by omega, by omega, by omega, k + 1, hlt, by omega, ⟨by rw [hs]; simp [rgoneD, rf_eq, Dec.row, int, partsD, hin, hless, q1, y1], by omega⟩, by rw [hs]; simp [rgoneD, rf_eq, Dec.row, int, partsD, hin, hless, q1, y1]⟩
            · cases y2 : l[k].yes
              · simp (decide := true) [int, decsD, Dec.row, e1, hlt, I64, partsD, maxLen, q1, y1, y2]
                exact ⟨by omega, by omega, by omega, k + 1, hlt, by omega, ⟨by rw [hs]; simp [rgoneD, rf_eq, Dec.row, int, partsD, hin, hless, q1, y1, y2], by omega⟩, by rw [hs]; simp [rgoneD, rf_eq, Dec.row, int, partsD, hin, hless, q1, y1, y2]⟩
              · simp (decide := true) [int, decsD, Dec.row, e1, hlt, I64, partsD, maxLen, q1, y1, y2]
                exact ⟨by omega, by omega, by omega, k + 1, hlt, by omega, ⟨by rw [hs]; simp [rgoneD, rf_eq, Dec.row, int, partsD, hin, hless, q1, y1, y2], by omega⟩, by rw [hs]; simp [rgoneD, rf_eq, Dec.row, int, partsD, hin, hless, q1, y1, y2]⟩
        · by_cases q1 : l[k].ref.rcd = d.ref.rcd
          · by_cases q2 : l[k].ref.note = d.ref.note
            · simp (decide := true) [int, decsD, Dec.row, e1, hlt, I64, partsD, maxLen, q1, q2]
              refine ⟨by omega, by omega, ?_⟩
              refine scall_pure (by rfl) (by rfl) (same29_ok l[k].pick d.pick hfk hd) (by simp) ?_
              by_cases q3 : l[k].pick = d.pick
              · simp (decide := true) [int, decsD, Dec.row, e1, hlt, I64, partsD, maxLen, q1, q2, q3]
                exact ⟨by omega, k + 1, hlt, by omega, ⟨by rw [hs]; simp [rgoneD, rf_eq, Dec.row, int, partsD, hin, hless, q1, q2, q3], by omega⟩, by rw [hs]; simp [rgoneD, rf_eq, Dec.row, int, partsD, hin, hless, q1, q2, q3]⟩
              · cases y1 : d.yes
                · simp (decide := true) [int, decsD, Dec.row, e1, hlt, I64, partsD, maxLen, q1, q2, q3, y1]
                  exact ⟨by omega, by omega, by omega, k + 1, hlt, by omega, ⟨by rw [hs]; simp [rgoneD, rf_eq, Dec.row, int, partsD, hin, hless, q1, q2, q3, y1], by omega⟩, by rw [hs]; simp [rgoneD, rf_eq, Dec.row, int, partsD, hin, hless, q1, q2, q3, y1]⟩
                · cases y2 : l[k].yes
                  · simp (decide := true) [int, decsD, Dec.row, e1, hlt, I64, partsD, maxLen, q1, q2, q3, y1, y2]
                    exact ⟨by omega, by omega, by omega, k + 1, hlt, by omega, ⟨by rw [hs]; simp [rgoneD, rf_eq, Dec.row, int, partsD, hin, hless, q1, q2, q3, y1, y2], by omega⟩, by rw [hs]; simp [rgoneD, rf_eq, Dec.row, int, partsD, hin, hless, q1, q2, q3, y1, y2]⟩
                  · simp (decide := true) [int, decsD, Dec.row, e1, hlt, I64, partsD, maxLen, q1, q2, q3, y1, y2]
                    exact ⟨by omega, k + 1, hlt, by omega, ⟨by rw [hs]; simp [rgoneD, rf_eq, Dec.row, int, partsD, hin, hless, q1, q2, q3, y1, y2], by omega⟩, by rw [hs]; simp [rgoneD, rf_eq, Dec.row, int, partsD, hin, hless, q1, q2, q3, y1, y2]⟩
            · cases y1 : d.yes
              · simp (decide := true) [int, decsD, Dec.row, e1, hlt, I64, partsD, maxLen, q1, q2, y1]
                exact ⟨by omega, by omega, by omega, by omega, by omega, k + 1, hlt, by omega, ⟨by rw [hs]; simp [rgoneD, rf_eq, Dec.row, int, partsD, hin, hless, q1, q2, y1], by omega⟩, by rw [hs]; simp [rgoneD, rf_eq, Dec.row, int, partsD, hin, hless, q1, q2, y1]⟩
              · cases y2 : l[k].yes
                · simp (decide := true) [int, decsD, Dec.row, e1, hlt, I64, partsD, maxLen, q1, q2, y1, y2]
                  exact ⟨by omega, by omega, by omega, by omega, by omega, k + 1, hlt, by omega, ⟨by rw [hs]; simp [rgoneD, rf_eq, Dec.row, int, partsD, hin, hless, q1, q2, y1, y2], by omega⟩, by rw [hs]; simp [rgoneD, rf_eq, Dec.row, int, partsD, hin, hless, q1, q2, y1, y2]⟩
                · simp (decide := true) [int, decsD, Dec.row, e1, hlt, I64, partsD, maxLen, q1, q2, y1, y2]
                  exact ⟨by omega, by omega, by omega, by omega, by omega, k + 1, hlt, by omega, ⟨by rw [hs]; simp [rgoneD, rf_eq, Dec.row, int, partsD, hin, hless, q1, q2, y1, y2], by omega⟩, by rw [hs]; simp [rgoneD, rf_eq, Dec.row, int, partsD, hin, hless, q1, q2, y1, y2]⟩
          · cases y1 : d.yes
            · simp (decide := true) [int, decsD, Dec.row, e1, hlt, I64, partsD, maxLen, q1, y1]
              exact ⟨by omega, by omega, by omega, by omega, by omega, k + 1, hlt, by omega, ⟨by rw [hs]; simp [rgoneD, rf_eq, Dec.row, int, partsD, hin, hless, q1, y1], by omega⟩, by rw [hs]; simp [rgoneD, rf_eq, Dec.row, int, partsD, hin, hless, q1, y1]⟩
            · cases y2 : l[k].yes
              · simp (decide := true) [int, decsD, Dec.row, e1, hlt, I64, partsD, maxLen, q1, y1, y2]
                exact ⟨by omega, by omega, by omega, by omega, by omega, k + 1, hlt, by omega, ⟨by rw [hs]; simp [rgoneD, rf_eq, Dec.row, int, partsD, hin, hless, q1, y1, y2], by omega⟩, by rw [hs]; simp [rgoneD, rf_eq, Dec.row, int, partsD, hin, hless, q1, y1, y2]⟩
              · simp (decide := true) [int, decsD, Dec.row, e1, hlt, I64, partsD, maxLen, q1, y1, y2]
                exact ⟨by omega, by omega, by omega, by omega, by omega, k + 1, hlt, by omega, ⟨by rw [hs]; simp [rgoneD, rf_eq, Dec.row, int, partsD, hin, hless, q1, y1, y2], by omega⟩, by rw [hs]; simp [rgoneD, rf_eq, Dec.row, int, partsD, hin, hless, q1, y1, y2]⟩
      · by_cases q1 : l[k].ref.rcd = d.ref.rcd
        · by_cases q2 : l[k].ref.note = d.ref.note
          · simp (decide := true) [int, decsD, Dec.row, e1, hlt, I64, partsD, maxLen, q1, q2]
            refine scall_pure (by rfl) (by rfl) (same29_ok l[k].pick d.pick hfk hd) (by simp) ?_
            by_cases q3 : l[k].pick = d.pick
            · simp (decide := true) [int, decsD, Dec.row, e1, hlt, I64, partsD, maxLen, q1, q2, q3]
              exact ⟨by omega, k + 1, hlt, by omega, ⟨by rw [hs]; simp [rgoneD, rf_eq, Dec.row, int, partsD, hin, q1, q2, q3], by omega⟩, by rw [hs]; simp [rgoneD, rf_eq, Dec.row, int, partsD, hin, q1, q2, q3]⟩
            · cases y1 : d.yes
              · simp (decide := true) [int, decsD, Dec.row, e1, hlt, I64, partsD, maxLen, q1, q2, q3, y1]
                exact ⟨by omega, by omega, by omega, k + 1, hlt, by omega, ⟨by rw [hs]; simp [rgoneD, rf_eq, Dec.row, int, partsD, hin, q1, q2, q3, y1], by omega⟩, by rw [hs]; simp [rgoneD, rf_eq, Dec.row, int, partsD, hin, q1, q2, q3, y1]⟩
              · cases y2 : l[k].yes
                · simp (decide := true) [int, decsD, Dec.row, e1, hlt, I64, partsD, maxLen, q1, q2, q3, y1, y2]
                  exact ⟨by omega, by omega, by omega, k + 1, hlt, by omega, ⟨by rw [hs]; simp [rgoneD, rf_eq, Dec.row, int, partsD, hin, q1, q2, q3, y1, y2], by omega⟩, by rw [hs]; simp [rgoneD, rf_eq, Dec.row, int, partsD, hin, q1, q2, q3, y1, y2]⟩
                · simp (decide := true) [int, decsD, Dec.row, e1, hlt, I64, partsD, maxLen, q1, q2, q3, y1, y2]
                  exact ⟨by omega, k + 1, hlt, by omega, ⟨by rw [hs]; simp [rgoneD, rf_eq, Dec.row, int, partsD, hin, q1, q2, q3, y1, y2], by omega⟩, by rw [hs]; simp [rgoneD, rf_eq, Dec.row, int, partsD, hin, q1, q2, q3, y1, y2]⟩
          · cases y1 : d.yes
            · simp (decide := true) [int, decsD, Dec.row, e1, hlt, I64, partsD, maxLen, q1, q2, y1]
              exact ⟨by omega, by omega, by omega, k + 1, hlt, by omega, ⟨by rw [hs]; simp [rgoneD, rf_eq, Dec.row, int, partsD, hin, q1, q2, y1], by omega⟩, by rw [hs]; simp [rgoneD, rf_eq, Dec.row, int, partsD, hin, q1, q2, y1]⟩
            · cases y2 : l[k].yes
              · simp (decide := true) [int, decsD, Dec.row, e1, hlt, I64, partsD, maxLen, q1, q2, y1, y2]
                exact ⟨by omega, by omega, by omega, k + 1, hlt, by omega, ⟨by rw [hs]; simp [rgoneD, rf_eq, Dec.row, int, partsD, hin, q1, q2, y1, y2], by omega⟩, by rw [hs]; simp [rgoneD, rf_eq, Dec.row, int, partsD, hin, q1, q2, y1, y2]⟩
              · simp (decide := true) [int, decsD, Dec.row, e1, hlt, I64, partsD, maxLen, q1, q2, y1, y2]
                exact ⟨by omega, by omega, by omega, k + 1, hlt, by omega, ⟨by rw [hs]; simp [rgoneD, rf_eq, Dec.row, int, partsD, hin, q1, q2, y1, y2], by omega⟩, by rw [hs]; simp [rgoneD, rf_eq, Dec.row, int, partsD, hin, q1, q2, y1, y2]⟩
        · cases y1 : d.yes
          · simp (decide := true) [int, decsD, Dec.row, e1, hlt, I64, partsD, maxLen, q1, y1]
            exact ⟨by omega, by omega, by omega, k + 1, hlt, by omega, ⟨by rw [hs]; simp [rgoneD, rf_eq, Dec.row, int, partsD, hin, q1, y1], by omega⟩, by rw [hs]; simp [rgoneD, rf_eq, Dec.row, int, partsD, hin, q1, y1]⟩
          · cases y2 : l[k].yes
            · simp (decide := true) [int, decsD, Dec.row, e1, hlt, I64, partsD, maxLen, q1, y1, y2]
              exact ⟨by omega, by omega, by omega, k + 1, hlt, by omega, ⟨by rw [hs]; simp [rgoneD, rf_eq, Dec.row, int, partsD, hin, q1, y1, y2], by omega⟩, by rw [hs]; simp [rgoneD, rf_eq, Dec.row, int, partsD, hin, q1, y1, y2]⟩
            · simp (decide := true) [int, decsD, Dec.row, e1, hlt, I64, partsD, maxLen, q1, y1, y2]
              exact ⟨by omega, by omega, by omega, k + 1, hlt, by omega, ⟨by rw [hs]; simp [rgoneD, rf_eq, Dec.row, int, partsD, hin, q1, y1, y2], by omega⟩, by rw [hs]; simp [rgoneD, rf_eq, Dec.row, int, partsD, hin, q1, y1, y2]⟩
    · have : k = l.length := by omega
      subst this
      rw [List.take_length] at hpl ⊢
      cases hin : (rputS d l).2
      · simp (decide := true) [decsD, int, Dec.row, maxLen, putR, hc, hin]
        omega
      · simp (decide := true) [decsD, int, Dec.row, maxLen, putR, hc, hin]
  · simp (decide := true) [hc, int, decsD, putR]
end Go.V
