/- Contracts: decisions held against each other, picked, left out. -/
import Derived.Test.YtmpknkjlhapcmaaGreatE3
set_option linter.unusedSimpArgs false
set_option linter.unusedVariables false
set_option maxRecDepth 10000
namespace Go.V
open Go Go.Proofs

def fewL (l : List Dec) : Bool := decide (l.length ≤ 40) && l.all fun d => decide (d.pick.length ≤ 10)
theorem few_ok (l : List Dec) : PureR Tryz.prog 13 [decsD l] (.bool (fewL l)) := by
  refine pure_of_body mixed Tryz.func13 rfl call_13 ?_
  simp [Tryz.f13, decsD, int]
  refine loop_rule mixed (fun k : Nat => { n := 25, next := 0, slots := [(0, .d (decsD l)), (3, .d (.int .i64 k))], own := [] })
    (fun k => k ≤ l.length ∧ k ≤ 41 ∧ ∀ d ∈ l.take k, d.pick.length ≤ 10) (fun k => l.length - k) 0 (by simp) (by simp [decsD, int]) ?_
  intro k ⟨hk, hk2, hp⟩
  by_cases hlt : k < l.length
  · have e1 : l[k]? = some l[k] := List.getElem?_eq_getElem hlt
    by_cases h41 : k < 41
    · have h41' : (k : Int) < 41 := by omega
      have h41'' : ¬ 41 ≤ (k : Int) := by omega
      by_cases h10 : l[k].pick.length ≤ 10
      · have g1 : ¬ (10 : Int) < l[k].pick.length := by omega
        have g2 : (l[k].pick.length : Int) ≤ 10 := by omega
        simp (decide := true) [decsD, partsD, Dec.row, int, e1, hlt, I64, h41', h41'', g1, g2]
        exact ⟨by omega, k + 1, ⟨hlt, by omega, take_all hlt hp h10⟩, by omega, by omega⟩
      · have g1 : (10 : Int) < l[k].pick.length := by omega
        have g2 : ¬ (l[k].pick.length : Int) ≤ 10 := by omega
        simp (decide := true) [decsD, partsD, Dec.row, int, e1, hlt, I64, h41', h41'', g1, g2]
        simp only [fewL]
        rw [Bool.and_eq_false_iff]
        right
        rw [List.all_eq_false]
        exact ⟨l[k], List.getElem_mem hlt, by simpa using h10⟩
    · have h41' : ¬ (k : Int) < 41 := by omega
      have h41'' : 41 ≤ (k : Int) := by omega
      have g3 : ¬ (l.length : Int) ≤ 40 := by omega
      have g4 : ¬ l.length ≤ 40 := by omega
      simp (decide := true) [decsD, partsD, hlt, h41', h41'', g3, fewL, g4]
  · have : k = l.length := by omega
    subst this
    rw [List.take_length] at hp
    have ha : (l.all fun d => decide (d.pick.length ≤ 10)) = true := by rw [List.all_eq_true]; intro d hd; simpa using hp d hd
    simp (decide := true) [decsD, int, fewL, ha]
    omega
def rightL (l : List Dec) : Bool := fewL l && decide (checkL l = 0)
theorem fewL_fits {l : List Dec} (h : fewL l = true) : l.length < 2^62 ∧ Fits31 l := by
  simp only [fewL, Bool.and_eq_true, decide_eq_true_eq, List.all_eq_true] at h
  exact ⟨by omega, fun d hd => by have := h.2 d hd; unfold Dec.fit; omega⟩
theorem right_ok (l : List Dec) : PureR Tryz.prog 17 [decsD l] (.bool (rightL l)) := by
  refine pure_of_body mixed Tryz.func17 rfl call_17 ?_
  simp [Tryz.f17, decsD]
  refine ECall.pure (by rfl) (few_ok l) (by simp) ?_
  cases h : fewL l
  · simp [rightL, h]
  · obtain ⟨h1, h2⟩ := fewL_fits h
    simp
    refine ECall.pure (by rfl) (refCheck_ok l h1 h2) (by simp) ?_
    simp (decide := true) [rightL, h, int]
theorem dec_eq {a b : Dec} : a = b ↔ a.ref = b.ref ∧ a.yes = b.yes ∧ a.pick = b.pick := by cases a; cases b; simp
theorem same1_ok (x y : Dec) (h : y.fit) : PureR Tryz.prog 57 [.agg x.row, .agg y.row] (.bool (decide (x = y))) := by
  refine pure_of_body mixed Tryz.func57 rfl call_57 ?_
  by_cases h1 : x.ref = y.ref
  · have h1' := rf_eq.1 h1
    by_cases h2 : x.yes = y.yes
    · simp (decide := true) [Tryz.f57, Dec.row, int, h1'.1, h1'.2, h2]
      refine ECall.pure (by rfl) (eqParts_ok x.pick y.pick h) (by simp) ?_
      simp (decide := true) [dec_eq, h1, h2]
    · simp (decide := true) [Tryz.f57, Dec.row, int, h1'.1, h1'.2, h2, dec_eq]
  · have h1' : x.ref.rcd = y.ref.rcd → ¬ x.ref.note = y.ref.note := fun e1 e2 => h1 (rf_eq.2 ⟨e1, e2⟩)
    by_cases e1 : x.ref.rcd = y.ref.rcd
    · have e2 := h1' e1
      simp (decide := true) [Tryz.f57, Dec.row, int, e1, e2, dec_eq, h1]
    · simp (decide := true) [Tryz.f57, Dec.row, int, e1, dec_eq, h1]
theorem equalFunc_ok (a b : List Dec) (hb : b.length < 2^62) (f : Nat) (hf : ∀ x ∈ a, ∀ y ∈ b, PureR Tryz.prog f [.agg x.row, .agg y.row] (.bool (decide (x = y)))) :
    PureR Tryz.prog 56 [decsD a, decsD b, .fn f []] (.bool (decide (a = b))) := by
  refine pure_of_body mixed Tryz.func56 rfl call_56 ?_
  simp [Tryz.f56, decsD]
  refine ⟨fun h e => h (by rw [e]), fun h => ?_⟩
  refine loop_rule mixed (fun k : Nat => { n := 32, next := 0, slots := [(0, .d (decsD a)), (1, .d (decsD b)), (2, .d (.fn f [])), (15, .d (decsD a)), (16, .d (.int .i64 a.length)), (17, .d (.int .i64 k))], own := [] })
    (fun k => k ≤ a.length ∧ a.take k = b.take k) (fun k => a.length - k) 0 (by simp) (by simp [decsD]) ?_
  intro k ⟨hk, hp⟩
  have h : a.length = b.length := by omega
  by_cases hlt : k < a.length
  · have hlt' : k < b.length := by omega
    have e1 : a[k]? = some a[k] := List.getElem?_eq_getElem hlt
    have e2 : b[k]? = some b[k] := List.getElem?_eq_getElem hlt'
    simp (decide := true) [decsD, Dec.row, int, e1, e2, hlt, hlt', I64]
    refine ECall.pure (by rfl) (hf a[k] (List.getElem_mem hlt) b[k] (List.getElem_mem hlt')) (by simp) ?_
    simp (decide := true) [decsD, I64]
    refine ⟨fun hne e => hne (by subst e; rfl), fun he => ⟨by omega, k + 1, ⟨hlt, ?_⟩, by omega, by omega⟩⟩
    rw [take_snoc hlt, take_snoc hlt', hp, he]
  · have : k = a.length := by omega
    subst this
    simp (decide := true) [decsD]
    rw [List.take_length, h, List.take_length] at hp
    exact hp
theorem same31_ok (a b : List Dec) (hb : b.length < 2^62) (hf : Fits31 b) : PureR Tryz.prog 33 [decsD a, decsD b] (.bool (decide (a = b))) := by
  refine pure_of_body mixed Tryz.func33 rfl call_33 ?_
  simp [Tryz.f33, decsD]
  refine ECall.pure (by rfl) (equalFunc_ok a b hb _ (fun x _ y hy => same1_ok x y (hf y hy))) (by simp) ?_
  simp
theorem refSame31_ok (a b : List Dec) (hb : b.length < 2^62) (ha : Fits31 a) (hf : Fits31 b) : PureR Tryz.prog 18 [decsD a, decsD b] (.bool (decide (a = b))) := by
  refine pure_of_body mixed Tryz.func18 rfl call_18 ?_
  simp [Tryz.f18, decsD]
  refine ⟨fun h e => h (by rw [e]), fun h => ?_⟩
  refine loop_rule mixed (fun k : Nat => { n := 55, next := 0, slots := [(0, .d (decsD a)), (1, .d (decsD b)), (11, .d (decsD a)), (12, .d (.int .i64 a.length)), (13, .d (.int .i64 k))], own := [] })
    (fun k => k ≤ a.length ∧ a.take k = b.take k) (fun k => a.length - k) 0 (by simp) (by simp [decsD]) ?_
  intro k ⟨hk, hp⟩
  have h : a.length = b.length := by omega
  by_cases hlt : k < a.length
  · have hlt' : k < b.length := by omega
    have e1 : a[k]? = some a[k] := List.getElem?_eq_getElem hlt
    have e2 : b[k]? = some b[k] := List.getElem?_eq_getElem hlt'
    have hne : a[k] ≠ b[k] → ¬ a = b := fun hne e => hne (by subst e; rfl)
    by_cases g1 : a[k].ref.rcd = b[k].ref.rcd
    · by_cases g2 : a[k].ref.note = b[k].ref.note
      · by_cases g3 : a[k].yes = b[k].yes
        · simp (decide := true) [decsD, Dec.row, int, e1, e2, hlt, hlt', I64, g1, g2, g3]
          refine scall_pure (by rfl) (by rfl) (same29_ok a[k].pick b[k].pick (ha _ (List.getElem_mem hlt)) (hf _ (List.getElem_mem hlt'))) (by simp) ?_
          by_cases g4 : a[k].pick = b[k].pick
          · simp (decide := true) [decsD, I64, g4]
            refine ⟨by omega, k + 1, ⟨hlt, ?_⟩, by omega, by omega⟩
            rw [take_snoc hlt, take_snoc hlt', hp, dec_eq.2 ⟨rf_eq.2 ⟨g1, g2⟩, g3, g4⟩]
          · have hn := hne (fun e => g4 (by rw [e]))
            simp (decide := true) [decsD, I64, g4, hn]
        · have hn := hne (fun e => g3 (by rw [e]))
          simp (decide := true) [decsD, Dec.row, int, e1, e2, hlt, hlt', I64, g1, g2, g3, hn]
      · have hn := hne (fun e => g2 (by rw [e]))
        simp (decide := true) [decsD, Dec.row, int, e1, e2, hlt, hlt', I64, g1, g2, hn]
    · have hn := hne (fun e => g1 (by rw [e]))
      simp (decide := true) [decsD, Dec.row, int, e1, e2, hlt, hlt', I64, g1, hn]
  · have : k = a.length := by omega
    subst this
    simp (decide := true) [decsD]
    rw [List.take_length, h, List.take_length] at hp
    exact hp
end Go.V
