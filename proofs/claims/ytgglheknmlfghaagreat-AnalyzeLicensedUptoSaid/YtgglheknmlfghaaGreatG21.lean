/- The checks of a language, by the reference, safe on whatever is not too large: the orthography, the inventory. -/
import Derived.Test.YtgglheknmlfghaaGreatG20
set_option linter.unusedSimpArgs false
set_option linter.unusedVariables false
set_option maxRecDepth 10000
namespace Go.V
open Go Go.Proofs

def InvC (inv : List Phon) : Prop := inv.length ≤ 1048576 ∧ ∀ p ∈ inv, p.name.size ≤ 1048576
set_option maxHeartbeats 4000000 in
theorem check16_ok (inv : List Phon) (hi : InvC inv) : PureE Tryz.prog 74 [.agg [invD inv]] IsI := by
  obtain ⟨hl, hn⟩ := hi
  refine some_of_body mixed Tryz.func74 rfl call_74 ?_
  by_cases h0 : (60 : Int) < inv.length
  · simp (decide := true) [Tryz.f74, int, invD, h0]
  simp (decide := true) [Tryz.f74, int, invD, h0]
  refine loop_rule mixed (fun k : Nat => { n := 58, next := 1, slots := [(1, .bp 0 0), (11, .d (int inv.length)), (12, .d (int k))], own := [(0, .box 24 [.d (invD inv)])] })
    (fun k => k ≤ inv.length) (fun k => inv.length - k) 0 (by simp) (by simp (decide := true) [int, invD]) ?_
  intro k hk
  by_cases hlt : k < inv.length
  · have hlt' : (k : Int) < inv.length := by omega
    have hnk := hn inv[k] (List.getElem_mem hlt)
    obtain ⟨x, ex⟩ : ∃ x, inv[k] = x := ⟨_, rfl⟩
    have ex1 : inv[k]? = some x := by rw [List.getElem?_eq_getElem hlt, ex]
    rw [ex] at hnk
    simp (decide := true) [int, invD, hlt, hlt', ex, ex1, Phon.row]
    refine ECall.some (by rfl) (label10_ok x.name hnk) ?_
    rintro r ⟨b, rfl⟩
    cases b with
    | false => simp (decide := true) [int]
    | true =>
      simp (decide := true) [int]
      refine loop_rule mixed (fun m : Nat => { n := 58, next := 1, slots := [(1, .bp 0 0), (3, .d (int k)), (4, .d (int m)), (11, .d (int inv.length)), (12, .d (int k))], own := [(0, .box 24 [.d (invD inv)])] })
        (fun m => m ≤ k) (fun m => k - m) 0 (by simp) (by simp (decide := true) [int, invD, Phon.row]) ?_
      intro m hm
      by_cases hlm : m < k
      · have hlm' : (m : Int) < k := by omega
        have hmi : m < inv.length := by omega
        have hmi' : (m : Int) < inv.length := by omega
        obtain ⟨y, ey⟩ : ∃ y, inv[m] = y := ⟨_, rfl⟩
        have ey1 : inv[m]? = some y := by rw [List.getElem?_eq_getElem hmi, ey]
        by_cases b1 : y.name = x.name
        · simp (decide := true) [int, invD, hlm, hlm', hmi, hmi', hlt, hlt', ex, ex1, ey, ey1, Phon.row, b1]
        · simp (decide := true) [int, invD, hlm, hlm', hmi, hmi', hlt, hlt', ex, ex1, ey, ey1, Phon.row, b1, I64]
          exact fun _ => ⟨⟨by omega, by omega⟩, m + 1, hlm, by omega, by omega⟩
      · have hlm' : ¬ (m : Int) < k := by omega
        by_cases b1 : x.feat < 0
        · simp (decide := true) [int, invD, hlm', hlt, hlt', ex, ex1, Phon.row, b1]
        · by_cases b2 : 65536 ≤ x.feat
          · simp (decide := true) [int, invD, hlm', hlt, hlt', ex, ex1, Phon.row, b1, b2]
          · simp (decide := true) [int, invD, hlm', hlt, hlt', ex, ex1, Phon.row, b1, b2, I64]
            exact ⟨⟨by omega, by omega⟩, k + 1, hlt, by omega, by omega⟩
  · have hlt' : ¬ (k : Int) < inv.length := by omega
    simp (decide := true) [int, invD, hlt']
def jn (l : List (List ByteArray)) : List ByteArray := l.flatten
set_option maxHeartbeats 8000000 in
theorem check17_ok (inv : List Phon) (o : Orth) (ho : OrthC o) (hl : inv.length < 2^40) : PureE Tryz.prog 75 [.agg [invD inv], .agg o.cells] IsI := by
  have hfew := ho.few
  refine some_of_body mixed Tryz.func75 rfl call_75 ?_
  simp (decide := true) [Tryz.f75, int, Orth.cells]
  refine ECall.pure (by rfl) (refName_ok o.name (by have := ho.name; omega)) (by simp) ?_
  cases hnm : nameP o.name with
  | false => simp (decide := true) [int]
  | true =>
    by_cases h0 : (100 : Int) < o.units.length
    · simp (decide := true) [int, unitsD, h0]
    simp (decide := true) [int, unitsD, h0]
    refine loop_rule mixed (fun k : Nat => { n := 79, next := 2, slots := [(2, .bp 0 0), (3, .bp 1 0), (5, .d (int k))], own := [(0, .box 24 [.d (invD inv)]), (1, .box 28 (o.cells.map .d))] })
      (fun k => k ≤ o.units.length) (fun k => o.units.length - k) 0 (by simp) (by simp (decide := true) [int, unitsD, Orth.cells]) ?_
    intro k hk
    by_cases hlt : k < o.units.length
    · have hlt' : (k : Int) < o.units.length := by omega
      simp (decide := true) [int, unitsD, hlt, hlt', Orth.cells]
      refine ECall.some (by rfl) (unit17_ok inv o ho k hlt hl) ?_
      rintro r ⟨e, rfl⟩
      by_cases he : e = 0
      · subst he
        simp (decide := true) [int, I64]
        exact ⟨⟨by omega, by omega⟩, k + 1, hlt, by omega, by simp [Orth.cells, Sym.los, Sym.lo, unitsD]⟩
      · simp (decide := true) [int, he]
    · have hlt' : ¬ (k : Int) < o.units.length := by omega
      by_cases h1 : (100 : Int) < o.letters.length
      · simp (decide := true) [int, unitsD, lettersD, hlt', h1, Orth.cells]
      simp (decide := true) [int, unitsD, lettersD, hlt', h1, Orth.cells]
      refine loop_rule mixed (fun x : Nat × List ByteArray => { n := 79, next := 3, slots := [(2, .bp 0 0), (3, .bp 1 0), (7, .ar 2), (8, .d (int x.1))], own := [(0, .box 24 [.d (invD inv)]), (1, .box 28 (o.cells.map .d)), (2, .arr 9 1 (x.2.map fun s => [.str s]))], moved := [2] })
        (fun x => x.1 ≤ o.letters.length ∧ x.2.length ≤ x.1 * 1048576) (fun x => o.letters.length - x.1) (0, []) (by simp) (by simp (decide := true) [int, unitsD, lettersD, Orth.cells]) ?_
      rintro ⟨i, seen⟩ ⟨hi, hs⟩
      simp only at hi hs
      by_cases hli : i < o.letters.length
      · have hli' : (i : Int) < o.letters.length := by omega
        have hL := ho.letters o.letters[i] (List.getElem_mem hli)
        obtain ⟨L, eL⟩ : ∃ L, o.letters[i] = L := ⟨_, rfl⟩
        have eL1 : o.letters[i]? = some L := by rw [List.getElem?_eq_getElem hli, eL]
        rw [eL] at hL
        by_cases hz : L.length = 0
        · simp (decide := true) [int, unitsD, lettersD, Orth.cells, hli, hli', eL, eL1, hz]
        have hz' : ¬ (L.length : Int) = 0 := by omega
        simp (decide := true) [int, unitsD, lettersD, Orth.cells, hli, hli', eL, eL1, hz, hz']
        refine loop_rule mixed (fun x : Nat × List ByteArray => { n := 79, next := 3, slots := [(2, .bp 0 0), (3, .bp 1 0), (7, .ar 2), (8, .d (int i)), (9, .d (int x.1))], own := [(0, .box 24 [.d (invD inv)]), (1, .box 28 (o.cells.map .d)), (2, .arr 9 1 (x.2.map fun s => [.str s]))], moved := [2] })
          (fun x => x.1 ≤ L.length ∧ x.2.length ≤ i * 1048576 + x.1) (fun x => L.length - x.1) (0, seen) (by simpa using hs) (by simp (decide := true) [int, unitsD, lettersD, Orth.cells]) ?_
        rintro ⟨m, sn⟩ ⟨hm, hs2⟩
        simp only at hm hs2
        by_cases hlm : m < L.length
        · have hlm' : (m : Int) < L.length := by omega
          have hS := hL.2 L[m] (List.getElem_mem hlm)
          obtain ⟨y, ey⟩ : ∃ y, L[m] = y := ⟨_, rfl⟩
          have ey1 : L[m]? = some y := by rw [List.getElem?_eq_getElem hlm, ey]
          rw [ey] at hS
          simp (decide := true) [int, unitsD, lettersD, Orth.cells, hli, hli', eL, eL1, hlm, hlm', ey, ey1]
          refine ECall.some (by rfl) (label17_ok y hS) ?_
          rintro r ⟨b, rfl⟩
          cases b with
          | false => simp (decide := true) [int]
          | true =>
            simp (decide := true) [int]
            refine ECall.some (by rfl) (has17_ok sn y (by omega)) ?_
            rintro r ⟨b, rfl⟩
            cases b with
            | true => simp (decide := true) [int]
            | false =>
              simp (decide := true) [int, I64]
              exact ⟨by omega, by unfold maxLen; omega, ⟨by omega, by omega⟩, m + 1, sn ++ [y], ⟨hlm, by rw [List.length_append]; simp; omega⟩, by omega, by omega, by simp⟩
        · have hlm' : ¬ (m : Int) < L.length := by omega
          simp (decide := true) [int, unitsD, lettersD, Orth.cells, hli, hli', eL, eL1, hlm', I64]
          exact ⟨⟨by omega, by omega⟩, i + 1, sn, ⟨hli, by omega⟩, by omega, by omega, rfl⟩
      · have hli' : ¬ (i : Int) < o.letters.length := by omega
        simp (decide := true) [int, unitsD, lettersD, hli', Orth.cells]
end Go.V
