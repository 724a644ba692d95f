/- The checks of a language, by the reference, safe on whatever is not too large: units, segments. -/
import Derived.Test.YtgglheknmlfghaaGreatG19
set_option linter.unusedSimpArgs false
set_option linter.unusedVariables false
set_option maxRecDepth 10000
namespace Go.V
open Go Go.Proofs

def nmS (b : Nat) : Bool := decide (97 ≤ b) && decide (b ≤ 122)
def nmC (b : Nat) : Bool := nmS b || (decide (48 ≤ b) && decide (b ≤ 57)) || decide (b = 45) || decide (b = 95)
def nameP (s : ByteArray) : Bool := decide (1 ≤ s.size) && decide (s.size ≤ 32) && nmS (byteN s 0) && (List.range s.size).all fun k => nmC (byteN s k)
/-- The ways a byte may stand to names. -/
theorem nm_cases (b : Nat) : (97 ≤ b ∧ b ≤ 122) ∨ (48 ≤ b ∧ b ≤ 57) ∨ b = 45 ∨ b = 95 ∨ (b < 48 ∧ b ≠ 45) ∨ (57 < b ∧ b < 97 ∧ b ≠ 95) ∨ 122 < b := by omega
theorem name_len {s : ByteArray} (h : s.size = 0) : nameP s = false := by simp [nameP, h]
theorem refName_ok (s : ByteArray) (hs : s.size ≤ 9223372036854775807) : PureR Tryz.prog 112 [.str s] (.bool (nameP s)) := by
  refine pure_of_body mixed Tryz.func112 rfl call_112 ?_
  simp (decide := true) [Tryz.f112]
  refine loop_rule mixed (fun k : Nat => { n := 59, next := 0, slots := [(0, .d (.str s)), (3, .d (.int .i64 k))], own := [] })
    (fun k => k ≤ s.size ∧ ∀ j, j < k → (nmC (byteN s j) = true ∧ (j = 0 → nmS (byteN s 0) = true))) (fun k => s.size - k) 0 (by simp) (by simp (decide := true) [int]) ?_
  intro k ⟨hk, hp⟩
  by_cases hlt : k < s.size
  · have hlt' : (k : Int) < s.size := by omega
    have e0 : byteAt s (k : Int) = (byteN s k : Int) := byteAt_nat s k
    have good : nmC (byteN s k) = true → (k = 0 → nmS (byteN s k) = true) → ∀ j, j < k + 1 → (nmC (byteN s j) = true ∧ (j = 0 → nmS (byteN s 0) = true)) := by
      intro hb h0 j hj
      rcases Nat.lt_or_ge j k with hj' | hj'
      · exact hp j hj'
      · have : j = k := by omega
        subst this; exact ⟨hb, fun e => by subst e; exact h0 rfl⟩
    have bad : nmC (byteN s k) = false → nameP s = false := fun hb => by
      have : (List.range s.size).all (fun k => nmC (byteN s k)) = false := by rw [List.all_eq_false]; exact ⟨k, by simpa using hlt, by simp [hb]⟩
      simp only [nameP, this, Bool.and_false]
    have bad0 : k = 0 → nmS (byteN s k) = false → nameP s = false := fun h0 hb => by
      subst h0
      simp only [nameP, hb, Bool.and_false, Bool.false_and]
    generalize byteN s k = b at e0 good bad bad0
    by_cases hs : 97 ≤ b ∧ b ≤ 122
    · obtain ⟨c1, c2⟩ := hs
      have q1 : (97 : Int) ≤ b := by omega
      have q2 : (b : Int) ≤ 122 := by omega
      have hS : nmS b = true := by simp [nmS]; omega
      simp (decide := true) [hlt, hlt', e0, q1, q2, I64]
      exact ⟨by omega, k + 1, ⟨by omega, good (by simp [nmC, hS]) (fun _ => hS)⟩, by omega, by omega⟩
    · have hS : nmS b = false := by simp [nmS]; omega
      by_cases hk0 : k = 0
      · subst hk0
        have hb := bad0 rfl hS
        have e0' : byteAt s 0 = (b : Int) := e0
        by_cases q1 : (97 : Int) ≤ b
        · have q2 : ¬ (b : Int) ≤ 122 := by omega
          simp (decide := true) [hlt, hlt', e0', q1, q2, hb]
        · simp (decide := true) [hlt, hlt', e0', q1, hb]
      · have hk0' : ¬ (k : Int) = 0 := by omega
        have key : ∀ (r : Bool), nmC b = r → (decide (97 ≤ (b : Int)) && decide ((b : Int) ≤ 122)) = false := fun _ _ => by simp; omega
        by_cases q1 : (97 : Int) ≤ b
        · have q2 : ¬ (b : Int) ≤ 122 := by omega
          have q3 : ¬ (b : Int) = 45 := by omega
          have q4 : ¬ (b : Int) = 95 := by omega
          have q5 : ¬ (b : Int) < 48 := by omega
          have q6 : (57 : Int) < b := by omega
          have hb := bad (by simp [nmC, hS]; omega)
          simp (decide := true) [hlt, hlt', e0, q1, q2, q3, q4, q5, q6, hk0, hk0', hb]
        · rcases nm_cases b with ⟨c1, c2⟩ | ⟨c1, c2⟩ | rfl | rfl | ⟨c1, c2⟩ | ⟨c1, c2, c3⟩ | c1
          · omega
          · have q3 : ¬ (b : Int) = 45 := by omega
            have q4 : ¬ (b : Int) = 95 := by omega
            have q5 : ¬ (b : Int) < 48 := by omega
            have q6 : ¬ (57 : Int) < b := by omega
            simp (decide := true) [hlt, hlt', e0, q1, q3, q4, q5, q6, hk0, hk0', I64]
            exact ⟨by omega, k + 1, ⟨by omega, good (by simp [nmC]; omega) (fun h => absurd h hk0)⟩, by omega, by omega⟩
          · simp (decide := true) [hlt, hlt', e0, hk0, hk0', I64]
            exact ⟨by omega, k + 1, ⟨by omega, good (by decide) (fun h => absurd h hk0)⟩, by omega, by omega⟩
          · simp (decide := true) [hlt, hlt', e0, hk0, hk0', I64]
            exact ⟨by omega, k + 1, ⟨by omega, good (by decide) (fun h => absurd h hk0)⟩, by omega, by omega⟩
          · have q3 : ¬ (b : Int) = 45 := by omega
            have q4 : ¬ (b : Int) = 95 := by omega
            have q5 : (b : Int) < 48 := by omega
            have hb := bad (by simp [nmC, hS]; omega)
            simp (decide := true) [hlt, hlt', e0, q1, q3, q4, q5, hk0, hk0', hb]
          · have q3 : ¬ (b : Int) = 45 := by omega
            have q4 : ¬ (b : Int) = 95 := by omega
            have q5 : ¬ (b : Int) < 48 := by omega
            have q6 : (57 : Int) < b := by omega
            have hb := bad (by simp [nmC, hS]; omega)
            simp (decide := true) [hlt, hlt', e0, q1, q3, q4, q5, q6, hk0, hk0', hb]
          · omega
  · have : k = s.size := by omega
    subst this
    have hall : (List.range s.size).all (fun k => nmC (byteN s k)) = true := by
      rw [List.all_eq_true]; intro j hj; exact (hp j (by simpa using hj)).1
    by_cases h1 : 1 ≤ s.size
    · have h1' : (1 : Int) ≤ s.size := by omega
      have hS := (hp 0 (by omega)).2 rfl
      simp (decide := true) [h1', nameP, hall, hS, h1]
      omega
    · have h1' : ¬ (1 : Int) ≤ s.size := by omega
      simp (decide := true) [h1', nameP, h1]

def strsD (l : List ByteArray) : D := .sl (l.map fun s => [.str s])
theorem has17_ok (l : List ByteArray) (s : ByteArray) (hl : l.length < 2^40) : PureE Tryz.prog 115 [strsD l, .str s] IsB := by
  refine some_of_body mixed Tryz.func115 rfl call_115 ?_
  simp (decide := true) [Tryz.f115, int, strsD]
  refine loop_rule mixed (fun k : Nat => { n := 18, next := 0, slots := [(0, .d (strsD l)), (1, .d (.str s)), (5, .d (int k))], own := [] })
    (fun k => k ≤ l.length) (fun k => l.length - k) 0 (by simp) (by simp (decide := true) [int, strsD]) ?_
  intro k hk
  by_cases hlt : k < l.length
  · have hlt' : (k : Int) < l.length := by omega
    obtain ⟨x, ex⟩ : ∃ x, l[k] = x := ⟨_, rfl⟩
    have e1 : l[k]? = some x := by rw [List.getElem?_eq_getElem hlt, ex]
    by_cases b1 : x = s
    · simp (decide := true) [int, strsD, hlt, hlt', e1, ex, b1]
    · simp (decide := true) [int, strsD, hlt, hlt', e1, ex, b1, I64]
      exact fun _ => ⟨⟨by omega, by omega⟩, k + 1, hlt, by omega, by omega⟩
  · have hlt' : ¬ (k : Int) < l.length := by omega
    simp (decide := true) [int, strsD, hlt']
structure OrthC (o : Orth) : Prop where
  name : o.name.size ≤ 1048576
  units : ∀ u ∈ o.units, u.graph.size ≤ 1048576 ∧ u.segs.length ≤ 1048576
  letters : ∀ l ∈ o.letters, l.length ≤ 1048576 ∧ ∀ s ∈ l, s.size ≤ 1048576
  few : o.units.length ≤ 1048576 ∧ o.letters.length ≤ 1048576
set_option maxHeartbeats 4000000 in
theorem unit17_ok (inv : List Phon) (o : Orth) (ho : OrthC o) (i : Nat) (hi : i < o.units.length) (hl : inv.length < 2^40) : PureE Tryz.prog 113 [.agg [invD inv], .agg o.cells, int i] IsI := by
  refine some_of_body mixed Tryz.func113 rfl call_113 ?_
  have hi' : (i : Int) < o.units.length := by omega
  have hu := ho.units o.units[i] (List.getElem_mem hi)
  have hfew := ho.few.1
  obtain ⟨u, eu⟩ : ∃ u, o.units[i] = u := ⟨_, rfl⟩
  have eu1 : o.units[i]? = some u := by rw [List.getElem?_eq_getElem hi, eu]
  rw [eu] at hu
  simp (decide := true) [Tryz.f113, int, Orth.cells, unitsD, hi, hi', eu, eu1, Grap.row]
  refine ECall.some (by rfl) (label17_ok u.graph hu.1) ?_
  rintro r ⟨b, rfl⟩
  cases b with
  | false => simp (decide := true) [int]
  | true =>
    simp (decide := true) [int]
    refine loop_rule mixed (fun k : Nat => { n := 67, next := 3, slots := [(2, .d (int i)), (3, .bp 0 0), (4, .bp 1 0), (7, .bp 2 0), (8, .d (int k))], own := [(0, .box 24 [.d (invD inv)]), (1, .box 28 (o.cells.map .d)), (2, .box 119 [.d (.str u.graph), .d (ints u.segs)])] })
      (fun k => k ≤ i) (fun k => i - k) 0 (by simp) (by simp (decide := true) [int, ints, Orth.cells, unitsD, Grap.row]) ?_
    intro k hk
    by_cases hlt : k < i
    · have hlt' : (k : Int) < i := by omega
      have hku : k < o.units.length := by omega
      have hku' : (k : Int) < o.units.length := by omega
      obtain ⟨x, ex⟩ : ∃ x, o.units[k] = x := ⟨_, rfl⟩
      have ex1 : o.units[k]? = some x := by rw [List.getElem?_eq_getElem hku, ex]
      by_cases b1 : x.graph = u.graph
      · simp (decide := true) [int, ints, Orth.cells, unitsD, Grap.row, hlt, hlt', hku, hku', ex, ex1, b1]
      · simp (decide := true) [int, ints, Orth.cells, unitsD, Grap.row, hlt, hlt', hku, hku', ex, ex1, b1, I64]
        exact fun _ => ⟨⟨by omega, by omega⟩, k + 1, hlt, by omega, by omega⟩
    · have hlt' : ¬ (k : Int) < i := by omega
      by_cases c1 : (u.segs.length : Int) < 1
      · simp (decide := true) [int, ints, Orth.cells, unitsD, Grap.row, hlt, hlt', c1]
      · by_cases c2 : (3 : Int) < u.segs.length
        · simp (decide := true) [int, ints, Orth.cells, unitsD, Grap.row, hlt, hlt', c1, c2]
        · simp (decide := true) [int, ints, Orth.cells, unitsD, Grap.row, hlt, hlt', c1, c2]
          refine loop_rule mixed (fun m : Nat => { n := 67, next := 3, slots := [(2, .d (int i)), (3, .bp 0 0), (4, .bp 1 0), (7, .bp 2 0), (9, .d (int m))], own := [(0, .box 24 [.d (invD inv)]), (1, .box 28 (o.cells.map .d)), (2, .box 119 [.d (.str u.graph), .d (ints u.segs)])] })
            (fun m => m ≤ u.segs.length) (fun m => u.segs.length - m) 0 (by simp) (by simp (decide := true) [int, ints, Orth.cells, unitsD, Grap.row]) ?_
          intro m hm
          by_cases hlm : m < u.segs.length
          · have hlm' : (m : Int) < u.segs.length := by omega
            obtain ⟨y, ey⟩ : ∃ y, u.segs[m] = y := ⟨_, rfl⟩
            have ey1 : u.segs[m]? = some y := by rw [List.getElem?_eq_getElem hlm, ey]
            by_cases b1 : y < 1
            · simp (decide := true) [int, ints, hlm, hlm', ey, ey1, b1]
            · by_cases b2 : (inv.length : Int) < y
              · simp (decide := true) [int, ints, invD, hlm, hlm', ey, ey1, b1, b2]
              · simp (decide := true) [int, ints, invD, hlm, hlm', ey, ey1, b1, b2, I64]
                exact ⟨⟨by omega, by omega⟩, m + 1, hlm, by omega, by omega, by simp [Orth.cells, Sym.los, Sym.lo]⟩
          · have hlm' : ¬ (m : Int) < u.segs.length := by omega
            simp (decide := true) [int, ints, hlm']
end Go.V
