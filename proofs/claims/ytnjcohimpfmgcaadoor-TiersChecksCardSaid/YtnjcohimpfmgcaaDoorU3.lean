/- utf8.ValidString and runes.Points, as contracts of the logic. -/
import Derived.Test.YtnjcohimpfmgcaaDoorU1
import Derived.Test.YtnjcohimpfmgcaaDoorU2
import Derived.Test.YtnjcohimpfmgcaaDoorSu
import Derived.Test.YtnjcohimpfmgcaaDoorC0
set_option linter.unusedSimpArgs false
set_option linter.unusedVariables false
set_option maxRecDepth 10000
namespace Go.V
open Go Go.Proofs

def validB (s : ByteArray) : Bool := Lib.validD s.data.toList
theorem tabs_of_glob {w : World} {E : Nat → Prop} (h : Glob w E) : Lib.Utf8Tabs 0 1 w := by
  have h0 := h 0 firstD (by simp [GT])
  have h1 := h 1 accD (by simp [GT])
  simp only [R] at h0 h1
  obtain ⟨b, off, e, _, _, r0⟩ := h0
  cases e
  obtain ⟨b, off, e, _, _, r1⟩ := h1
  cases e
  refine ⟨fun c hc => ?_, fun i hi => ?_⟩
  · obtain ⟨v, h1, _, h2⟩ := r0.get (j := c) (d := .int .u8 (Lib.firstT c : Int)) (by unfold firstD; rw [List.getElem?_map, List.getElem?_range hc]; rfl)
    simp only [R] at h2
    subst h2
    simpa using h1
  · have key : ∀ (n k : Nat), k + n ≤ 16 → i < n → ((List.range' k n).flatMap fun i => [D.int .u8 (Lib.accLo i : Int), D.int .u8 (Lib.accHi i : Int)])[2 * i]? = some (.int .u8 (Lib.accLo (k + i) : Int)) ∧
        ((List.range' k n).flatMap fun i => [D.int .u8 (Lib.accLo i : Int), D.int .u8 (Lib.accHi i : Int)])[2 * i + 1]? = some (.int .u8 (Lib.accHi (k + i) : Int)) := by
      clear r0 r1 h
      induction i with
      | zero =>
        intro n k _ hn
        obtain ⟨m, rfl⟩ : ∃ m, n = m + 1 := ⟨n - 1, by omega⟩
        rw [List.range'_succ, List.flatMap_cons]
        simp
      | succ i ih =>
        intro n k hk hn
        obtain ⟨m, rfl⟩ : ∃ m, n = m + 1 := ⟨n - 1, by omega⟩
        rw [List.range'_succ, List.flatMap_cons]
        obtain ⟨e1, e2⟩ := ih (by omega) m (k + 1) (by omega) (by omega)
        rw [show 2 * (i + 1) = 2 * i + 2 by omega, show 2 * i + 2 + 1 = (2 * i + 1) + 2 by omega]
        refine ⟨by simpa [Nat.add_assoc, Nat.add_comm 1 i] using e1, by simpa [Nat.add_assoc, Nat.add_comm 1 i] using e2⟩
    obtain ⟨e1, e2⟩ := key 16 0 (by omega) hi
    rw [Nat.zero_add] at e1 e2
    constructor
    · obtain ⟨v, g1, _, g2⟩ := r1.get (j := 2 * i) (d := .int .u8 (Lib.accLo i : Int)) (by unfold accD; rw [List.range_eq_range']; exact e1)
      simp only [R] at g2
      subst g2
      simpa using g1
    · obtain ⟨v, g1, _, g2⟩ := r1.get (j := 2 * i + 1) (d := .int .u8 (Lib.accHi i : Int)) (by unfold accD; rw [List.range_eq_range']; exact e2)
      simp only [R] at g2
      subst g2
      simpa using g1
theorem below_of {w w' : World} (h : RowKit.Below w.heap.size w w') : Below w.heap.size w w' := ⟨h, fun h => Bool.noConfusion (show false = true from h)⟩
theorem valid_calls (s : ByteArray) {w : World} {E : Nat → Prop} (hs : s.size ≤ 1000000) (hE : Seen w E) :
    Calls Tryd.prog 48 #[.string s] w fun e w' => e = .returned (.bool (validB s)) ∧ RowKit.Below w.heap.size w w' :=
  Any.utf8_ValidString Tryd.validStr s w (by omega) (tabs_of_glob hE.2)
theorem valid_ok (s : ByteArray) (hs : s.size ≤ 1000000) : PureR Tryd.prog 48 [.str s] (.bool (validB s)) := by
  refine ⟨call_48, fun w E vs hE hv => ?_⟩
  simp only [Rvals, R] at hv
  obtain ⟨_, _, rfl, rfl, rfl⟩ := hv
  exact (valid_calls s hs hE).mono fun e w' ⟨h1, h2⟩ => ⟨_, h1, below_of h2, by simp [R]⟩
/-- A slice of numbers that has come to be since reads as they do. -/
theorem ints_of_row {w W : World} {E : Nat → Prop} {v : Value} {ys : List Int} (hE : ∀ b, E b → b < w.heap.size) (h : W.ownsRow w.heap.size 3 1 v ys.length (ys.map (Value.int .i64))) : R W E (ints ys) v := by
  unfold ints
  simp only [R, List.length_map]
  rcases h.2 with ⟨rfl, h0⟩ | ⟨g, cap, cur, rfl, hb, hgb, h1, h2, h3, h4⟩
  · have : ys = [] := List.eq_nil_of_length_eq_zero h0
    subst this
    exact ⟨none, 0, rfl, by simp, by simp, fun _ => rfl, fun h => absurd rfl h⟩
  · refine ⟨some ⟨g, 0, none⟩, cap, rfl, h1, h2, (fun h => by cases h), fun hne => ⟨g, 0, rfl, fun he => ?_, (Array.getElem?_eq_some_iff.1 hgb).1, ?_⟩⟩
    · have := hE g he; omega
    · have hrl : rowLen (ys.map fun n => [D.int .i64 n]) = 1 := by
        cases ys with
        | nil => exact absurd rfl hne
        | cons y r => rfl
      rw [hrl]
      refine Rrows.of_flat (fun r hr => ?_) ?_
      · obtain ⟨n, _, rfl⟩ := List.mem_map.1 hr; rfl
      · have hfl : (ys.map fun n => [D.int .i64 n]).flatten = ys.map (D.int .i64) := by
          clear h h1 h2 h3 h4 hne hrl
          induction ys with
          | nil => rfl
          | cons y r ih => simp [ih]
        rw [hfl]
        refine Rrow.of_cells (vs := ys.map (Value.int .i64)) ?_ ?_
        · clear h h1 h2 h3 h4 hne hrl hfl
          induction ys with
          | nil => simp [Rcells]
          | cons y r ih => simp only [List.map_cons, Rcells]; exact ⟨_, _, rfl, rfl, by simp [R], ih⟩
        · intro j u hj
          rw [Nat.zero_add]
          simp only [World.cell?, hgb]
          rw [← h4, List.getElem?_take] at hj
          split at hj
          · simpa using hj
          · cases hj
theorem points_ok (s : ByteArray) (hs : s.size ≤ 1000000) : PureE Tryd.prog 31 [.str s] (fun r => ∃ l, r = .tup [ints l, .bool (validB s)]) := by
  refine ⟨call_31, fun w E vs hE hv => ?_⟩
  simp only [Rvals, R] at hv
  obtain ⟨_, _, rfl, rfl, rfl⟩ := hv
  have hc := valid_calls s hs hE
  cases hb : validB s with
  | false =>
    rw [hb] at hc
    refine (points_no s w hc).mono fun e w' ⟨h1, h2⟩ => ⟨_, _, h1, below_of h2, ⟨[], rfl⟩, ?_⟩
    simp only [R]
    refine ⟨[.slice none 0 0, .bool false], rfl, ?_⟩
    simp only [Rvals]
    exact ⟨_, _, rfl, by simp only [ints, R, List.map_nil, List.length_nil]; exact ⟨none, 0, rfl, by simp, by simp, fun _ => rfl, fun h => absurd rfl h⟩, _, _, rfl, by simp [R], rfl⟩
  | true =>
    rw [hb] at hc
    refine (points_yes s w hs hc).mono fun e w' ⟨v, ys, h1, h2, h3⟩ => ⟨_, _, h1, below_of h3, ⟨ys, rfl⟩, ?_⟩
    simp only [R]
    refine ⟨[v, .bool true], rfl, ?_⟩
    have := ints_of_row hE.1 h2
    simp only [Rvals]
    exact ⟨_, _, rfl, this, _, _, rfl, by simp [R], rfl⟩
end Go.V
