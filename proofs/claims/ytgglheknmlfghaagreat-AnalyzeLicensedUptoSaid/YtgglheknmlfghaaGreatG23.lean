/- The check of a net by the reference of chapter 23. -/
import Derived.Test.YtgglheknmlfghaaGreatG22
set_option linter.unusedSimpArgs false
set_option linter.unusedVariables false
set_option maxRecDepth 10000
namespace Go.V
open Go Go.Proofs

theorem state23_ok (n : Nett) (q : Int) : PureR Tryz.prog 117 [.agg n.cells, int q] (.bool (decide (0 ≤ q ∧ q < n.states))) := by
  refine pure_of_body mixed Tryz.func117 rfl call_117 ?_
  by_cases h0 : 0 ≤ q
  · simp (decide := true) [Tryz.f117, int, Nett.cells, h0]
  · simp (decide := true) [Tryz.f117, int, Nett.cells, h0]
def StpIn (n : Nett) (s : Stp) : Prop := (0 ≤ s.src ∧ s.src < n.states) ∧ (0 ≤ s.dst ∧ s.dst < n.states) ∧ 1 ≤ s.cls ∧ s.cls ≤ 20
structure NetF (n : Nett) : Prop where
  lo : 1 ≤ n.states
  steps : ∀ s ∈ n.steps, StpIn n s
  final : ∀ q ∈ n.final, 0 ≤ q ∧ q < n.states
set_option maxHeartbeats 16000000 in
theorem check23_ok (n : Nett) (hs : n.steps.length ≤ 1048576) (hf : n.final.length ≤ 1048576) : PureE Tryz.prog 77 [.agg n.cells] (fun x => ∃ e, x = int e ∧ (e = 0 → NetF n)) := by
  refine some_of_body mixed Tryz.func77 rfl call_77 ?_
  by_cases h0 : n.states < 1
  · simp (decide := true) [Tryz.f77, int, Nett.cells, h0]
  by_cases h1 : 24 < n.states
  · simp (decide := true) [Tryz.f77, int, Nett.cells, h0, h1]
  by_cases h2 : (200 : Int) < n.steps.length
  · simp (decide := true) [Tryz.f77, int, Nett.cells, stepsD, h0, h1, h2]
  simp (decide := true) [Tryz.f77, int, Nett.cells, stepsD, h0, h1, h2]
  refine loop_rule mixed (fun k : Nat => { n := 98, next := 1, slots := [(1, .bp 0 0), (3, .d (int k))], own := [(0, .box 33 (n.cells.map .d))] })
    (fun k => k ≤ n.steps.length ∧ ∀ s ∈ n.steps.take k, StpIn n s) (fun k => n.steps.length - k) 0 (by simp) (by simp (decide := true) [int, ints, stepsD, Nett.cells]) ?_
  intro k ⟨hk, hp⟩
  by_cases hlt : k < n.steps.length
  · have hlt' : (k : Int) < n.steps.length := by omega
    obtain ⟨x, ex⟩ : ∃ x, n.steps[k] = x := ⟨_, rfl⟩
    have ex1 : n.steps[k]? = some x := by rw [List.getElem?_eq_getElem hlt, ex]
    have hsn := take_snocG hlt
    rw [ex] at hsn
    have hA := state23_ok n x.src
    have hB := state23_ok n x.dst
    simp (decide := true) [int, ints, stepsD, Nett.cells, hlt, hlt', ex, ex1, Stp.row]
    refine ECall.pure (by rfl) hA (by simp [int]) ?_
    by_cases a1 : 0 ≤ x.src ∧ x.src < n.states
    case neg => simp (decide := true) [int, a1]
    simp (decide := true) [int, ints, stepsD, a1]
    refine ECall.pure (by rfl) hB (by simp [int]) ?_
    by_cases a2 : 0 ≤ x.dst ∧ x.dst < n.states
    case neg => simp (decide := true) [int, a2]
    by_cases a3 : x.cls < 1
    · simp (decide := true) [int, a2, a3]
    by_cases a4 : 20 < x.cls
    · simp (decide := true) [int, a2, a3, a4]
    simp (decide := true) [int, ints, stepsD, Nett.cells, a2, a3, a4]
    refine loop_rule mixed (fun m : Nat => { n := 98, next := 2, slots := [(1, .bp 0 0), (3, .d (int k)), (4, .bp 1 0), (5, .d (int m))], own := [(0, .box 33 (n.cells.map .d)), (1, .box 123 (x.row.map .d))] })
      (fun m => m ≤ k) (fun m => k - m) 0 (by simp) (by simp (decide := true) [int, ints, stepsD, Nett.cells, Stp.row]) ?_
    intro m hm
    by_cases hlm : m < k
    · have hlm' : (m : Int) < k := by omega
      have hml : m < n.steps.length := by omega
      have hml' : (m : Int) < n.steps.length := by omega
      obtain ⟨y, ey⟩ : ∃ y, n.steps[m] = y := ⟨_, rfl⟩
      have ey1 : n.steps[m]? = some y := by rw [List.getElem?_eq_getElem hml, ey]
      simp (decide := true) [int, ints, stepsD, Nett.cells, hlm, hlm', hml, hml', ey, ey1, Stp.row, I64]
      exact fun _ => ⟨⟨by omega, by omega⟩, m + 1, hlm, by omega, by omega⟩
    · have hlm' : ¬ (m : Int) < k := by omega
      simp (decide := true) [int, ints, stepsD, Nett.cells, hlm', I64]
      refine ⟨⟨by omega, by omega⟩, k + 1, ⟨hlt, fun s hm2 => ?_⟩, by omega, by omega⟩
      rw [hsn] at hm2
      rcases List.mem_append.1 hm2 with h | h
      · exact hp s h
      · rw [List.mem_singleton] at h; rw [h]; exact ⟨a1, a2, by omega, by omega⟩
  · have : k = n.steps.length := by omega
    subst this
    rw [List.take_length] at hp
    simp (decide := true) [int, ints, stepsD, Nett.cells]
    refine loop_rule mixed (fun k : Nat => { n := 98, next := 1, slots := [(1, .bp 0 0), (6, .d (int ((k : Int) + 1)))], own := [(0, .box 33 (n.cells.map .d))] })
      (fun k => k ≤ n.final.length) (fun k => n.final.length - k) 0 (by simp) (by simp (decide := true) [int, ints, stepsD, Nett.cells]) ?_
    intro i hi
    by_cases hli : i + 1 < n.final.length
    · have hli' : (i : Int) + 1 < n.final.length := by omega
      have hl0 : i < n.final.length := by omega
      have hl0' : (i : Int) < n.final.length := by omega
      obtain ⟨u, eu⟩ : ∃ u, n.final[i + 1] = u := ⟨_, rfl⟩
      have eu1 : n.final[i + 1]? = some u := by rw [List.getElem?_eq_getElem hli, eu]
      obtain ⟨v, ev⟩ : ∃ v, n.final[i] = v := ⟨_, rfl⟩
      have ev1 : n.final[i]? = some v := by rw [List.getElem?_eq_getElem hl0, ev]
      have t1 : ((i : Int) + 1).toNat = i + 1 := by omega
      have t2 : 0 ≤ (i : Int) + 1 := by omega
      by_cases b1 : u ≤ v
      · simp (decide := true) [int, ints, stepsD, Nett.cells, hli, hli', hl0, hl0', eu, eu1, ev, ev1, t1, t2, b1, I64]
        omega
      · simp (decide := true) [int, ints, stepsD, Nett.cells, hli, hli', hl0, hl0', eu, eu1, ev, ev1, t1, t2, b1, I64]
        exact ⟨by omega, ⟨by omega, by omega⟩, i + 1, by omega, by omega, by omega⟩
    · have hli' : ¬ (i : Int) + 1 < n.final.length := by omega
      simp (decide := true) [int, ints, stepsD, Nett.cells, hli']
      refine loop_rule mixed (fun k : Nat => { n := 98, next := 1, slots := [(1, .bp 0 0), (7, .d (int k))], own := [(0, .box 33 (n.cells.map .d))] })
        (fun k => k ≤ n.final.length ∧ ∀ q ∈ n.final.take k, 0 ≤ q ∧ q < n.states) (fun k => n.final.length - k) 0 (by simp) (by simp (decide := true) [int, ints, stepsD, Nett.cells]) ?_
      intro j ⟨hj, hq⟩
      by_cases hlj : j < n.final.length
      · have hlj' : (j : Int) < n.final.length := by omega
        obtain ⟨u, eu⟩ : ∃ u, n.final[j] = u := ⟨_, rfl⟩
        have eu1 : n.final[j]? = some u := by rw [List.getElem?_eq_getElem hlj, eu]
        have hsn := take_snocG hlj
        rw [eu] at hsn
        have hC := state23_ok n u
        simp (decide := true) [int, ints, stepsD, Nett.cells, hlj, hlj', eu, eu1]
        refine scall_pure (by rfl) (by rfl) hC (by simp [int, ints, stepsD, Nett.cells]) ?_
        by_cases a1 : 0 ≤ u ∧ u < n.states
        · simp (decide := true) [int, a1, I64, ints, stepsD, Nett.cells]
          refine ⟨⟨by omega, by omega⟩, j + 1, ⟨hlj, fun q hm => ?_⟩, by omega, by omega⟩
          rw [hsn] at hm
          rcases List.mem_append.1 hm with h | h
          · exact hq q h
          · rw [List.mem_singleton] at h; rw [h]; exact a1
        · simp (decide := true) [int, a1]
      · have : j = n.final.length := by omega
        subst this
        rw [List.take_length] at hq
        simp (decide := true) [int, ints, stepsD, Nett.cells]
        exact ⟨by omega, hp, hq⟩
end Go.V
