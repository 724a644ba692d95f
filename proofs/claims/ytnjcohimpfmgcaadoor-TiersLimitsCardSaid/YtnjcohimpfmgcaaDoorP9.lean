/- The law of chapter 12 on the limits: whatever the numbers, it returns true. -/
import Derived.Test.YtnjcohimpfmgcaaDoorP8
import Derived.Test.YtnjcohimpfmgcaaDoorK1
set_option linter.unusedSimpArgs false
set_option linter.unusedVariables false
set_option maxRecDepth 10000
namespace Go.V
open Go Go.Proofs

theorem limCheck_ok (n : Nat) (len : Int) (hn : n ≤ 320) : PureR Tryd.prog 17 [docD (limDoc n len)] (int (checkE (limDoc n len))) := by
  have hl : (limDoc n len).notes.length = n := lim_len n
  refine check0_ok (limDoc n len) (by show (1 : Nat) < 2^30; decide) (by rw [hl]; omega) ?_
  intro t ht
  have : t = 0 := by have h1 : t < 1 := ht; omega
  subst this
  exact tier0_ok (limDoc n len) 0 ht (by rw [hl]; omega) rfl
def limS (n len : Int) (i : Nat) : St := match i with
  | 0 => { n := 73, next := 2, slots := [(0, .d (int n)), (1, .d (int len)), (5, .bp 1 0), (6, .d (int 0))], own := [(0, .arr 49 4 [limT.row]), (1, .box 32 [.d (int 0), .d (.str ⟨#[]⟩), .d (int len), .d (int 0), .d (.sl []), .ar 0, .nils])] }
  | i + 1 => { n := 73, next := 4, slots := [(0, .d (int n)), (1, .d (int len)), (5, .bp 1 0), (6, .d (int ((i : Int) + 1)))], own := [(0, .arr 49 4 [limT.row]), (1, .box 32 [.d (int 0), .d (.str ⟨#[]⟩), .d (int len), .d (int 0), .d (.sl []), .ar 0, .ar 3]), (3, .arr 39 7 ((limNotes (i + 1)).map Nt.row))], moved := [3] }
set_option maxHeartbeats 2000000 in
theorem law_limits (n len : Int) : PureR Tryd.prog 12 [int n, int len] (.bool true) := by
  refine pure_of_body mixed Tryd.func12 rfl call_12 ?_
  by_cases h1 : n < 0
  · simp (decide := true) [Tryd.f12, int, h1]
    refine ECall.pure (by rfl) awake12_R (by simp) ?_
    simp
  by_cases h2 : 320 < n
  · simp (decide := true) [Tryd.f12, int, h1, h2]
    refine ECall.pure (by rfl) awake12_R (by simp) ?_
    simp
  simp (decide := true) [Tryd.f12, int, h1, h2]
  obtain ⟨N, rfl⟩ : ∃ N : Nat, n = N := ⟨n.toNat, by omega⟩
  refine loop_rule mixed (limS N len) (fun i => i ≤ N) (fun i => N - i) 0 (by simp) (by simp (decide := true) [limS, int, limT, Tir.row]) ?_
  intro i hi
  by_cases hlt : i < N
  · have hlt' : (i : Int) < N := by omega
    have hsn : (limNotes (i + 1)).map Nt.row = (limNotes i).map Nt.row ++ [[.int .i64 ((i : Int) + 1), .int .i64 0, .int .i64 0, .int .i64 i, .int .i64 ((i : Int) + 1), .int .i64 0, .str ⟨#[]⟩]] := by
      unfold limNotes; rw [List.range_succ, List.map_append, List.map_append]; rfl
    cases i with
    | zero =>
      have h0 : 0 < N := by omega
      simp (decide := true) [limS, int, hlt', I64, h0]
      refine ⟨1, h0, by omega, ?_⟩
      have hz : (limNotes (0 + 1)).map Nt.row = [[.int .i64 1, .int .i64 0, .int .i64 0, .int .i64 0, .int .i64 1, .int .i64 0, .str ⟨#[]⟩]] := rfl
      simp (decide := true) [int, limT, Tir.row, hz]
    | succ j =>
      have hll : (limNotes (j + 1)).length = j + 1 := lim_len _
      have hq : (j : Int) + 1 < N := by omega
      simp (decide := true) [limS, int, hlt', I64, hq, hll]
      refine ⟨⟨by omega, by omega⟩, by omega, by unfold maxLen; omega, ⟨by omega, by omega⟩, j + 1 + 1, by omega, by omega, ?_⟩
      have hsn' : (limNotes (j + 1 + 1)).map Nt.row = (limNotes (j + 1)).map Nt.row ++ [[.int .i64 ((j : Int) + 1 + 1), .int .i64 0, .int .i64 0, .int .i64 ((j : Int) + 1), .int .i64 ((j : Int) + 1 + 1), .int .i64 0, .str ⟨#[]⟩]] := hsn
      simp (decide := true) [int, limT, Tir.row, hsn']
  · have : i = N := by omega
    subst this
    have hC := limCheck_ok i len (by omega)
    rw [lim_check (by omega)] at hC
    cases i with
    | zero =>
      simp (decide := true) [limS, int, I64]
      refine ECall.pure (by rfl) hC (fun _ => rfl) ?_
      by_cases l1 : len < 0
      · simp (decide := true) [int, l1]
        refine ECall.pure (by rfl) awake12_R (by simp) ?_
        simp
      by_cases l2 : 86400000 < len
      · simp (decide := true) [int, l1, l2]
        refine ECall.pure (by rfl) awake12_R (by simp) ?_
        simp
      simp (decide := true) [int, l1, l2]
      refine ECall.pure (by rfl) awake12_R (by simp) ?_
      simp
    | succ j =>
      simp (decide := true) [limS, int, I64]
      refine ECall.pure (by rfl) hC (fun _ => rfl) ?_
      by_cases l1 : len < 0
      · simp (decide := true) [int, l1]
        refine ECall.pure (by rfl) awake12_R (by simp) ?_
        simp
      by_cases l2 : 86400000 < len
      · simp (decide := true) [int, l1, l2]
        refine ECall.pure (by rfl) awake12_R (by simp) ?_
        simp
      by_cases l3 : 300 < j + 1
      · have l3' : (300 : Int) < (j : Int) + 1 := by omega
        simp (decide := true) [int, l1, l2, l3, l3']
        refine ECall.pure (by rfl) awake12_R (by simp) ?_
        simp
      have l3' : ¬ (300 : Int) < (j : Int) + 1 := by omega
      by_cases l4 : len < (j : Int) + 1
      · simp (decide := true) [int, l1, l2, l3, l3', l4]
        refine ECall.pure (by rfl) awake12_R (by simp) ?_
        simp
      simp (decide := true) [int, l1, l2, l3, l3', l4]
      refine ECall.pure (by rfl) awake12_R (by simp) ?_
      simp
end Go.V
