/- Contracts: spans, by the reference of chapter 9: whether spans cover a span. -/
import Derived.Test.YtnjcohimpfmgcaaDoorR3
set_option linter.unusedSimpArgs false
set_option linter.unusedVariables false
set_option maxRecDepth 10000
namespace Go.V
open Go Go.Proofs

theorem union1_ok (s : Sp) (hs : s.rt = true) : PureR Tryd.prog 96 [spansD [s]] (spansD [s]) := by
  refine pure_of_body mixed Tryd.func96 rfl call_96 ?_
  simp (decide := true) [Tryd.f96, int]
  refine loop_rule mixed (fun k : Nat => match k with
      | 0 => { n := 24, next := 2, slots := [(0, .d (spansD [s])), (3, .ar 1), (4, .d (int 0))], own := [(1, .arr 37 2 [])] }
      | _ + 1 => { n := 24, next := 2, slots := [(0, .d (spansD [s])), (3, .d (spansD [s])), (4, .d (int 1))], own := [] })
    (fun k => k ≤ 1) (fun k => 1 - k) 0 (by simp) (by simp (decide := true) [int]) ?_
  intro k hk
  cases k with
  | zero =>
    simp (decide := true) [int, spansD, Sp.row]
    refine ECall.pure (by rfl) (rightR_ok _ _) (by simp [int]) ?_
    simp (decide := true) [int, hs, Sp.row]
    refine ecall_frz (by rfl) (insertNil_ok s) (by simp) ?_
    simp (decide := true) [int, I64]
    exact ⟨1, by simp, by simp, by simp (decide := true) [int, Sp.row, spansD]⟩
  | succ j =>
    simp (decide := true) [int, spansD, Sp.row]
theorem minus_ok (s : Sp) (hs : s.rt = true) (b : List Sp) (hb : b.length < 2^62) : PureR Tryd.prog 83 [spansD [s], spansD b] (spansD (minusS [s] b)) := by
  refine pure_of_body mixed Tryd.func83 rfl call_83 ?_
  simp (decide := true) [Tryd.f83, int]
  refine ECall.pure (by rfl) (union1_ok s hs) (by simp) ?_
  simp (decide := true) [int]
  refine loop_rule mixed (fun k : Nat => { n := 27, next := 1, slots := [(1, .d (spansD b)), (5, .d (spansD (minusS [s] (b.take k)))), (6, .d (int k))], own := [] })
    (fun k => k ≤ b.length) (fun k => b.length - k) 0 (by simp) (by simp (decide := true) [int, minusS]) ?_
  intro k hk
  by_cases hlt : k < b.length
  · have hlt' : (k : Int) < b.length := by omega
    obtain ⟨y, ey'⟩ : ∃ y, b[k] = y := ⟨_, rfl⟩
    have ey : b[k]? = some y := by rw [List.getElem?_eq_getElem hlt, ey']
    have hsn := minus_snoc (a := [s]) hlt
    rw [ey'] at hsn
    have hml := minus_len hs (b.take k)
    generalize minusS [s] (b.take k) = W at hml hsn ⊢
    simp (decide := true) [int, spansD, Sp.row, hlt, hlt', ey, ey']
    refine ECall.pure (by rfl) (rightR_ok _ _) (by simp [int]) ?_
    by_cases r1 : rightS y.fr y.tO = true
    · rw [if_pos r1] at hsn
      simp (decide := true) [int, spansD, Sp.row, r1, hlt, hlt', ey, ey']
      refine ECall.pure (by rfl) (without_ok W y (by omega)) (by simp [spansD, Sp.row, int]) ?_
      simp (decide := true) [int, spansD, I64]
      exact ⟨by omega, k + 1, hlt, by omega, by rw [hsn], by omega⟩
    · rw [if_neg r1] at hsn
      simp (decide := true) [int, spansD, Sp.row, r1, I64]
      exact ⟨by omega, k + 1, hlt, by omega, by rw [hsn], by omega⟩
  · have : k = b.length := by omega
    subst this
    rw [List.take_length]
    simp (decide := true) [int, spansD, Sp.row]
theorem covers_ok (l : List Sp) (s : Sp) (hl : l.length < 2^62) : PureR Tryd.prog 59 [spansD l, .agg s.row] (.bool (coversS l s)) := by
  refine pure_of_body mixed Tryd.func59 rfl call_59 ?_
  simp (decide := true) [Tryd.f59, int, Sp.row]
  refine ECall.pure (by rfl) (rightR_ok _ _) (by simp [int]) ?_
  by_cases r1 : rightS s.fr s.tO = true
  case neg => simp (decide := true) [int, r1, coversS]
  simp (decide := true) [int, r1]
  refine ecall_frz (by rfl) (minus_ok s r1 l hl) (by simp) ?_
  simp (decide := true) [int, spansD]
  cases hm : minusS [s] l with
  | nil => simp (decide := true) [coversS, r1, hm]
  | cons y r =>
    have : ¬ (r.length : Int) + 1 = 0 := by omega
    simp (decide := true) [coversS, r1, hm, this]
end Go.V
