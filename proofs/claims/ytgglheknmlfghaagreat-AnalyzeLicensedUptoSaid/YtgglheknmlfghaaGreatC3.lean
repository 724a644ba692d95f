/- Contracts of small functions over analyses and entries. -/
import Derived.Test.YtgglheknmlfghaaGreatC2
set_option linter.unusedSimpArgs false
set_option linter.unusedVariables false
set_option maxRecDepth 10000
namespace Go.V
open Go Go.Proofs

theorem eqParts_ok (a b : List Prt) (hb : b.length < 2^62) : PureR Tryz.prog 103 [partsD a, partsD b] (.bool (decide (a = b))) := by
  refine pure_of_body mixed Tryz.func103 rfl call_103 ?_
  simp [Tryz.f103, partsD]
  refine ⟨fun h e => h (by rw [e]), fun h => ?_⟩
  refine loop_rule mixed (fun k : Nat => { n := 26, next := 0, slots := [(0, .d (partsD a)), (1, .d (partsD b)), (12, .d (.int .i64 a.length)), (13, .d (.int .i64 k))], own := [] })
    (fun k => k ≤ a.length ∧ a.take k = b.take k) (fun k => a.length - k) 0 (by simp) (by simp [partsD]) ?_
  intro k ⟨hk, hp⟩
  have h : a.length = b.length := by omega
  by_cases hlt : k < a.length
  · have e1 : a[k]? = some a[k] := List.getElem?_eq_getElem hlt
    have e2 : b[k]? = some (b[k]'(by omega)) := List.getElem?_eq_getElem (by omega)
    have hlt' : k < b.length := by omega
    simp (decide := true) [partsD, Prt.row, int, e1, e2, hlt, hlt', I64]
    refine ⟨fun hne e => by subst e; simp at hne, fun h1 h2 h3 => ⟨by omega, k + 1, ⟨hlt, ?_⟩, by omega, by omega⟩⟩
    have he : a[k] = b[k] := by
      rcases hA : a[k] with ⟨x1, x2, x3⟩
      rcases hB : b[k] with ⟨y1, y2, y3⟩
      rw [hA, hB] at h1 h2 h3
      simp only at h1 h2 h3
      rw [h1, h2, h3]
    rw [take_snoc hlt, take_snoc hlt', hp, he]
  · have : k = a.length := by omega
    subst this
    simp (decide := true) [partsD]
    rw [List.take_length, h, List.take_length] at hp
    exact hp
def inCls (inv : List Phon) (n : Int) (c : Cls) : Bool := isSeg inv n && (match inv[n.toNat - 1]? with
  | some p => decide (c.value = bitsD .and .i64 p.feat c.mask)
  | none => false)
theorem in_ok (inv : List Phon) (n : Int) (c : Cls) (hl : inv.length < 2^62) : PureR Tryz.prog 181 [.agg [invD inv], int n, .agg c.row] (.bool (inCls inv n c)) := by
  refine pure_of_body mixed Tryz.func181 rfl call_181 ?_
  simp (decide := true) [Tryz.f181, int, Cls.row]
  refine scall_pure (by rfl) (by rfl) (segment_ok inv n) (by simp) ?_
  by_cases hs : isSeg inv n = true
  · have hs' := hs
    simp only [isSeg, Bool.and_eq_true, decide_eq_true_eq] at hs'
    have hlt : n.toNat - 1 < inv.length := by omega
    have e1 : inv[n.toNat - 1]? = some inv[n.toNat - 1] := List.getElem?_eq_getElem hlt
    have e2 : ¬ n < 1 := by omega
    simp (decide := true) [invD, hs, hlt, e1, Phon.row, int, I64, inCls]
    omega
  · simp (decide := true) [hs, inCls]
end Go.V
