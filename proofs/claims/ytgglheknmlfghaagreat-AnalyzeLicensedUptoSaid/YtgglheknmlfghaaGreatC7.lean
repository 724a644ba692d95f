/- Contracts: the order of analyses. -/
import Derived.Test.YtgglheknmlfghaaGreatC6
set_option linter.unusedSimpArgs false
set_option linter.unusedVariables false
set_option maxRecDepth 10000
namespace Go.V
open Go Go.Proofs

def lessP (a b : Prt) : Bool := if a.entry = b.entry then (if a.alt = b.alt then decide (a.sense < b.sense) else decide (a.alt < b.alt)) else decide (a.entry < b.entry)
theorem before29_ok (a b : Prt) : PureR Tryz.prog 141 [.agg a.row, .agg b.row] (.bool (lessP a b)) := by
  refine pure_of_body mixed Tryz.func141 rfl call_141 ?_
  simp (decide := true) [Tryz.f141, Prt.row, int, lessP]
  exact ⟨fun h h' => absurd h' h, fun h => ⟨fun h2 => by rw [if_pos h, if_neg h2], fun h2 => by rw [if_pos h, if_pos h2]⟩⟩
/-- Whether an analysis precedes another one. -/
def lessA : List Prt → List Prt → Bool
  | a :: l, b :: m => if a = b then lessA l m else lessP a b
  | [], _ :: _ => true
  | _, [] => false
theorem lessA_drop {a b : List Prt} {k : Nat} (h : k < a.length) (h' : k < b.length) : lessA (a.drop k) (b.drop k) = if a[k] = b[k] then lessA (a.drop (k + 1)) (b.drop (k + 1)) else lessP a[k] b[k] := by
  rw [List.drop_eq_getElem_cons h, List.drop_eq_getElem_cons h']; rfl
theorem lessA_end {a b : List Prt} {k : Nat} (h : ¬ (k < a.length ∧ k < b.length)) (hk : k ≤ a.length ∧ k ≤ b.length) : lessA (a.drop k) (b.drop k) = decide (a.length < b.length) := by
  by_cases h1 : k < b.length
  · have : k = a.length := by omega
    subst this
    rw [List.drop_length, List.drop_eq_getElem_cons h1]
    simp [lessA, h1]
  · have : k = b.length := by omega
    subst this
    rw [List.drop_length]
    have : ¬ a.length < b.length := by omega
    cases a.drop b.length <;> simp [lessA, this]
theorem prt_eq {a b : Prt} : a = b ↔ a.entry = b.entry ∧ a.alt = b.alt ∧ a.sense = b.sense := by
  cases a; cases b; simp
theorem less29_ok (a b : List Prt) (ha : a.length < 2^62) (hb : b.length < 2^62) : PureR Tryz.prog 96 [anaD a, anaD b] (.bool (lessA a b)) := by
  refine pure_of_body mixed Tryz.func96 rfl call_96 ?_
  simp [Tryz.f96, anaD, partsD]
  refine loop_rule mixed (fun k : Nat => { n := 49, next := 2, slots := [(2, .bp 0 0), (3, .bp 1 0), (5, .d (.int .i64 k))], own := [(1, .box 39 [.d (partsD b)]), (0, .box 39 [.d (partsD a)])] })
    (fun k => k ≤ a.length ∧ k ≤ b.length ∧ lessA a b = lessA (a.drop k) (b.drop k)) (fun k => a.length - k) 0 (by simp) (by simp [partsD]) ?_
  intro k ⟨hk, hk', hp⟩
  by_cases hlt : k < a.length
  · by_cases hlt' : k < b.length
    · have e1 : a[k]? = some a[k] := List.getElem?_eq_getElem hlt
      have e2 : b[k]? = some b[k] := List.getElem?_eq_getElem hlt'
      rw [lessA_drop hlt hlt'] at hp
      simp (decide := true) [partsD, Prt.row, int, e1, e2, hlt, hlt', I64]
      refine ⟨fun h => ?_, fun h1 h2 h3 => ⟨by omega, k + 1, ⟨hlt, hlt', ?_⟩, by omega, by omega⟩⟩
      · refine scall_pure (by rfl) (by rfl) (before29_ok a[k] b[k]) (by simp) ?_
        have hne : ¬ a[k] = b[k] := fun e => by rw [prt_eq] at e; obtain ⟨q1, q2, q3⟩ := e; simp [q1, q2, q3] at h
        simp (decide := true) [hp, if_neg hne]
      · rw [hp, if_pos (prt_eq.2 ⟨h1, h2, h3⟩)]
    · rw [lessA_end (fun h => hlt' h.2) ⟨hk, hk'⟩] at hp
      simp (decide := true) [partsD, hlt, hlt', hp]
  · rw [lessA_end (fun h => hlt h.1) ⟨hk, hk'⟩] at hp
    simp (decide := true) [partsD, hlt, hp]
end Go.V
