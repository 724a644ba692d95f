/- Contracts: analyses held against each other, rules that delete. -/
import Derived.Test.YtgglheknmlfghaaGreatC4
set_option linter.unusedSimpArgs false
set_option linter.unusedVariables false
set_option maxRecDepth 10000
namespace Go.V
open Go Go.Proofs

theorem sameAna_ok (a b : List Prt) (hb : b.length < 2^62) : PureR Tryz.prog 62 [anaD a, anaD b] (.bool (decide (a = b))) := by
  refine pure_of_body mixed Tryz.func62 rfl call_62 ?_
  simp [Tryz.f62, anaD]
  refine ECall.pure (by rfl) (eqParts_ok a b hb) (by simp) ?_
  simp
/-- Some rule leaves segments out. -/
def shrinksR (l : List Rule) : Bool := l.any fun r => decide (0 ∈ r.dst)
theorem any_hit {α : Type} {p : α → Bool} {l : List α} {k : Nat} (h : k < l.length) (hp : p l[k] = true) : l.any p = true := List.any_eq_true.2 ⟨_, List.getElem_mem h, hp⟩
theorem shrinks_ok (l : List Rule) (hl : l.length < 2^62) (hs : ∀ r ∈ l, r.dst.length < 2^62) : PureR Tryz.prog 83 [rulesD l] (.bool (shrinksR l)) := by
  refine pure_of_body mixed Tryz.func83 rfl call_83 ?_
  simp [Tryz.f83, rulesD]
  refine loop_rule mixed (fun k : Nat => { n := 15, next := 0, slots := [(5, .d (rulesD l)), (6, .d (.int .i64 l.length)), (7, .d (.int .i64 k))], own := [] })
    (fun k => k ≤ l.length ∧ ∀ r ∈ l.take k, 0 ∉ r.dst) (fun k => l.length - k) 0 (by simp) (by simp [rulesD]) ?_
  intro k ⟨hk, hp⟩
  by_cases hlt : k < l.length
  · have e1 : l[k]? = some l[k] := List.getElem?_eq_getElem hlt
    simp (decide := true) [rulesD, Rule.row, int, e1, hlt, I64, Value.oneCell']
    refine ECall.pure (by rfl) (has_ok l[k].dst 0 (hs _ (List.getElem_mem hlt))) (by simp) ?_
    simp (decide := true) [rulesD, I64]
    refine ⟨fun h => ?_, fun h => ⟨by omega, k + 1, ⟨hlt, take_all hlt hp h⟩, by omega, by omega⟩⟩
    exact (any_hit hlt (by simpa using h))
  · have : k = l.length := by omega
    subst this
    simp (decide := true) [rulesD]
    simp only [List.take_length] at hp
    simp only [shrinksR, List.any_eq_false]
    intro r hr; simpa using hp r hr
end Go.V
