/- Contracts: rules that delete, by the reference. -/
import Derived.Test.YtgglheknmlfghaaGreatC8
set_option linter.unusedSimpArgs false
set_option linter.unusedVariables false
set_option maxRecDepth 10000
namespace Go.V
open Go Go.Proofs

theorem deletes_ok (g : Lang) (hl : g.rules.length < 2^62) (hs : ∀ r ∈ g.rules, r.dst.length < 2^62) : PureR Tryz.prog 85 [g.d] (.bool (shrinksR g.rules)) := by
  refine pure_of_body mixed Tryz.func85 rfl call_85 ?_
  simp [Tryz.f85, Lang.d, rulesD, int]
  refine loop_rule mixed (fun k : Nat => { n := 18, next := 1, slots := [(1, .bp 0 0), (3, .d (.int .i64 k))], own := [(0, .box 36 [.d (invD g.inv), .d (.str g.orth.name), .d (unitsD g.orth.units), .d (lettersD g.orth.letters), .d (rulesD g.rules), .d (int g.net.states), .d (stepsD g.net.steps), .d (ints g.net.final), .d (lexD g.lex)])] })
    (fun k => k ≤ g.rules.length ∧ ∀ r ∈ g.rules.take k, 0 ∉ r.dst) (fun k => g.rules.length - k) 0 (by simp) (by simp [rulesD, int]) ?_
  intro k ⟨hk, hp⟩
  by_cases hlt : k < g.rules.length
  · have e1 : g.rules[k]? = some g.rules[k] := List.getElem?_eq_getElem hlt
    simp (decide := true) [rulesD, Rule.row, int, e1, hlt, I64, Value.oneCell']
    refine ECall.pure (by rfl) (refHas_ok g.rules[k].dst 0 (hs _ (List.getElem_mem hlt))) (by simp) ?_
    simp (decide := true) [rulesD, int, I64]
    refine ⟨fun h => ?_, fun h => ⟨by omega, k + 1, ⟨hlt, take_all hlt hp h⟩, by omega, by omega⟩⟩
    exact (any_hit hlt (by simpa using h))
  · have : k = g.rules.length := by omega
    subst this
    simp (decide := true) [rulesD]
    simp only [List.take_length] at hp
    simp only [shrinksR, List.any_eq_false]
    intro r hr; simpa using hp r hr
end Go.V
