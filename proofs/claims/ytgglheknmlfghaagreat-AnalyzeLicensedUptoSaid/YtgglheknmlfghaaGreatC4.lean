/- Contracts: an entry by its number. -/
import Derived.Test.YtgglheknmlfghaaGreatC3
set_option linter.unusedSimpArgs false
set_option linter.unusedVariables false
set_option maxRecDepth 10000
namespace Go.V
open Go Go.Proofs

def Ent.zero : Ent := ⟨0, [], 0, [], 0, [], [], []⟩
/-- The entry of a number. -/
def getE (l : List Ent) (id : Int) : Ent × Bool := match l.find? (·.id = id) with
  | some e => (e, true)
  | none => (Ent.zero, false)
theorem getE_hit {l : List Ent} {id : Int} {k : Nat} (h : k < l.length) (hp : ∀ e ∈ l.take k, e.id ≠ id) (he : l[k].id = id) : l.find? (·.id = id) = some l[k] := by
  rw [List.find?_eq_some_iff_getElem]
  refine ⟨by simpa using he, k, h, rfl, fun j hj => ?_⟩
  have := hp l[j] (by rw [List.mem_take_iff_getElem]; exact ⟨j, by omega, rfl⟩)
  simpa using this
theorem getE_miss {l : List Ent} {id : Int} (hp : ∀ e ∈ l, e.id ≠ id) : l.find? (·.id = id) = none := by
  rw [List.find?_eq_none]; intro e he; simpa using hp e he
theorem get25_ok (l : List Ent) (id : Int) (hl : l.length < 2^62) : PureR Tryz.prog 87 [lexD l, int id] (.tup [.agg (getE l id).1.row, .bool (getE l id).2]) := by
  refine pure_of_body mixed Tryz.func87 rfl call_87 ?_
  simp [Tryz.f87, lexD, int, Value.oneCell']
  refine loop_rule mixed (fun k : Nat => { n := 25, next := 1, slots := [(0, .d (lexD l)), (1, .d (int id)), (4, .bp 0 0), (8, .d (.int .i64 l.length)), (9, .d (.int .i64 k))], own := [(0, .box 59 [.d (int 0), .nils, .d (int 0), .nils, .d (int 0), .nils, .nils, .nils])] })
    (fun k => k ≤ l.length ∧ ∀ e ∈ l.take k, e.id ≠ id) (fun k => l.length - k) 0 (by simp) (by simp [lexD, int]) ?_
  intro k ⟨hk, hp⟩
  by_cases hlt : k < l.length
  · have e1 : l[k]? = some l[k] := List.getElem?_eq_getElem hlt
    simp (decide := true) [lexD, Ent.row, int, e1, hlt, I64]
    refine ⟨fun h => ?_, fun h => ⟨by omega, k + 1, ⟨hlt, take_all hlt hp h⟩, by omega, by omega⟩⟩
    simp [getE, getE_hit hlt hp h, int]
  · have : k = l.length := by omega
    subst this
    simp (decide := true) [lexD, int]
    simp [getE, getE_miss (by simpa using hp), Ent.zero, Ent.row, int, ints, listsD, sensD, lnkD, rfD]
end Go.V
