/- Contracts: an entry by its number. -/
import Derived.Test.YtgglheknmlfghaaC3
set_option linter.unusedSimpArgs false
set_option linter.unusedVariables false
set_option maxRecDepth 10000
namespace Go.V
open Go Go.Proofs

def Ent.zero : Ent := ⟨0, [], 0, [], 0, [], [], []⟩
/-- The entry of a number. -/
def getE (l : List Ent) (id : Int) : Ent × Bool := match l.find? (·.id = id) with
  | some e => (e, true)
  | none => (Ent.zero, false)
theorem getE_hit {l : List Ent} {id : Int} {k : Nat} (h : k < l.length) (hp : ∀ e ∈ l.take k, e.id ≠ id) (he : l[k].id = id) : l.find? (·.id = id) = some l[k] := by
  rw [List.find?_eq_some_iff_getElem]
  refine ⟨by simpa using he, k, h, rfl, fun j hj => ?_⟩
  have := hp l[j] (by rw [List.mem_take_iff_getElem]; exact ⟨j, by omega, rfl⟩)
  simpa using this
theorem getE_miss {l : List Ent} {id : Int} (hp : ∀ e ∈ l, e.id ≠ id) : l.find? (·.id = id) = none := by
  rw [List.find?_eq_none]; intro e he; simpa using hp e he
end Go.V
