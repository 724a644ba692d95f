/- Contracts of small functions over languages. -/
import Derived.Test.YtgglheknmlfghaaC1
set_option linter.unusedSimpArgs false
set_option linter.unusedVariables false
set_option maxRecDepth 10000
namespace Go.V
open Go Go.Proofs

/-- Whether a number is that of a segment. -/
def isSeg (inv : List Phon) (n : Int) : Bool := decide (1 ≤ n) && decide (n ≤ inv.length)
theorem segment_ok (inv : List Phon) (n : Int) : PureR Try.prog 35 [.agg [invD inv], int n] (.bool (isSeg inv n)) := by
  refine pure_of_body mixed Try.func35 rfl call_35 ?_
  simp [Try.f35, invD, int, isSeg]
  omega
theorem isNaN_ok (n : Int) : PureR Try.prog 60 [int n] (.bool false) := by
  refine pure_of_body mixed Try.func60 rfl call_60 ?_
  simp [Try.f60, int]
def cmpI (a b : Int) : Int := if a < b then -1 else if b < a then 1 else 0
theorem compare_ok (a b : Int) : PureR Try.prog 48 [int a, int b] (int (cmpI a b)) := by
  refine pure_of_body mixed Try.func48 rfl call_48 ?_
  simp [Try.f48, int]
  refine ECall.pure (by rfl) (isNaN_ok a) (by simp) ?_
  simp
  refine ECall.pure (by rfl) (isNaN_ok b) (by simp) ?_
  simp [cmpI]
  refine ⟨fun h h' => by omega, fun h => by omega⟩
/-- The index of an entry. -/
def findE (l : List Ent) (id : Int) : Int := match l.findIdx? (·.id = id) with
  | some k => k
  | none => -1
theorem findE_hit {l : List Ent} {id : Int} {k : Nat} (h : k < l.length) (hp : ∀ e ∈ l.take k, e.id ≠ id) (he : l[k].id = id) : l.findIdx? (·.id = id) = some k := by
  rw [List.findIdx?_eq_some_iff_getElem]
  refine ⟨h, by simpa using he, fun j hj => ?_⟩
  have := hp l[j] (by rw [List.mem_take_iff_getElem]; exact ⟨j, by omega, rfl⟩)
  simpa using this
theorem findE_miss {l : List Ent} {id : Int} (hp : ∀ e ∈ l, e.id ≠ id) : l.findIdx? (·.id = id) = none := by
  rw [List.findIdx?_eq_none_iff]; intro e he; simpa using hp e he
theorem take_all {α : Type} {p : α → Prop} {l : List α} {k : Nat} (h : k < l.length) (hp : ∀ e ∈ l.take k, p e) (he : p l[k]) : ∀ e ∈ l.take (k + 1), p e := by
  rw [take_snoc h]
  intro e hm
  rcases List.mem_append.1 hm with hm | hm
  · exact hp e hm
  · simp at hm; rw [hm]; exact he
end Go.V
