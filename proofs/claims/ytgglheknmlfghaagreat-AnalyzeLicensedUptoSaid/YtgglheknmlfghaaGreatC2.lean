/- Contracts of small functions over languages. -/
import Derived.Test.YtgglheknmlfghaaGreatC1
set_option linter.unusedSimpArgs false
set_option linter.unusedVariables false
set_option maxRecDepth 10000
namespace Go.V
open Go Go.Proofs

/-- Whether a number is that of a segment. -/
def isSeg (inv : List Phon) (n : Int) : Bool := decide (1 ≤ n) && decide (n ≤ inv.length)
theorem refIs_ok (inv : List Phon) (n : Int) : PureR Tryz.prog 94 [.agg [invD inv], int n] (.bool (isSeg inv n)) := by
  refine pure_of_body mixed Tryz.func94 rfl call_94 ?_
  simp [Tryz.f94, invD, int, isSeg]
  omega
theorem segment_ok (inv : List Phon) (n : Int) : PureR Tryz.prog 92 [.agg [invD inv], int n] (.bool (isSeg inv n)) := by
  refine pure_of_body mixed Tryz.func92 rfl call_92 ?_
  simp [Tryz.f92, invD, int, isSeg]
  omega
theorem isNaN_ok (n : Int) : PureR Tryz.prog 149 [int n] (.bool false) := by
  refine pure_of_body mixed Tryz.func149 rfl call_149 ?_
  simp [Tryz.f149, int]
def cmpI (a b : Int) : Int := if a < b then -1 else if b < a then 1 else 0
theorem compare_ok (a b : Int) : PureR Tryz.prog 106 [int a, int b] (int (cmpI a b)) := by
  refine pure_of_body mixed Tryz.func106 rfl call_106 ?_
  simp [Tryz.f106, int]
  refine ECall.pure (by rfl) (isNaN_ok a) (by simp) ?_
  simp
  refine ECall.pure (by rfl) (isNaN_ok b) (by simp) ?_
  simp [cmpI]
  refine ⟨fun h h' => by omega, fun h => by omega⟩
/-- The index of an entry. -/
def findE (l : List Ent) (id : Int) : Int := match l.findIdx? (·.id = id) with
  | some k => k
  | none => -1
theorem findE_hit {l : List Ent} {id : Int} {k : Nat} (h : k < l.length) (hp : ∀ e ∈ l.take k, e.id ≠ id) (he : l[k].id = id) : l.findIdx? (·.id = id) = some k := by
  rw [List.findIdx?_eq_some_iff_getElem]
  refine ⟨h, by simpa using he, fun j hj => ?_⟩
  have := hp l[j] (by rw [List.mem_take_iff_getElem]; exact ⟨j, by omega, rfl⟩)
  simpa using this
theorem findE_miss {l : List Ent} {id : Int} (hp : ∀ e ∈ l, e.id ≠ id) : l.findIdx? (·.id = id) = none := by
  rw [List.findIdx?_eq_none_iff]; intro e he; simpa using hp e he
theorem take_all {α : Type} {p : α → Prop} {l : List α} {k : Nat} (h : k < l.length) (hp : ∀ e ∈ l.take k, p e) (he : p l[k]) : ∀ e ∈ l.take (k + 1), p e := by
  rw [take_snoc h]
  intro e hm
  rcases List.mem_append.1 hm with hm | hm
  · exact hp e hm
  · simp at hm; rw [hm]; exact he
theorem find27_ok (l : List Ent) (id : Int) (hl : l.length < 2^62) : PureR Tryz.prog 125 [lexD l, int id] (int (findE l id)) := by
  refine pure_of_body mixed Tryz.func125 rfl call_125 ?_
  simp [Tryz.f125, lexD, int]
  refine loop_rule mixed (fun k : Nat => { n := 20, next := 0, slots := [(0, .d (lexD l)), (1, .d (int id)), (5, .d (.int .i64 k))], own := [] })
    (fun k => k ≤ l.length ∧ ∀ e ∈ l.take k, e.id ≠ id) (fun k => l.length - k) 0 (by simp) (by simp [lexD, int]) ?_
  intro k ⟨hk, hp⟩
  by_cases hlt : k < l.length
  · have e1 : l[k]? = some l[k] := List.getElem?_eq_getElem hlt
    simp (decide := true) [lexD, Ent.row, int, e1, hlt, I64]
    refine ⟨fun h => ?_, fun h => ⟨by omega, k + 1, ⟨hlt, take_all hlt hp h⟩, by omega, by omega⟩⟩
    simp [findE, findE_hit hlt hp h]
  · have : k = l.length := by omega
    subst this
    simp (decide := true) [lexD, int]
    simp [findE, findE_miss (by simpa using hp)]
theorem find26_ok (l : List Ent) (id : Int) (hl : l.length < 2^62) : PureR Tryz.prog 121 [lexD l, int id] (int (findE l id)) := by
  refine pure_of_body mixed Tryz.func121 rfl call_121 ?_
  simp [Tryz.f121, lexD, int]
  refine loop_rule mixed (fun k : Nat => { n := 20, next := 0, slots := [(0, .d (lexD l)), (1, .d (int id)), (5, .d (.int .i64 k))], own := [] })
    (fun k => k ≤ l.length ∧ ∀ e ∈ l.take k, e.id ≠ id) (fun k => l.length - k) 0 (by simp) (by simp [lexD, int]) ?_
  intro k ⟨hk, hp⟩
  by_cases hlt : k < l.length
  · have e1 : l[k]? = some l[k] := List.getElem?_eq_getElem hlt
    simp (decide := true) [lexD, Ent.row, int, e1, hlt, I64]
    refine ⟨fun h => ?_, fun h => ⟨by omega, k + 1, ⟨hlt, take_all hlt hp h⟩, by omega, by omega⟩⟩
    simp [findE, findE_hit hlt hp h]
  · have : k = l.length := by omega
    subst this
    simp (decide := true) [lexD, int]
    simp [findE, findE_miss (by simpa using hp)]
end Go.V
