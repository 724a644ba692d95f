/- Documents as plain data; the order of notes as the program compares them. -/
import Derived.Test.YtnjcohimpfmgcaaDoorC0
import Derived.Test.YtnjcohimpfmgcaaDoorS1
import Derived.Test.YtnjcohimpfmgcaaDoorN0
set_option linter.unusedSimpArgs false
set_option linter.unusedVariables false
set_option linter.unusedSectionVars false
set_option maxRecDepth 10000
namespace Go.V
open Go Go.Proofs
variable [Dr]

def Nt.row (n : Nt) : List D := [int n.id, int n.tier, int n.par, int n.fr, int n.tO, int n.rank, .str n.text]
def notesD (l : List Nt) : D := .sl (l.map Nt.row)
theorem nt_enc : RowEnc Nt.enc Nt.row 7 where
  pos := by decide
  len := fun _ => rfl
  one := by intro x v hv; simp [Nt.enc] at hv; rcases hv with rfl | rfl | rfl | rfl | rfl | rfl | rfl <;> rfl
  rlen := fun _ => rfl
  read := by
    intro w E x
    simp only [Nt.row, Nt.enc, Rcells, R, int]
    exact ⟨_, _, rfl, rfl, rfl, _, _, rfl, rfl, rfl, _, _, rfl, rfl, rfl, _, _, rfl, rfl, rfl, _, _, rfl, rfl, rfl, _, _, rfl, rfl, rfl, _, _, rfl, rfl, rfl, rfl⟩
  uniq := by
    intro w E x vs h
    simp only [Nt.row, Rcells, R, int] at h
    obtain ⟨_, _, rfl, _, rfl, _, _, rfl, _, rfl, _, _, rfl, _, rfl, _, _, rfl, _, rfl, _, _, rfl, _, rfl, _, _, rfl, _, rfl, _, _, rfl, _, rfl, rfl⟩ := h
    rfl

theorem isNaN_ok (n : Int) : PureR Tryd.prog 86 [int n] (.bool false) := by
  refine pure_of_body mixed Tryd.func86 rfl call_86 ?_
  simp [Tryd.f86, int]
theorem compare_ok (a b : Int) : PureR Tryd.prog 64 [int a, int b] (int (cmpI a b)) := by
  refine pure_of_body mixed Tryd.func64 rfl call_64 ?_
  simp [Tryd.f64, int]
  refine ECall.pure (by rfl) (isNaN_ok a) (by simp) ?_
  simp
  refine ECall.pure (by rfl) (isNaN_ok b) (by simp) ?_
  simp [cmpI]
  refine ⟨fun h h' => by omega, fun h => by omega⟩
theorem or_ok (l : List Int) (hl : l.length < 2^62) : PureR Tryd.prog 63 [ints l] (int (orI l)) := by
  refine pure_of_body mixed Tryd.func63 rfl call_63 ?_
  simp [Tryd.f63, ints]
  refine loop_rule mixed (fun k : Nat => { n := 18, next := 0, slots := [(0, .d (ints l)), (3, .d (int 0)), (6, .d (ints l)), (7, .d (.int .i64 l.length)), (8, .d (.int .i64 k))], own := [] })
    (fun k => k ≤ l.length ∧ orI l = orI (l.drop k)) (fun k => l.length - k) 0 (by simp) (by simp [ints, int]) ?_
  intro k ⟨hk, hp⟩
  by_cases hlt : k < l.length
  · have e1 : l[k]? = some l[k] := List.getElem?_eq_getElem hlt
    rw [orI_drop hlt] at hp
    simp (decide := true) [ints, int, e1, hlt, I64]
    refine ⟨fun h => ?_, fun h => ⟨by omega, k + 1, ⟨hlt, ?_⟩, by omega, by omega⟩⟩
    · rw [hp, if_neg h]
    · rw [hp, if_pos h]
  · have : k = l.length := by omega
    subst this
    simp (decide := true) [ints, int, hp, orI]
theorem order_ok (a b : Nt) : PureR Tryd.prog 44 [.agg a.row, .agg b.row] (int (cmpN a b)) := by
  refine pure_of_body mixed Tryd.func44 rfl call_44 ?_
  simp (decide := true) [Tryd.f44, Nt.row, int]
  refine scall_pure (by rfl) (by rfl) (compare_ok a.par b.par) (by simp) ?_
  simp (decide := true) [int]
  refine scall_pure (by rfl) (by rfl) (compare_ok a.fr b.fr) (by simp) ?_
  simp (decide := true) [int]
  refine scall_pure (by rfl) (by rfl) (compare_ok a.rank b.rank) (by simp) ?_
  simp (decide := true) [int, inOrder, rowsOf, rowOf, symCells]
  refine scall_pure (by rfl) (by rfl) (or_ok [cmpI a.par b.par, cmpI a.fr b.fr, cmpI a.rank b.rank] (by simp)) (by simp) ?_
  simp (decide := true) [cmpN, int]
theorem order_lays {blk off size : Nat} {w : World} {E : Nat → Prop} (h1 : Seen w E) (hb : E blk) : Go.Proofs.CmpLays Tryd.prog 44 #[] Nt.enc 7 cmpN blk off size w := by
  let d : Dr := ⟨true⟩
  exact @cmpLays_of d _ _ _ _ _ _ _ rfl _ _ nt_enc (fun x y => @order_ok d x y) _ _ _ _ _ h1 hb
end Go.V
