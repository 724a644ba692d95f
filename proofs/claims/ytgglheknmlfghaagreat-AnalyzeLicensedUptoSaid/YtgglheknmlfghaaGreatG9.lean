/- Contracts of chapters 29 and 30: the form of an analysis, and whether it is licensed, by the program. -/
import Derived.Test.YtgglheknmlfghaaGreatG8
set_option linter.unusedSimpArgs false
set_option linter.unusedVariables false
set_option maxRecDepth 10000
namespace Go.V
open Go Go.Proofs

def formA (g : Lang) (ps : List Prt) : List Int × Int :=
  if rightE g ps ≠ 0 then ([], rightE g ps) else if (lastE g.inv g.rules (baseE g.lex ps)).length = 0 then ([], 23) else (lastE g.inv g.rules (baseE g.lex ps), 0)
set_option maxHeartbeats 4000000 in
theorem formA_ok (g : Lang) (hg : LangOk g) (ps : List Prt) (hp : ps.length < 2^20) : PureR Tryz.prog 27 [g.d, anaD ps] (.tup [ints (formA g ps).1, int (formA g ps).2]) := by
  have hR := right29_ok g hg ps hp
  have hB := base_ok g hg.lex ps hp
  have hbl : rightE g ps = 0 → (baseE g.lex ps).length < 2^40 := by
    intro h
    unfold rightE at h
    repeat' split at h
    all_goals first | omega | skip
  have hL := fun h => last_ok g.inv (by have := hg.inv; omega) g.rules hg.rules.1 hg.rules.2 (baseE g.lex ps) (hbl h)
  have hll := lastE_len g.inv g.rules (baseE g.lex ps)
  unfold formA
  generalize rightE g ps = R at hR hL hbl ⊢
  refine pure_of_body mixed Tryz.func27 rfl call_27 ?_
  simp (decide := true) [Tryz.f27, int, Lang.d, anaD, unAgg]
  refine ECall.pure (by rfl) hR (by simp [Lang.d, anaD, unAgg, int]) ?_
  by_cases h0 : R = 0
  · subst h0
    have hL := hL rfl
    have hbl := hbl rfl
    generalize lastE g.inv g.rules (baseE g.lex ps) = v at hL hll ⊢
    simp (decide := true) [int, Lang.d, unAgg]
    refine scall_pure (by rfl) (by rfl) hB (by simp [Lang.d, anaD, unAgg]) ?_
    simp (decide := true) [int, Lang.d, unAgg, ints]
    refine scall_pure (by rfl) (by rfl) hL (by simp [Lang.d, anaD, unAgg, ints]) ?_
    by_cases hv : v.length = 0
    · simp (decide := true) [int, Lang.d, unAgg, ints, hv, List.length_eq_zero_iff.mp hv]
    · have hv' : v ≠ [] := fun h => hv (by rw [h]; rfl)
      simp (decide := true) [int, Lang.d, unAgg, ints, hv, hv']
  · simp (decide := true) [int, ints, h0]
set_option maxHeartbeats 4000000 in
theorem licensed_ok (g : Lang) (hg : LangOk g) (w : List Int) (hw : w.length < 2^40) (ps : List Prt) (hp : ps.length < 2^20) : PureR Tryz.prog 15 [g.d, ints w, anaD ps] (.bool (decide ((formA g ps).2 = 0 ∧ (formA g ps).1 = w))) := by
  have hF := formA_ok g hg ps hp
  have hE := equal_ok (formA g ps).1 w (by omega)
  generalize formA g ps = q at hF hE ⊢
  obtain ⟨v, e⟩ := q
  refine pure_of_body mixed Tryz.func15 rfl call_15 ?_
  simp (decide := true) [Tryz.f15, int, Lang.d, anaD, unAgg]
  refine ECall.pure (by rfl) hF (by simp [Lang.d, anaD, unAgg, int]) ?_
  by_cases h0 : e = 0
  · subst h0
    simp (decide := true) [int, ints]
    refine ECall.pure (by rfl) hE (by simp [ints]) ?_
    simp (decide := true) [int, ints]
  · simp (decide := true) [int, ints, h0]
end Go.V
