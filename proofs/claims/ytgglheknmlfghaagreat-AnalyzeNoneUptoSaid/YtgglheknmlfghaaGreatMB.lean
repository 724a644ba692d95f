/- Contracts and plain laws of this seat: part MB. It needs no conditions. -/
import Derived.Test.YtgglheknmlfghaaGreatMA
import Derived.Test.YtgglheknmlfghaaGreatM6
set_option linter.unusedVariables false
set_option linter.unusedSimpArgs false
set_option linter.unusedSectionVars false
set_option maxRecDepth 100000
namespace Go.V
open Go Go.Proofs
def noFin (g : Lang) : Lang := { g with net := { g.net with final := [] } }
theorem noFin_light {g : Lang} (h : LightF g) : LightF (noFin g) where
  toRightF := { h.toRightF with net := ⟨h.net.lo, h.net.steps, fun q hq => by cases hq⟩ }
  small := h.small
  segs := h.segs
  units := h.units
  few := h.few
  states := h.states
  steps := h.steps
  final := Nat.zero_le _
theorem noFin_caps {g : Lang} (h : LangC g) : LangC (noFin g) := { h with final := Nat.zero_le _ }
theorem walkT_none {g : Lang} {w : List Int} (h : finalS g.net.final = 0) : ∀ (f : Nat) (a : List Prt) (s : Nat) (base : List Int), walkT g w f a s base = []
  | 0, _, _, _ => rfl
  | f + 1, a, s, base => by
    unfold walkT
    refine flatMap_nil' fun e _ => ?_
    split
    · refine flatMap_nil' fun alt _ => ?_
      split
      · rfl
      · rw [if_neg (fun h' => h'.1 (by rw [h]; simp)), walkT_none h f]; rfl
    · rfl
theorem plain_none {g : Lang} (hg : LightF g) (w : List Int) : plainL (noFin g) w = [] := by
  unfold plainL
  split
  · rfl
  · rename_i h
    have h1 := walk_fur (noFin_light hg) (w := w) (by omega) 4 [] rfl (fun p hp => by cases hp)
    rw [walkT_none (by rfl)] at h1
    exact List.map_eq_nil_iff.1 h1.symm
set_option maxHeartbeats 8000000 in
theorem law_none (g : Lang) (hg : LangC g) (w : List Int) (hw : w.length ≤ 1048576) (id : Int) : PureR Tryz.prog 10 [g.d, ints w, int id] (.bool true) := by
  refine pure_of_body mixed Tryz.func10 rfl call_10 ?_
  by_cases c1 : (30 : Int) < w.length
  · simp (decide := true) [Tryz.f10, int, ints, c1]
    refine ECall.pure (by rfl) awake_R (by simp) ?_
    simp (decide := true)
  simp (decide := true) [Tryz.f10, int, ints, Lang.d, unAgg, c1]
  refine ECall.some (by rfl) (light29_ok g hg) ?_
  rintro r ⟨b, rfl, hL⟩
  cases b with
  | false =>
    simp (decide := true) [int]
    refine ECall.pure (by rfl) awake_R (by simp) ?_
    simp (decide := true)
  | true =>
    have hL := hL rfl
    have hl2 := noFin_light hL
    have hc2 := noFin_caps hg
    have hpl := plain_none hL w
    have h1 := all30_ok (noFin g) hl2 hc2 w (by omega)
    have h2 := bases30_ok (noFin g) hl2 hc2 w (by omega)
    have h3 := uses30_ok (noFin g) hl2 hc2 w (by omega) id
    have e1 : (allE (noFin g) w).1 = [] := by
      unfold allE gathE; rw [hpl]; simp [sF]; split <;> rfl
    have e2 : (allE (noFin g) w).2 ≠ 11 := by
      have hw11 : wordC (noFin g).inv w ≠ 11 := by
        unfold wordC; split
        · decide
        · split
          · decide
          · split <;> decide
      unfold allE gathE; rw [hpl]; simp [sF]
      split
      · decide
      · exact hw11
    have e3 : basesE (noFin g) w = [] := by unfold basesE; rw [hpl]; rfl
    have e4 : usesE (noFin g) w id = false := by unfold usesE; rw [hpl]; rfl
    rw [e1] at h1; rw [e3] at h2; rw [e4] at h3
    generalize (allE (noFin g) w).2 = e at h1 e2
    simp (decide := true) [int, ints]
    refine ECall.pure (by rfl) h1 (by simp [anasD, int, D.scalar]) ?_
    simp (decide := true) [int, anasD, e2]
    refine ECall.pure (by rfl) h2 (by simp [listsD, int, D.scalar]) ?_
    simp (decide := true) [int, anasD, e2, listsD]
    refine ECall.pure (by rfl) h3 (by simp [D.scalar]) ?_
    simp (decide := true) [int, anasD, e2, listsD]
    refine ECall.pure (by rfl) awake_R (by simp) ?_
    simp (decide := true) [int]
theorem law_noneU (g : Lang) (c0 : CapT 1048576 g.d) (w : List Int) (c1 : CapT 1048576 (ints w)) (id : Int) (c2 : CapT 1048576 (int id)) : PureR Tryz.prog 10 [g.d, ints w, int id] (.bool true) :=
  law_none g (lang_caps c0) w (ints_cap c1) id
end Go.V
