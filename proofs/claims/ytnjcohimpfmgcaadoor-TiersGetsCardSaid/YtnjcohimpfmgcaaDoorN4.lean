/- Contracts: documents held against each other; the laws on Get and on Same. -/
import Derived.Test.YtnjcohimpfmgcaaDoorN3
import Derived.Test.YtnjcohimpfmgcaaDoorK0
set_option linter.unusedSimpArgs false
set_option linter.unusedVariables false
set_option maxRecDepth 10000
namespace Go.V
open Go Go.Proofs

theorem dc_eq {a b : Dc} : a = b ↔ a.id = b.id ∧ a.name = b.name ∧ a.len = b.len ∧ a.day = b.day ∧ a.spk = b.spk ∧ a.tiers = b.tiers ∧ a.notes = b.notes := by cases a; cases b; simp
abbrev recCells (d : Dc) : List Sym := [.d (int d.id), .d (.str d.name), .d (int d.len), .d (int d.day), .d (ints d.spk)]
set_option maxHeartbeats 1000000 in
theorem same_ok (a b : Dc) (hb : b.fit) : PureR Tryd.prog 28 [docD a, docD b] (.bool (decide (a = b))) := by
  obtain ⟨f1, f2, f3⟩ := hb
  refine pure_of_body mixed Tryd.func28 rfl call_28 ?_
  simp (decide := true) [Tryd.f28, docD, Dc.row]
  refine ECall.pure (by rfl) (eqInts_ok a.spk b.spk (by omega)) (by simp) ?_
  by_cases h1 : a.spk = b.spk
  case neg => simp (decide := true) [h1, dc_eq]
  simp (decide := true) [h1]
  refine ECall.pure (by rfl) (eqTiers_ok a.tiers b.tiers (by omega)) (by simp) ?_
  by_cases h2 : a.tiers = b.tiers
  case neg => simp (decide := true) [h2, dc_eq]
  simp (decide := true) [h2]
  refine ECall.pure (by rfl) (eqNotes_ok a.notes b.notes (by omega)) (by simp) ?_
  by_cases h3 : a.notes = b.notes
  case neg => simp (decide := true) [h3, dc_eq]
  simp (decide := true) [h3]
  refine draw_x mixed (mkG_good can_all) no_call [2, 3, 5, 6] (st' := { n := 61, next := 4, slots := [(2, .bp 0 0), (3, .bp 1 0), (5, .bp 2 0), (6, .bp 3 0)], own := [(2, .box 28 [.d (int a.id), .d (.str a.name), .d (int a.len), .d (int a.day), .d (ints b.spk)]), (3, .box 28 (recCells b)), (1, .box 32 (docCells b)), (0, .box 32 [.d (int a.id), .d (.str a.name), .d (int a.len), .d (int a.day), .d (ints b.spk), .d (tiersD b.tiers), .d (notesD b.notes)])] }) (by kernel_rfl) ?_
  by_cases h4 : a.id = b.id
  case neg => simp (decide := true) [int, h4, dc_eq]
  by_cases h5 : a.name = b.name
  case neg => simp (decide := true) [int, h4, h5, dc_eq]
  by_cases h6 : a.len = b.len
  case neg => simp (decide := true) [int, h4, h5, h6, dc_eq]
  simp (decide := true) [int, h1, h2, h3, h4, h5, h6, dc_eq]
set_option maxHeartbeats 2000000 in
theorem refSame_ok (a b : Dc) (hb : b.fit) : PureR Tryd.prog 29 [docD a, docD b] (.bool (decide (a = b))) := by
  obtain ⟨f1, f2, f3⟩ := hb
  refine pure_of_body mixed Tryd.func29 rfl call_29 ?_
  simp (decide := true) [Tryd.f29, docD, Dc.row]
  refine draw_x mixed (mkG_good can_all) no_call [2, 3, 4, 5, 6] (st' := { n := 99, next := 4, slots := [(2, .bp 0 0), (3, .bp 1 0), (4, .d (.bool false)), (5, .bp 2 0), (6, .bp 3 0)], own := [(2, .box 28 (recCells a)), (3, .box 28 (recCells b)), (1, .box 32 (docCells b)), (0, .box 32 (docCells a))] }) (by kernel_rfl) ?_
  by_cases h4 : a.id = b.id
  case neg => simp (decide := true) [int, h4, dc_eq]
  by_cases h5 : a.name = b.name
  case neg => simp (decide := true) [int, h4, h5, dc_eq]
  by_cases h6 : a.len = b.len
  case neg => simp (decide := true) [int, h4, h5, h6, dc_eq]
  by_cases h7 : a.day = b.day
  case neg => simp (decide := true) [int, h4, h5, h6, h7, dc_eq]
  simp (decide := true) [int, h4, h5, h6, h7]
  refine ECall.pure (by rfl) (ints_ok a.spk b.spk (by omega)) (by simp) ?_
  by_cases h1 : a.spk = b.spk
  case neg => simp (decide := true) [h1, dc_eq]
  by_cases l2 : a.tiers.length = b.tiers.length
  case neg =>
    have : ¬ a.tiers = b.tiers := fun e => l2 (by rw [e])
    have l2' : ¬ (a.tiers.length : Int) = b.tiers.length := by omega
    simp (decide := true) [h1, dc_eq, this, l2, l2', int, tiersD, notesD]
  by_cases l3 : a.notes.length = b.notes.length
  case neg =>
    have : ¬ a.notes = b.notes := fun e => l3 (by rw [e])
    have l3' : ¬ (a.notes.length : Int) = b.notes.length := by omega
    simp (decide := true) [h1, dc_eq, this, l2, l3, l3', int, tiersD, notesD]
  simp (decide := true) [h1, l2, l3, int, tiersD, notesD]
  refine loop_rule mixed (fun k : Nat => { n := 99, next := 2, slots := [(2, .bp 0 0), (3, .bp 1 0), (7, .d (.int .i64 k))], own := [(0, .box 32 (docCells a)), (1, .box 32 (docCells b))] })
    (fun k => k ≤ a.tiers.length ∧ a.tiers.take k = b.tiers.take k) (fun k => a.tiers.length - k) 0 (by simp) (by simp (decide := true) [tiersD, notesD, h1, int]) ?_
  intro k ⟨hk, hp⟩
  by_cases hlt : k < a.tiers.length
  · have e1 : a.tiers[k]? = some a.tiers[k] := List.getElem?_eq_getElem hlt
    have e2 : b.tiers[k]? = some (b.tiers[k]'(by omega)) := List.getElem?_eq_getElem (by omega)
    have hlt' : k < b.tiers.length := by omega
    simp (decide := true) [tiersD, Tir.row, int, e1, e2, hlt, hlt', I64]
    refine ⟨fun hne e => ?_, fun g1 g2 g3 g4 => ⟨by omega, k + 1, ⟨hlt, ?_⟩, by omega, by omega⟩⟩
    · rw [dc_eq] at e
      obtain ⟨_, _, _, _, _, e, _⟩ := e
      simp [e] at hne
    · have he : a.tiers[k] = b.tiers[k] := by
        rcases hA : a.tiers[k] with ⟨x1, x2, x3, x4⟩
        rcases hB : b.tiers[k] with ⟨y1, y2, y3, y4⟩
        rw [hA, hB] at g1 g2 g3 g4
        simp only at g1 g2 g3 g4
        rw [g1, g2, g3, g4]
      rw [take_snoc' hlt, take_snoc' hlt', hp, he]
  · have : k = a.tiers.length := by omega
    subst this
    have ht : a.tiers = b.tiers := by rw [List.take_length, l2, List.take_length] at hp; exact hp
    simp (decide := true) [tiersD, notesD]
    refine loop_rule mixed (fun k : Nat => { n := 99, next := 2, slots := [(2, .bp 0 0), (3, .bp 1 0), (8, .d (.int .i64 k))], own := [(0, .box 32 (docCells a)), (1, .box 32 (docCells b))] })
      (fun k => k ≤ a.notes.length ∧ a.notes.take k = b.notes.take k) (fun k => a.notes.length - k) 0 (by simp) (by simp (decide := true) [tiersD, notesD, h1, int]) ?_
    intro k ⟨hk, hp⟩
    by_cases hlt : k < a.notes.length
    · have e1 : a.notes[k]? = some a.notes[k] := List.getElem?_eq_getElem hlt
      have e2 : b.notes[k]? = some (b.notes[k]'(by omega)) := List.getElem?_eq_getElem (by omega)
      have hlt' : k < b.notes.length := by omega
      simp (decide := true) [notesD, Nt.row, int, e1, e2, hlt, hlt', I64]
      refine ⟨fun hne e => ?_, fun g1 g2 g3 g4 g5 g6 g7 => ⟨by omega, k + 1, ⟨hlt, ?_⟩, by omega, by omega⟩⟩
      · rw [dc_eq] at e
        obtain ⟨_, _, _, _, _, _, e⟩ := e
        simp [e] at hne
      · have he : a.notes[k] = b.notes[k] := by
          rcases hA : a.notes[k] with ⟨x1, x2, x3, x4, x5, x6, x7⟩
          rcases hB : b.notes[k] with ⟨y1, y2, y3, y4, y5, y6, y7⟩
          rw [hA, hB] at g1 g2 g3 g4 g5 g6 g7
          simp only at g1 g2 g3 g4 g5 g6 g7
          rw [g1, g2, g3, g4, g5, g6, g7]
        rw [take_snoc' hlt, take_snoc' hlt', hp, he]
    · have : k = a.notes.length := by omega
      subst this
      have hn : a.notes = b.notes := by rw [List.take_length, l3, List.take_length] at hp; exact hp
      simp (decide := true) [notesD, dc_eq, h1, h4, h5, h6, h7, ht, hn]
end Go.V
