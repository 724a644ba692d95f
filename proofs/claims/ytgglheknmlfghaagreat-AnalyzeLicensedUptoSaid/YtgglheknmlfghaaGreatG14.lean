/- Contracts of chapters 23 and 29: run and Accepts, Right of the reference. -/
import Derived.Test.YtgglheknmlfghaaGreatG13
set_option linter.unusedSimpArgs false
set_option linter.unusedVariables false
set_option maxRecDepth 10000
namespace Go.V
open Go Go.Proofs

set_option maxHeartbeats 4000000 in
theorem refRun23_ok (n : Nett) (hn : NetL n) (l : List Int) (hl : l.length < 2^40) : PureR Tryz.prog 158 [.agg n.cells, ints l] (boolsD (bls n.states.toNat (runS n.steps l))) := by
  have h1 := hn.lo
  have h3 := hn.hi
  have hS := set23_ok n hn [0] (by intro q hq; rw [List.mem_singleton] at hq; omega) (by decide)
  have h0 : finalS [0] = 1 := by decide
  rw [h0] at hS
  refine pure_of_body mixed Tryz.func158 rfl call_158 ?_
  simp (decide := true) [Tryz.f158, Nett.cells, int, ints, boolsD]
  refine ecall_frz (by rfl) hS (by simp) ?_
  simp (decide := true) [int, ints, boolsD, Nett.cells]
  refine loop_rule mixed (fun k : Nat => { n := 32, next := 1, slots := [(1, .d (ints l)), (2, .bp 0 0), (5, .d (boolsD (bls n.states.toNat (runS n.steps (l.take k))))), (6, .d (int k))], own := [(0, .box 33 (n.cells.map .d))], moved := [] })
    (fun k => k ≤ l.length) (fun k => l.length - k) 0 (by simp) (by simp (decide := true) [int, ints, runS, boolsD, Nett.cells]) ?_
  intro k hk
  by_cases hlt : k < l.length
  case neg =>
    have : k = l.length := by omega
    subst this
    rw [List.take_length]
    simp (decide := true) [int, ints, boolsD, Nett.cells]
  have hlt' : (k : Int) < l.length := by omega
  have hsn : runS n.steps (l.take (k + 1)) = afterS n.steps (runS n.steps (l.take k)) l[k] := by unfold runS; rw [take_snocG hlt, List.foldl_append]; rfl
  have hlow := fun h => runS_low hn hlt h
  obtain ⟨c, ec⟩ : ∃ c, l[k] = c := ⟨_, rfl⟩
  have e1 : l[k]? = some c := by rw [List.getElem?_eq_getElem hlt, ec]
  rw [ec] at hsn hlow
  have hA := after23_ok n hn (runS n.steps (l.take k)) c
  by_cases hc : c < 1
  · rw [hlow hc]
    simp (decide := true) [int, ints, hlt, hlt', e1, ec, hc, boolsD, Nett.cells, bls_zero]
    exact ⟨by omega, by omega, by unfold maxLen; omega⟩
  · rw [afterS_eq hn _ (by omega), ← hsn] at hA
    simp (decide := true) [int, ints, hlt, hlt', e1, ec, hc, boolsD, Nett.cells]
    refine scall_pure (by rfl) (by rfl) hA (by simp [int, ints, boolsD, Nett.cells]) ?_
    simp (decide := true) [int, ints, boolsD, Nett.cells]
    exact ⟨⟨by omega, by omega⟩, k + 1, hlt, by omega, rfl, by simp⟩
theorem bothS_and : ∀ (S : Fin 4) (a b : Fin 8), a.val < 2^S.val → bothS S.val a.val b.val = decide (a.val &&& b.val ≠ 0) := by decide +kernel
theorem and_comm8 : ∀ (a b : Fin 8), decide (a.val &&& b.val ≠ 0) = decide (b.val &&& a.val ≠ 0) := by decide +kernel
set_option maxHeartbeats 4000000 in
theorem refAccepts_ok (n : Nett) (hn : NetL n) (cs : List Int) (hc : cs.length < 2^40) : PureR Tryz.prog 128 [.agg n.cells, ints cs] (.bool (acceptsS n cs)) := by
  have h1 := hn.lo
  have h3 := hn.hi
  have hR := refRun23_ok n hn cs hc
  have hS := set23_ok n hn n.final hn.final hn.few2
  have hB := both23_ok n.states.toNat (runS n.steps cs) (finalS n.final) (by omega)
  have hlt := runS_lt2 hn cs
  have hlt8 : runS n.steps cs < 8 := Nat.lt_of_lt_of_le hlt (Nat.pow_le_pow_right (by omega) (show n.states.toNat ≤ 3 by omega))
  have hf8 := finalS_lt n.final 0 (fun q hq => hn.ok.2.1 q hq) (by omega)
  have heq : bothS n.states.toNat (runS n.steps cs) (finalS n.final) = acceptsS n cs := by
    unfold acceptsS
    exact bothS_and ⟨n.states.toNat, by omega⟩ ⟨_, hlt8⟩ ⟨_, hf8⟩ hlt
  rw [heq] at hB
  refine pure_of_body mixed Tryz.func128 rfl call_128 ?_
  simp (decide := true) [Tryz.f128, Nett.cells, int, ints]
  refine scall_pure (by rfl) (by rfl) hR (by simp [Nett.cells, int, ints]) ?_
  simp (decide := true) [int, ints, boolsD, Nett.cells]
  refine scall_pure (by rfl) (by rfl) hS (by simp [Nett.cells, int, ints]) ?_
  simp (decide := true) [int, ints, boolsD, Nett.cells]
  refine scall_pure (by rfl) (by rfl) hB (by simp [Nett.cells, int, ints, boolsD]) ?_
  simp (decide := true) [int, ints, boolsD, Nett.cells]
/-- A light language. -/
structure LangL (g : Lang) : Prop extends LangOk g where
  light : NetL g.net
set_option maxHeartbeats 8000000 in
theorem refRight29_ok (g : Lang) (hg : LangL g) (ps : List Prt) (hp : ps.length < 2^20) : PureR Tryz.prog 81 [g.d, anaD ps] (int (rightE g ps)) := by
  refine pure_of_body mixed Tryz.func81 rfl call_81 ?_
  obtain ⟨R, hR⟩ : ∃ R, rightE g ps = R := ⟨_, rfl⟩
  rw [hR]
  unfold rightE at hR
  by_cases h0 : ps.length = 0
  · rw [if_pos h0] at hR
    subst hR
    simp (decide := true) [Tryz.f81, Lang.d, anaD, partsD, int, h0]
    done
  rw [if_neg h0] at hR
  by_cases h4 : 4 < ps.length
  · rw [if_pos h4] at hR
    subst hR
    have h4' : (4 : Int) < ps.length := by omega
    have h0' : ¬ (ps.length : Int) = 0 := by omega
    simp (decide := true) [Tryz.f81, Lang.d, anaD, partsD, int, h0, h0', h4, h4']
    done
  rw [if_neg h4] at hR
  have h4' : ¬ (4 : Int) < ps.length := by omega
  have h0' : ¬ (ps.length : Int) = 0 := by omega
  simp (decide := true) [Tryz.f81, Lang.d, anaD, partsD, int, h0, h0', h4, h4']
  refine loop_rule mixed (fun k : Nat => { n := 44, next := 2, slots := [(2, .bp 0 0), (3, .bp 1 0), (5, .d (int k))], own := [(0, .box 36 (unAgg g.d)), (1, .box 39 [.d (partsD ps)])], moved := [] })
    (fun k => k ≤ ps.length ∧ partsE g.lex (ps.drop k) = partsE g.lex ps) (fun k => ps.length - k) 0 (by simp) (by simp (decide := true) [int, partsD, unAgg, Lang.d]) ?_
  intro k ⟨hk, hpe⟩
  by_cases hlt : k < ps.length
  case neg =>
    have : k = ps.length := by omega
    subst this
    rw [List.drop_length] at hpe
    rw [← hpe] at hR
    have hz : partsE g.lex [] = 0 := rfl
    rw [hz, if_neg (by simp)] at hR
    have hC := refClasses_ok g hg.lex ps hp
    have hB := refBase_ok g hg.lex ps hp
    have hcl := classesE_len g.lex ps
    have hA := refAccepts_ok g.net hg.light (classesE g.lex ps) (by omega)
    have hbl := baseE_len hg.lex ps
    simp (decide := true) [int, partsD, unAgg, Lang.d]
    refine scall_pure (by rfl) (by rfl) hC (by simp [int]) ?_
    simp (decide := true) [int, partsD, unAgg, Lang.d]
    refine scall_pure (by rfl) (by rfl) hA (by simp [int]) ?_
    cases hac : acceptsS g.net (classesE g.lex ps) with
    | false =>
      rw [if_pos hac] at hR
      subst hR
      simp (decide := true) [int]
    | true =>
      rw [if_neg (by rw [hac]; decide)] at hR
      simp (decide := true) [int]
      refine ECall.pure (by rfl) hB (by simp [int]) ?_
      by_cases hb : 24 < (baseE g.lex ps).length
      · rw [if_pos hb] at hR
        subst hR
        have hb' : (24 : Int) < (baseE g.lex ps).length := by omega
        simp (decide := true) [int, ints, hb, hb']
      · rw [if_neg hb] at hR
        subst hR
        have hb' : ¬ (24 : Int) < (baseE g.lex ps).length := by omega
        simp (decide := true) [int, ints, hb, hb']
  have hlt' : (k : Int) < ps.length := by omega
  have hsn := partsE_drop (l := g.lex) hlt
  rw [hpe] at hsn
  obtain ⟨p, ep⟩ : ∃ p, ps[k] = p := ⟨_, rfl⟩
  have e1 : ps[k]? = some p := by rw [List.getElem?_eq_getElem hlt, ep]
  rw [ep] at hsn
  have hP := part29_ok g hg.lex p
  generalize partE g.lex p = r at hP hsn
  simp (decide := true) [int, partsD, Prt.row, hlt, hlt', e1, ep, I64, unAgg, Lang.d]
  refine scall_pure (by rfl) (by rfl) hP (by simp [int, Lang.d, Prt.row]) ?_
  by_cases hr : r = 0
  · rw [if_pos hr] at hsn
    subst hr
    simp (decide := true) [int, partsD, Prt.row, I64, unAgg, Lang.d]
    exact ⟨⟨by omega, by omega⟩, k + 1, ⟨hlt, hsn.symm⟩, by omega, by simp⟩
  · rw [if_neg hr] at hsn
    have : R = r := by rw [← hR, hsn, if_pos hr]
    subst this
    simp (decide := true) [int, partsD, Prt.row, I64, unAgg, Lang.d, hr]
end Go.V
