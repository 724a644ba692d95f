/- Contract of chapter 29: Base of the reference. -/
import Derived.Test.YtgglheknmlfghaaGreatG11
set_option linter.unusedSimpArgs false
set_option linter.unusedVariables false
set_option maxRecDepth 10000
namespace Go.V
open Go Go.Proofs

theorem refFormsR_ok (e : Ent) (h : e.alts.length < 2^40) : PureR Tryz.prog 89 [.agg e.row] (listsD e.forms) := by
  refine pure_of_body mixed Tryz.func89 rfl call_89 ?_
  simp [Tryz.f89, Ent.row, listsD, ints, Ent.forms, maxLen]
  omega
set_option maxHeartbeats 4000000 in
theorem refBase_ok (g : Lang) (hg : LexFit g.lex) (ps : List Prt) (hp : ps.length < 2^20) : PureR Tryz.prog 46 [g.d, anaD ps] (ints (baseE g.lex ps)) := by
  refine pure_of_body mixed Tryz.func46 rfl call_46 ?_
  simp (decide := true) [Tryz.f46, Lang.d, anaD, partsD, int]
  refine loop_rule mixed (fun k : Nat => { n := 52, next := 4, slots := [(2, .bp 0 0), (3, .bp 1 0), (5, .ar 3), (6, .d (int k))], own := [(0, .box 36 (unAgg g.d)), (1, .box 39 [.d (partsD ps)]), (3, .arr 3 1 ((baseE g.lex (ps.take k)).map fun n => [int n]))], moved := [3] })
    (fun k => k ≤ ps.length) (fun k => ps.length - k) 0 (by simp) (by simp (decide := true) [int, partsD, baseE, unAgg, Lang.d]) ?_
  intro k hk
  by_cases hlt : k < ps.length
  case neg =>
    have : k = ps.length := by omega
    subst this
    rw [List.take_length]
    simp (decide := true) [int, ints, partsD]
  have hlt' : (k : Int) < ps.length := by omega
  have hsn := baseE_snoc (l := g.lex) hlt
  have hlen := baseE_len hg (ps.take k)
  rw [List.length_take] at hlen
  obtain ⟨p, ep⟩ : ∃ p, ps[k] = p := ⟨_, rfl⟩
  have e1 : ps[k]? = some p := by rw [List.getElem?_eq_getElem hlt, ep]
  rw [ep, formE_of] at hsn
  have hG := get25_ok g.lex p.entry (by have := hg.len; omega)
  have hA := getE_alts hg p.entry
  have hwl : (0 ≤ p.alt ∧ p.alt < (getE g.lex p.entry).1.forms.length) → ((getE g.lex p.entry).1.forms[p.alt.toNat]?.getD []).length < 2^20 := by
    intro h
    by_cases hb : (getE g.lex p.entry).2 = true
    · have := formE_len hg p
      unfold formE at this
      rw [if_pos ⟨hb, h⟩] at this
      exact this
    · rcases findE_get g.lex p.entry with ⟨_, h2⟩ | ⟨j, hj, _, h2⟩
      · rw [h2] at h ⊢
        have h0 : p.alt = 0 := by have := h.2; simp [Ent.zero, Ent.forms] at this; omega
        rw [h0]; decide
      · rw [h2] at hb; exact absurd rfl hb
  generalize getE g.lex p.entry = r at hG hA hsn hwl
  obtain ⟨e, ok⟩ := r
  simp only at hG hA hsn hwl
  have hF := refForm_ok e hA p.alt
  have hL := refFormsR_ok e (by omega)
  simp (decide := true) [int, partsD, Prt.row, hlt, hlt', e1, ep, I64, unAgg, Lang.d]
  refine draw_f mixed 15 [] (by rfl) (by rfl) (by rfl) (by rfl) ?_
  dsimp only [List.take]
  iterate 8 (rw [fseg_cons]; simp (decide := true) [-fseg, int, partsD, Prt.row, hlt, hlt', e1, ep, I64, unAgg, Lang.d])
  rw [fseg_cons]
  simp (decide := true) [-fseg, int, partsD, Prt.row, hlt, hlt', e1, ep, I64, unAgg, Lang.d]
  refine scall_pure (by rfl) (by rfl) hG (by simp [lexD, int]) ?_
  simp (decide := true) [-fseg, int]
  iterate 6 (rw [fseg_cons]; simp (decide := true) [-fseg, int, Ent.row])
  refine ⟨by rfl, ?_⟩
  cases ok with
  | false =>
    simp only [Bool.false_eq_true, false_and, if_false, List.append_nil] at hsn
    simp (decide := true) [int, ints, Ent.row, partsD, Prt.row, I64, unAgg, Lang.d]
    exact ⟨⟨by omega, by omega⟩, k + 1, hlt, by omega, by omega, by rw [hsn]⟩
  | true =>
    simp (decide := true) [int, ints, Ent.row, partsD, Prt.row, hlt, hlt', e1, ep, I64, unAgg, Lang.d]
    refine scall_pure (by rfl) (by rfl) hF (by simp [Ent.row, int, ints]) ?_
    by_cases hf : 0 ≤ p.alt ∧ p.alt < e.forms.length
    · simp only [true_and, hf, and_self, if_true] at hsn
      have h0 : p.alt.toNat < e.forms.length := by omega
      obtain ⟨w, ew⟩ : ∃ w, e.forms[p.alt.toNat] = w := ⟨_, rfl⟩
      have ew' : e.forms[p.alt.toNat]? = some w := by rw [List.getElem?_eq_getElem h0, ew]
      rw [ew', Option.getD_some] at hsn hwl
      have hwl := hwl hf
      simp (decide := true) [int, ints, Ent.row, partsD, Prt.row, I64, unAgg, Lang.d, hf]
      refine draw_t mixed 11 (by rfl) (by rfl) (by rfl) (by rfl) (by simp) ?_
      simp (decide := true) [int, ints, Ent.row, partsD, Prt.row, hlt, hlt', e1, ep, I64, unAgg, Lang.d, hf]
      refine scall_pure (by rfl) (by rfl) hL (by simp [Ent.row, int, ints]) ?_
      simp (decide := true) [int, ints, Ent.row, partsD, Prt.row, hlt, hlt', e1, ep, I64, unAgg, Lang.d, hf, listsD, ew', ew, h0]
      exact ⟨by omega, by unfold maxLen; omega, ⟨by omega, by omega⟩, k + 1, hlt, by omega, by omega, by rw [hsn]; simp⟩
    · simp only [true_and, hf, Bool.false_eq_true, if_false, List.append_nil] at hsn
      simp (decide := true) [int, ints, Ent.row, partsD, Prt.row, I64, unAgg, Lang.d, hf]
      exact ⟨⟨by omega, by omega⟩, k + 1, hlt, by omega, by omega, by rw [hsn]⟩
end Go.V
