/- Contracts of chapter 29: Classes and Base of the reference. -/
import Derived.Test.YtgglheknmlfghaaGreatG10
set_option linter.unusedSimpArgs false
set_option linter.unusedVariables false
set_option maxRecDepth 10000
namespace Go.V
open Go Go.Proofs

theorem formE_of (l : List Ent) (p : Prt) : formE l p = if (getE l p.entry).2 = true ∧ (0 ≤ p.alt ∧ p.alt < (getE l p.entry).1.forms.length) then ((getE l p.entry).1, ((getE l p.entry).1.forms[p.alt.toNat]?.getD []), true) else ((getE l p.entry).1, [], false) := rfl
theorem fseg_cons {P : Program} {all : List Oper} {n0 : Nat} {vl : List Nat} {K : St → List FK → List (Nat × Obj') → Prop} {o : Oper} {r : List Oper} {st : St} {ks : List FK} {hs : List (Nat × Obj')} :
    fseg P all n0 vl K (o :: r) st ks hs = (xdst o.dst st.n = true ∧ fop P all n0 vl o st hs (fun k hs' => fseg P all n0 vl K r (st.put o.dst k.sym) (k :: ks) hs')) := rfl
set_option maxHeartbeats 4000000 in
theorem refClasses_ok (g : Lang) (hg : LexFit g.lex) (ps : List Prt) (hp : ps.length < 2^20) : PureR Tryz.prog 129 [g.d, anaD ps] (ints (classesE g.lex ps)) := by
  refine pure_of_body mixed Tryz.func129 rfl call_129 ?_
  simp (decide := true) [Tryz.f129, Lang.d, anaD, partsD, int]
  refine loop_rule mixed (fun k : Nat => { n := 45, next := 4, slots := [(2, .bp 0 0), (3, .bp 1 0), (5, .ar 3), (6, .d (int k))], own := [(0, .box 36 (unAgg g.d)), (1, .box 39 [.d (partsD ps)]), (3, .arr 3 1 ((classesE g.lex (ps.take k)).map fun n => [int n]))], moved := [3] })
    (fun k => k ≤ ps.length) (fun k => ps.length - k) 0 (by simp) (by simp (decide := true) [int, partsD, classesE, unAgg, Lang.d]) ?_
  intro k hk
  by_cases hlt : k < ps.length
  case neg =>
    have : k = ps.length := by omega
    subst this
    rw [List.take_length]
    simp (decide := true) [int, ints, partsD]
  have hlt' : (k : Int) < ps.length := by omega
  have hsn := classesE_snoc (l := g.lex) hlt
  have hlen := classesE_len g.lex (ps.take k)
  rw [List.length_take] at hlen
  obtain ⟨p, ep⟩ : ∃ p, ps[k] = p := ⟨_, rfl⟩
  have e1 : ps[k]? = some p := by rw [List.getElem?_eq_getElem hlt, ep]
  rw [ep, formE_of] at hsn
  have hG := get25_ok g.lex p.entry (by have := hg.len; omega)
  have hA := getE_alts hg p.entry
  generalize getE g.lex p.entry = r at hG hA hsn
  obtain ⟨e, ok⟩ := r
  simp only at hG hA hsn
  have hF := refForm_ok e hA p.alt
  simp (decide := true) [int, partsD, Prt.row, hlt, hlt', e1, ep, I64, unAgg, Lang.d]
  refine draw_f mixed 15 [] (by rfl) (by rfl) (by rfl) (by rfl) ?_
  dsimp only [List.take]
  iterate 8 (rw [fseg_cons]; simp (decide := true) [-fseg, int, partsD, Prt.row, hlt, hlt', e1, ep, I64, unAgg, Lang.d])
  rw [fseg_cons]
  simp (decide := true) [-fseg, int, partsD, Prt.row, hlt, hlt', e1, ep, I64, unAgg, Lang.d]
  refine scall_pure (by rfl) (by rfl) hG (by simp [lexD, int]) ?_
  simp (decide := true) [-fseg, int]
  iterate 6 (rw [fseg_cons]; simp (decide := true) [-fseg, int, Ent.row])
  refine ⟨by rfl, ?_⟩
  cases ok with
  | false =>
    simp only [Bool.false_eq_true, false_and, if_false, List.append_nil] at hsn
    simp (decide := true) [int, ints, Ent.row, partsD, Prt.row, I64, unAgg, Lang.d]
    exact ⟨⟨by omega, by omega⟩, k + 1, hlt, by omega, by omega, by rw [hsn]⟩
  | true =>
    simp (decide := true) [int, ints, Ent.row, partsD, Prt.row, hlt, hlt', e1, ep, I64, unAgg, Lang.d]
    refine scall_pure (by rfl) (by rfl) hF (by simp [Ent.row, int, ints]) ?_
    by_cases hf : 0 ≤ p.alt ∧ p.alt < e.forms.length
    · simp only [true_and, hf, and_self, if_true] at hsn
      simp (decide := true) [int, ints, Ent.row, partsD, Prt.row, I64, unAgg, Lang.d, hf]
      exact ⟨by omega, by unfold maxLen; omega, ⟨by omega, by omega⟩, k + 1, hlt, by omega, by omega, by rw [hsn]; simp⟩
    · simp only [true_and, hf, Bool.false_eq_true, if_false, List.append_nil] at hsn
      simp (decide := true) [int, ints, Ent.row, partsD, Prt.row, I64, unAgg, Lang.d, hf]
      exact ⟨⟨by omega, by omega⟩, k + 1, hlt, by omega, by omega, by rw [hsn]⟩
end Go.V
