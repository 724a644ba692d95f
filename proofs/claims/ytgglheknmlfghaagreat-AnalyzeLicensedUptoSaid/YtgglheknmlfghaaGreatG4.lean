/- Contracts of chapter 29: the form of a part, the classes and the base of an analysis, by the program. -/
import Derived.Test.YtgglheknmlfghaaGreatG3
set_option linter.unusedSimpArgs false
set_option linter.unusedVariables false
set_option maxRecDepth 10000
namespace Go.V
open Go Go.Proofs

/-- A language whose lists are not too long. -/
structure LexFit (l : List Ent) : Prop where
  len : l.length < 2^40
  alts : ∀ e ∈ l, e.alts.length < 2^39
  form : ∀ e ∈ l, ∀ w ∈ e.forms, w.length < 2^20
  senses : ∀ e ∈ l, e.senses.length < 2^40
theorem getE_mem {l : List Ent} {id : Int} (h : (getE l id).2 = true) : (getE l id).1 ∈ l := by
  rcases findE_get l id with ⟨_, h2⟩ | ⟨j, hj, _, h2⟩
  · rw [h2] at h; cases h
  · rw [h2]; exact List.getElem_mem hj
theorem getE_alts {l : List Ent} (h : LexFit l) (id : Int) : (getE l id).1.alts.length < 2^39 := by
  cases hb : (getE l id).2 with
  | true => exact h.alts _ (getE_mem hb)
  | false =>
    rcases findE_get l id with ⟨_, h2⟩ | ⟨j, hj, _, h2⟩
    · rw [h2]; simp [Ent.zero]
    · rw [h2] at hb; cases hb
theorem formsR_ok (e : Ent) (h : e.alts.length < 2^40) : PureR Tryz.prog 104 [.agg e.row] (listsD e.forms) := by
  refine pure_of_body mixed Tryz.func104 rfl call_104 ?_
  simp [Tryz.f104, Ent.row, listsD, ints, Ent.forms, maxLen]
  omega
def unAgg : D → List Sym
  | .agg l => l.map .d
  | _ => []
/-- The entry and the form of a part. -/
def formE (l : List Ent) (p : Prt) : Ent × List Int × Bool :=
  if (getE l p.entry).2 = true ∧ 0 ≤ p.alt ∧ p.alt < (getE l p.entry).1.forms.length then ((getE l p.entry).1, ((getE l p.entry).1.forms[p.alt.toNat]?.getD []), true) else ((getE l p.entry).1, [], false)
def formD (r : Ent × List Int × Bool) : D := .tup [.agg r.1.row, ints r.2.1, .bool r.2.2]
set_option maxHeartbeats 4000000 in
theorem form_ok (g : Lang) (hg : LexFit g.lex) (p : Prt) : PureR Tryz.prog 63 [g.d, .agg p.row] (formD (formE g.lex p)) := by
  have hG := lexGet_ok g.lex p.entry hg.len
  have hA := getE_alts hg p.entry
  unfold formE
  generalize getE g.lex p.entry = r at hG hA
  obtain ⟨e, ok⟩ := r
  simp only at hG hA
  have hF := formsR_ok e (by omega)
  have hfl : e.forms.length = e.alts.length + 1 := by simp [Ent.forms]
  refine pure_of_body mixed Tryz.func63 rfl call_63 ?_
  simp (decide := true) [Tryz.f63, Lang.d, Prt.row, int]
  refine ECall.pure (by rfl) hG (by simp [lexD, int]) ?_
  simp (decide := true) [int, Ent.row]
  refine ECall.pure (by rfl) hF (by simp [lexD, int]) ?_
  cases ok with
  | false =>
    simp (decide := true) [int, Ent.row, formD, ints]
  | true =>
    by_cases h0 : p.alt < 0
    · have h0' : ¬ 0 ≤ p.alt := by omega
      simp (decide := true) [int, Ent.row, formD, ints, h0, h0']
      done
    have h0' : 0 ≤ p.alt := by omega
    by_cases h1 : p.alt < e.forms.length
    · have hlt : p.alt.toNat < e.forms.length := by omega
      obtain ⟨w, ew⟩ : ∃ w, e.forms[p.alt.toNat] = w := ⟨_, rfl⟩
      have e1 : e.forms[p.alt.toNat]? = some w := by rw [List.getElem?_eq_getElem hlt, ew]
      have h1' : ¬ (e.forms.length : Int) ≤ p.alt := by omega
      simp (decide := true) [int, Ent.row, listsD, formD, h0, h0', h1, h1', e1, ew]
      refine draw_b mixed 6 2 (by rfl) rfl rfl rfl rfl (by rfl) (by simp) ?_
      simp (decide := true) [int, Ent.row, listsD, formD, ints, h0, h0', h1, h1', e1, ew, hlt]
    · have h1' : (e.forms.length : Int) ≤ p.alt := by omega
      simp (decide := true) [int, Ent.row, listsD, formD, ints, h0, h0', h1, h1']
end Go.V
