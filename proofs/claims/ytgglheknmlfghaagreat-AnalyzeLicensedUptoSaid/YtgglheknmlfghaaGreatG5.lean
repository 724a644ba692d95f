/- Contracts of chapter 29: the classes and the base of an analysis, by the program. -/
import Derived.Test.YtgglheknmlfghaaGreatG4
set_option linter.unusedSimpArgs false
set_option linter.unusedVariables false
set_option maxRecDepth 10000
namespace Go.V
open Go Go.Proofs

def classesE (l : List Ent) (ps : List Prt) : List Int := ps.flatMap fun p => if (formE l p).2.2 = true then [(formE l p).1.cls] else []
def baseE (l : List Ent) (ps : List Prt) : List Int := ps.flatMap fun p => if (formE l p).2.2 = true then (formE l p).2.1 else []
theorem classesE_snoc {l : List Ent} {ps : List Prt} {k : Nat} (h : k < ps.length) : classesE l (ps.take (k + 1)) = classesE l (ps.take k) ++ (if (formE l ps[k]).2.2 = true then [(formE l ps[k]).1.cls] else []) := by
  unfold classesE; rw [take_snocG h, List.flatMap_append, List.flatMap_singleton]
theorem baseE_snoc {l : List Ent} {ps : List Prt} {k : Nat} (h : k < ps.length) : baseE l (ps.take (k + 1)) = baseE l (ps.take k) ++ (if (formE l ps[k]).2.2 = true then (formE l ps[k]).2.1 else []) := by
  unfold baseE; rw [take_snocG h, List.flatMap_append, List.flatMap_singleton]
theorem classesE_len (l : List Ent) : ∀ ps : List Prt, (classesE l ps).length ≤ ps.length
  | [] => by simp [classesE]
  | p :: ps => by
    have := classesE_len l ps
    unfold classesE at this ⊢
    rw [List.flatMap_cons, List.length_append, List.length_cons]
    split <;> simp only [List.length_singleton, List.length_nil] <;> omega
theorem formE_len {l : List Ent} (h : LexFit l) (p : Prt) : (formE l p).2.1.length < 2^20 := by
  unfold formE
  split
  · rename_i hc
    have hlt : p.alt.toNat < (getE l p.entry).1.forms.length := by omega
    show ((getE l p.entry).1.forms[p.alt.toNat]?.getD []).length < _
    rw [List.getElem?_eq_getElem hlt]
    exact h.form _ (getE_mem hc.1) _ (List.getElem_mem hlt)
  · simp
theorem baseE_len {l : List Ent} (h : LexFit l) : ∀ ps : List Prt, (baseE l ps).length ≤ ps.length * 2^20
  | [] => by simp [baseE]
  | p :: ps => by
    have h1 := baseE_len h ps
    have h2 := formE_len h p
    unfold baseE at h1 ⊢
    rw [List.flatMap_cons, List.length_append, List.length_cons, Nat.add_mul]
    split
    · omega
    · simp only [List.length_nil]; omega
set_option maxHeartbeats 4000000 in
theorem classes_ok (g : Lang) (hg : LexFit g.lex) (ps : List Prt) (hp : ps.length < 2^20) : PureR Tryz.prog 101 [g.d, anaD ps] (ints (classesE g.lex ps)) := by
  refine pure_of_body mixed Tryz.func101 rfl call_101 ?_
  simp (decide := true) [Tryz.f101, Lang.d, anaD, partsD, int]
  refine loop_rule mixed (fun k : Nat => { n := 33, next := 4, slots := [(2, .bp 0 0), (5, .ar 3), (12, .d (partsD ps)), (13, .d (int ps.length)), (14, .d (int k))], own := [(0, .box 36 (unAgg g.d)), (3, .arr 3 1 ((classesE g.lex (ps.take k)).map fun n => [int n]))], moved := [3] })
    (fun k => k ≤ ps.length) (fun k => ps.length - k) 0 (by simp) (by simp (decide := true) [int, partsD, classesE, unAgg, Lang.d]) ?_
  intro k hk
  by_cases hlt : k < ps.length
  case neg =>
    have : k = ps.length := by omega
    subst this
    rw [List.take_length]
    simp (decide := true) [int, ints, partsD]
  have hlt' : (k : Int) < ps.length := by omega
  have hsn := classesE_snoc (l := g.lex) hlt
  have hlen := classesE_len g.lex (ps.take k)
  rw [List.length_take] at hlen
  obtain ⟨p, ep⟩ : ∃ p, ps[k] = p := ⟨_, rfl⟩
  have e1 : ps[k]? = some p := by rw [List.getElem?_eq_getElem hlt, ep]
  rw [ep] at hsn
  have hF := form_ok g hg p
  generalize formE g.lex p = r at hF hsn
  obtain ⟨e, w, ok⟩ := r
  simp only at hsn
  simp (decide := true) [int, partsD, Prt.row, hlt, hlt', e1, ep, I64, unAgg, Lang.d]
  refine ECall.pure (by rfl) hF (by simp [Lang.d, Prt.row, int]) ?_
  cases ok with
  | false =>
    simp only [Bool.false_eq_true, if_false, List.append_nil] at hsn
    simp (decide := true) [formD, int, ints, Ent.row, partsD, Prt.row, I64, unAgg, Lang.d]
    exact ⟨⟨by omega, by omega⟩, k + 1, hlt, by omega, by omega, by rw [hsn]⟩
  | true =>
    simp only [if_true] at hsn
    simp (decide := true) [formD, int, ints, Ent.row, partsD, Prt.row, I64, unAgg, Lang.d]
    exact ⟨by omega, by unfold maxLen; omega, ⟨by omega, by omega⟩, k + 1, hlt, by omega, by omega, by rw [hsn]; simp⟩
set_option maxHeartbeats 4000000 in
theorem base_ok (g : Lang) (hg : LexFit g.lex) (ps : List Prt) (hp : ps.length < 2^20) : PureR Tryz.prog 29 [g.d, anaD ps] (ints (baseE g.lex ps)) := by
  refine pure_of_body mixed Tryz.func29 rfl call_29 ?_
  simp (decide := true) [Tryz.f29, Lang.d, anaD, partsD, int]
  refine loop_rule mixed (fun k : Nat => { n := 31, next := 4, slots := [(2, .bp 0 0), (5, .ar 3), (12, .d (partsD ps)), (13, .d (int ps.length)), (14, .d (int k))], own := [(0, .box 36 (unAgg g.d)), (3, .arr 3 1 ((baseE g.lex (ps.take k)).map fun n => [int n]))], moved := [3] })
    (fun k => k ≤ ps.length) (fun k => ps.length - k) 0 (by simp) (by simp (decide := true) [int, partsD, baseE, unAgg, Lang.d]) ?_
  intro k hk
  by_cases hlt : k < ps.length
  case neg =>
    have : k = ps.length := by omega
    subst this
    rw [List.take_length]
    simp (decide := true) [int, ints, partsD]
  have hlt' : (k : Int) < ps.length := by omega
  have hsn := baseE_snoc (l := g.lex) hlt
  have hlen := baseE_len hg (ps.take k)
  rw [List.length_take] at hlen
  obtain ⟨p, ep⟩ : ∃ p, ps[k] = p := ⟨_, rfl⟩
  have e1 : ps[k]? = some p := by rw [List.getElem?_eq_getElem hlt, ep]
  rw [ep] at hsn
  have hF := form_ok g hg p
  have hFl := formE_len hg p
  generalize formE g.lex p = r at hF hsn hFl
  obtain ⟨e, w, ok⟩ := r
  simp only at hsn hFl
  simp (decide := true) [int, partsD, Prt.row, hlt, hlt', e1, ep, I64, unAgg, Lang.d]
  refine ECall.pure (by rfl) hF (by simp [Lang.d, Prt.row, int]) ?_
  cases ok with
  | false =>
    simp only [Bool.false_eq_true, if_false, List.append_nil] at hsn
    simp (decide := true) [formD, int, ints, Ent.row, partsD, Prt.row, I64, unAgg, Lang.d]
    exact ⟨⟨by omega, by omega⟩, k + 1, hlt, by omega, by omega, by rw [hsn]⟩
  | true =>
    simp only [if_true] at hsn
    simp (decide := true) [formD, int, ints, Ent.row, partsD, Prt.row, I64, unAgg, Lang.d]
    exact ⟨by omega, by unfold maxLen; omega, ⟨by omega, by omega⟩, k + 1, hlt, by omega, by omega, by rw [hsn]; simp⟩
end Go.V
