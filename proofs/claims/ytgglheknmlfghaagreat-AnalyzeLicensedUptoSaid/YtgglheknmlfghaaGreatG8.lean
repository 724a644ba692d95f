/- Contracts of chapters 29 and 30: whether an analysis is right, its form, and whether it is licensed, by the program. -/
import Derived.Test.YtgglheknmlfghaaGreatG7
set_option linter.unusedSimpArgs false
set_option linter.unusedVariables false
set_option maxRecDepth 10000
namespace Go.V
open Go Go.Proofs

/-- A language as it must be for the program. -/
structure LangOk (g : Lang) : Prop where
  lex : LexFit g.lex
  inv : g.inv.length < 2^40
  rules : (∀ r ∈ g.rules, RuleOk r) ∧ g.rules.length < 2^40
  net : NetOk g.net
def partE (l : List Ent) (p : Prt) : Int :=
  if (getE l p.entry).2 = false then 9 else if (formE l p).2.2 = false then 2 else if p.sense < 0 ∨ (sensesE l p.entry).length ≤ p.sense then 22 else 0
def partsE (l : List Ent) : List Prt → Int
  | [] => 0
  | p :: ps => if partE l p = 0 then partsE l ps else partE l p
theorem partsE_drop {l : List Ent} {ps : List Prt} {k : Nat} (h : k < ps.length) : partsE l (ps.drop k) = if partE l ps[k] = 0 then partsE l (ps.drop (k + 1)) else partE l ps[k] := by
  rw [List.drop_eq_getElem_cons h]; rfl
def rightE (g : Lang) (ps : List Prt) : Int :=
  if ps.length = 0 then 4 else if 4 < ps.length then 11 else if partsE g.lex ps ≠ 0 then partsE g.lex ps else if acceptsS g.net (classesE g.lex ps) = false then 21 else if 24 < (baseE g.lex ps).length then 5 else 0
set_option maxHeartbeats 8000000 in
theorem right29_ok (g : Lang) (hg : LangOk g) (ps : List Prt) (hp : ps.length < 2^20) : PureR Tryz.prog 60 [g.d, anaD ps] (int (rightE g ps)) := by
  refine pure_of_body mixed Tryz.func60 rfl call_60 ?_
  obtain ⟨R, hR⟩ : ∃ R, rightE g ps = R := ⟨_, rfl⟩
  rw [hR]
  unfold rightE at hR
  by_cases h0 : ps.length = 0
  · rw [if_pos h0] at hR
    subst hR
    simp (decide := true) [Tryz.f60, Lang.d, anaD, partsD, int, h0]
    done
  rw [if_neg h0] at hR
  by_cases h4 : 4 < ps.length
  · rw [if_pos h4] at hR
    subst hR
    have h4' : (4 : Int) < ps.length := by omega
    have h0' : ¬ (ps.length : Int) = 0 := by omega
    simp (decide := true) [Tryz.f60, Lang.d, anaD, partsD, int, h0, h0', h4, h4']
    done
  rw [if_neg h4] at hR
  have h4' : ¬ (4 : Int) < ps.length := by omega
  have h0' : ¬ (ps.length : Int) = 0 := by omega
  simp (decide := true) [Tryz.f60, Lang.d, anaD, partsD, int, h0, h0', h4, h4']
  refine loop_rule mixed (fun k : Nat => { n := 73, next := 2, slots := [(2, .bp 0 0), (3, .bp 1 0), (21, .d (partsD ps)), (22, .d (int ps.length)), (23, .d (int k))], own := [(0, .box 36 (unAgg g.d)), (1, .box 39 [.d (partsD ps)])] })
    (fun k => k ≤ ps.length ∧ partsE g.lex (ps.drop k) = partsE g.lex ps) (fun k => ps.length - k) 0 (by simp) (by simp (decide := true) [int, partsD, unAgg, Lang.d]) ?_
  intro k ⟨hk, hpe⟩
  by_cases hlt : k < ps.length
  case neg =>
    have : k = ps.length := by omega
    subst this
    rw [List.drop_length] at hpe
    rw [← hpe] at hR
    have hz : partsE g.lex [] = 0 := rfl
    rw [hz, if_neg (by simp)] at hR
    have hC := classes_ok g hg.lex ps hp
    have hB := base_ok g hg.lex ps hp
    have hcl := classesE_len g.lex ps
    have hA := accepts_ok g.net hg.net (classesE g.lex ps) (by omega)
    have hbl := baseE_len hg.lex ps
    simp (decide := true) [int, partsD, unAgg, Lang.d]
    refine scall_pure (by rfl) (by rfl) hC (by simp [int]) ?_
    simp (decide := true) [int, partsD, unAgg, Lang.d]
    refine scall_pure (by rfl) (by rfl) hA (by simp [int]) ?_
    cases hac : acceptsS g.net (classesE g.lex ps) with
    | false =>
      rw [if_pos hac] at hR
      subst hR
      simp (decide := true) [int]
    | true =>
      rw [if_neg (by rw [hac]; decide)] at hR
      simp (decide := true) [int]
      refine ECall.pure (by rfl) hB (by simp [int]) ?_
      by_cases hb : 24 < (baseE g.lex ps).length
      · rw [if_pos hb] at hR
        subst hR
        have hb' : (24 : Int) < (baseE g.lex ps).length := by omega
        simp (decide := true) [int, ints, hb, hb']
      · rw [if_neg hb] at hR
        subst hR
        have hb' : ¬ (24 : Int) < (baseE g.lex ps).length := by omega
        simp (decide := true) [int, ints, hb, hb']
  have hlt' : (k : Int) < ps.length := by omega
  have hsn := partsE_drop (l := g.lex) hlt
  rw [hpe] at hsn
  obtain ⟨p, ep⟩ : ∃ p, ps[k] = p := ⟨_, rfl⟩
  have e1 : ps[k]? = some p := by rw [List.getElem?_eq_getElem hlt, ep]
  rw [ep] at hsn
  have hG := lexGet_ok g.lex p.entry hg.lex.len
  have hF := form_ok g hg.lex p
  have hS := senses_ok g.lex p.entry hg.lex.len hg.lex.senses
  unfold partE at hsn
  generalize getE g.lex p.entry = r1 at hG hsn
  generalize formE g.lex p = r2 at hF hsn
  generalize sensesE g.lex p.entry = ss at hS hsn
  obtain ⟨e, ok⟩ := r1
  obtain ⟨e2, w, ok2⟩ := r2
  simp only at hsn
  simp (decide := true) [int, partsD, Prt.row, hlt, hlt', e1, ep, I64, unAgg, Lang.d]
  refine ECall.pure (by rfl) hG (by simp [lexD, int]) ?_
  cases ok with
  | false =>
    have : R = 9 := by rw [← hR, hsn]; simp
    subst this
    simp (decide := true) [int, Ent.row]
  | true =>
    simp (decide := true) [int, Ent.row, Prt.row, I64, unAgg, Lang.d]
    refine ECall.pure (by rfl) hF (by simp [lexD, int]) ?_
    cases ok2 with
    | false =>
      have : R = 2 := by rw [← hR, hsn]; simp
      subst this
      simp (decide := true) [int, formD, Ent.row]
    | true =>
      simp (decide := true) [int, formD, Ent.row, Prt.row, I64, unAgg, Lang.d]
      by_cases hs0 : p.sense < 0
      · have : R = 22 := by rw [← hR, hsn]; simp [hs0]
        subst this
        simp (decide := true) [int, hs0]
        intro h
        omega
      · simp (decide := true) [int, hs0]
        intro _
        refine scall_pure (by rfl) (by rfl) hS (by simp [sensD]) ?_
        by_cases hs1 : (ss.length : Int) ≤ p.sense
        · have : R = 22 := by rw [← hR, hsn]; simp [hs0, hs1]
          subst this
          simp (decide := true) [int, sensD, hs1]
        · have hd : partsE g.lex (ps.drop (k + 1)) = partsE g.lex ps := by rw [hsn]; simp [hs0, hs1]
          simp (decide := true) [int, sensD, hs1]
          exact ⟨⟨by omega, by omega⟩, k + 1, ⟨hlt, hd⟩, by omega, by simp⟩
end Go.V
