/- Contracts: the notes of a tier and Check, by the reference of chapter 12. -/
import Derived.Test.YtnjcohimpfmgcaaDoorR5
set_option linter.unusedSimpArgs false
set_option linter.unusedVariables false
set_option maxRecDepth 10000
namespace Go.V
open Go Go.Proofs

/-- What a note of a tier adds to the errors of the tier. -/
def terStep (d : Dc) (t kind : Int) (n : Nt) (out : Int) : Int :=
  if kind = 1 then (if coversS (spansOf (sibs d.notes t n.par)) ⟨(getN d.notes n.par).1.fr, (getN d.notes n.par).1.tO⟩ = true then out else 16)
  else if kind = 3 then (if rankP (sibs d.notes t n.par) = true then out else 10)
  else if kind = 4 then (if 1 < (sibs d.notes t n.par).length then 8 else out) else out
def terGo (d : Dc) (t kind : Int) : List Nt → Int → Int
  | [], out => out
  | n :: r, out => if n.tier = t then (if alK kind = true ∧ overP (sibs d.notes t n.par) = true then 15 else terGo d t kind r (terStep d t kind n out)) else terGo d t kind r out
def terE (d : Dc) (t : Int) : Int := terGo d t (tirAt d t).kind d.notes 0
set_option maxHeartbeats 2000000 in
theorem tierError_ok (d : Dc) (t : Nat) (ht : t < d.tiers.length) (hl : d.notes.length < 2^40) : PureR Tryd.prog 41 [docD d, int t] (int (terE d t)) := by
  refine pure_of_body mixed Tryd.func41 rfl call_41 ?_
  have ht' : (t : Int) < d.tiers.length := by omega
  obtain ⟨tt, et'⟩ : ∃ tt, d.tiers[t] = tt := ⟨_, rfl⟩
  have et : d.tiers[t]? = some tt := by rw [List.getElem?_eq_getElem ht, et']
  have htt : (tirAt d (t : Int)) = tt := by simp [tirAt, et]
  unfold terE
  rw [htt]
  obtain ⟨tn, kd, tr, tp⟩ := tt
  simp (decide := true) [Tryd.f41, docD, Dc.row, int, ints, tiersD, Tir.row, ht, ht', et, et']
  refine loop_rule mixed (fun x : Nat × Int => { n := 77, next := 1, slots := [(1, .d (int t)), (2, .bp 0 0), (5, .d (int kd)), (6, .d (int x.2)), (7, .d (.int .i64 x.1))], own := [(0, .box 32 (docCells d))] })
    (fun x => x.1 ≤ d.notes.length ∧ terGo d t kd d.notes 0 = terGo d t kd (d.notes.drop x.1) x.2) (fun x => d.notes.length - x.1) (0, 0) (by simp) (by simp (decide := true) [int, ints, tiersD, notesD]) ?_
  rintro ⟨k, out⟩ ⟨hk, hg⟩
  simp only at hk hg
  by_cases hlt : k < d.notes.length
  case neg =>
    have : k = d.notes.length := by omega
    subst this
    rw [List.drop_length] at hg
    simp (decide := true) [int, notesD, hg, terGo]
  have hlt' : (k : Int) < d.notes.length := by omega
  obtain ⟨n, en'⟩ : ∃ n, d.notes[k] = n := ⟨_, rfl⟩
  have en : d.notes[k]? = some n := by rw [List.getElem?_eq_getElem hlt, en']
  rw [List.drop_eq_getElem_cons hlt, en'] at hg
  simp only [terGo] at hg
  by_cases h1 : n.tier = t
  case neg =>
    rw [if_neg h1] at hg
    simp (decide := true) [int, notesD, Nt.row, hlt, hlt', en, en', h1, I64]
    exact ⟨by omega, k + 1, out, ⟨hlt, hg⟩, by omega, by omega⟩
  rw [if_pos h1] at hg
  simp (decide := true) [int, notesD, Nt.row, hlt, hlt', en, en', h1]
  have hsl := sibs_len d.notes t n.par
  refine ECall.pure (by rfl) (siblings_ok d t n.par hl) (by simp (decide := true) [docD, Dc.row, int, ints, tiersD, notesD]) ?_
  generalize hS : sibs d.notes t n.par = S at hg hsl ⊢
  simp (decide := true) [int]
  refine ECall.pure (by rfl) (alR_ok kd) (by simp [int]) ?_
  have fin : ∀ out', terStep d t kd n out = out' → (alK kd = true → overP S = false) → terGo d t kd d.notes 0 = terGo d t kd (d.notes.drop (k + 1)) out' := by
    intro out' e h
    rw [if_neg (by rintro ⟨a, b⟩; rw [h a] at b; cases b), e] at hg
    exact hg
  have hov : alK kd = true → overP S = true → terGo d t kd d.notes 0 = 15 := by
    intro a b; rw [if_pos ⟨a, b⟩] at hg; exact hg
  have hst : terStep d t kd n out = if kd = 1 then (if coversS (spansOf S) ⟨(getN d.notes n.par).1.fr, (getN d.notes n.par).1.tO⟩ = true then out else 16)
    else if kd = 3 then (if rankP S = true then out else 10) else if kd = 4 then (if 1 < S.length then 8 else out) else out := by
    simp only [terStep, hS]
  clear hg
  generalize hT : terGo d t kd d.notes 0 = TT at fin hov ⊢
  by_cases k0 : kd = 0
  · subst k0
    have ha : alK 0 = true := rfl
    simp (decide := true) [int, ha]
    refine ECall.pure (by rfl) (overlap_ok S (by omega)) (by simp [notesD, Nt.row, int]) ?_
    cases hO : overP S with
    | true => simp (decide := true) [int, hov ha hO]
    | false =>
      have HO : alK 0 = true → overP S = false := fun _ => hO
      simp (decide := true) [int, notesD, Nt.row]
      refine ECall.pure (by rfl) (refGet_ok d n.par (by omega)) (by simp (decide := true) [docD, Dc.row, int, ints, tiersD, notesD]) ?_
      obtain ⟨⟨p, ok⟩, eg⟩ : ∃ g, getN d.notes n.par = g := ⟨_, rfl⟩
      rw [eg] at hst ⊢
      obtain ⟨pi, pt, pp, pf, pto, prr, px⟩ := p
      simp only [getD', Nt.row] at hst ⊢
      simp at hst
      simp (decide := true) [int, notesD, Nt.row, I64, ha]
      exact ⟨by omega, k + 1, out, ⟨hlt, fin _ hst HO⟩, by omega, by omega⟩
  by_cases k1 : kd = 1
  · subst k1
    have ha : alK 1 = true := rfl
    simp (decide := true) [int, ha]
    refine ECall.pure (by rfl) (overlap_ok S (by omega)) (by simp [notesD, Nt.row, int]) ?_
    cases hO : overP S with
    | true => simp (decide := true) [int, hov ha hO]
    | false =>
      have HO : alK 1 = true → overP S = false := fun _ => hO
      simp (decide := true) [int, notesD, Nt.row]
      refine ECall.pure (by rfl) (refGet_ok d n.par (by omega)) (by simp (decide := true) [docD, Dc.row, int, ints, tiersD, notesD]) ?_
      obtain ⟨⟨p, ok⟩, eg⟩ : ∃ g, getN d.notes n.par = g := ⟨_, rfl⟩
      rw [eg] at hst ⊢
      obtain ⟨pi, pt, pp, pf, pto, prr, px⟩ := p
      simp only [getD', Nt.row] at hst ⊢
      simp (decide := true) [int, notesD, Nt.row, I64, ha]
      refine scall_pure (by rfl) (by rfl) (spans_ok S (by omega)) (by simp [notesD, Nt.row, int]) ?_
      simp (decide := true) [int, notesD, Nt.row, I64, ha]
      refine scall_pure (by rfl) (by rfl) (covers_ok (spansOf S) ⟨pf, pto⟩ (by unfold spansOf; rw [List.length_map]; omega)) (by simp [Sp.row, int]) ?_
      by_cases hc : coversS (spansOf S) ⟨pf, pto⟩ = true
      · simp [hc] at hst
        simp (decide := true) [int, notesD, Nt.row, I64, ha, hc]
        exact ⟨by omega, k + 1, out, ⟨hlt, fin _ hst HO⟩, by omega, by omega⟩
      · simp [hc] at hst
        simp (decide := true) [int, notesD, Nt.row, I64, ha, hc]
        exact ⟨by omega, k + 1, 16, ⟨hlt, fin _ hst HO⟩, by omega, by omega⟩
  by_cases k2 : kd = 2
  · subst k2
    have ha : alK 2 = true := rfl
    simp (decide := true) [int, ha]
    refine ECall.pure (by rfl) (overlap_ok S (by omega)) (by simp [notesD, Nt.row, int]) ?_
    cases hO : overP S with
    | true => simp (decide := true) [int, hov ha hO]
    | false =>
      have HO : alK 2 = true → overP S = false := fun _ => hO
      simp (decide := true) [int, notesD, Nt.row]
      refine ECall.pure (by rfl) (refGet_ok d n.par (by omega)) (by simp (decide := true) [docD, Dc.row, int, ints, tiersD, notesD]) ?_
      obtain ⟨⟨p, ok⟩, eg⟩ : ∃ g, getN d.notes n.par = g := ⟨_, rfl⟩
      rw [eg] at hst ⊢
      obtain ⟨pi, pt, pp, pf, pto, prr, px⟩ := p
      simp only [getD', Nt.row] at hst ⊢
      simp at hst
      simp (decide := true) [int, notesD, Nt.row, I64, ha]
      exact ⟨by omega, k + 1, out, ⟨hlt, fin _ hst HO⟩, by omega, by omega⟩
  by_cases k3 : kd = 3
  · subst k3
    have ha : alK 3 = false := rfl
    have HO : alK 3 = true → overP S = false := fun h => by rw [ha] at h; cases h
    simp (decide := true) [int, ha, notesD, Nt.row]
    refine ECall.pure (by rfl) (refGet_ok d n.par (by omega)) (by simp (decide := true) [docD, Dc.row, int, ints, tiersD, notesD]) ?_
    obtain ⟨⟨p, ok⟩, eg⟩ : ∃ g, getN d.notes n.par = g := ⟨_, rfl⟩
    rw [eg] at hst ⊢
    obtain ⟨pi, pt, pp, pf, pto, prr, px⟩ := p
    simp only [getD', Nt.row] at hst ⊢
    simp (decide := true) [int, notesD, Nt.row, I64, ha]
    refine ECall.pure (by rfl) (ranked_ok S (by omega)) (by simp [notesD, Nt.row, int]) ?_
    by_cases hc : rankP S = true
    · simp [hc] at hst
      simp (decide := true) [int, notesD, Nt.row, I64, ha, hc]
      exact ⟨by omega, k + 1, out, ⟨hlt, fin _ hst HO⟩, by omega, by omega⟩
    · simp [hc] at hst
      simp (decide := true) [int, notesD, Nt.row, I64, ha, hc]
      exact ⟨by omega, k + 1, 10, ⟨hlt, fin _ hst HO⟩, by omega, by omega⟩
  by_cases k4 : kd = 4
  · subst k4
    have ha : alK 4 = false := rfl
    have HO : alK 4 = true → overP S = false := fun h => by rw [ha] at h; cases h
    simp (decide := true) [int, ha, notesD, Nt.row]
    refine ECall.pure (by rfl) (refGet_ok d n.par (by omega)) (by simp (decide := true) [docD, Dc.row, int, ints, tiersD, notesD]) ?_
    obtain ⟨⟨p, ok⟩, eg⟩ : ∃ g, getN d.notes n.par = g := ⟨_, rfl⟩
    rw [eg] at hst ⊢
    obtain ⟨pi, pt, pp, pf, pto, prr, px⟩ := p
    simp only [getD', Nt.row] at hst ⊢
    by_cases hc : 1 < S.length
    · have hc' : (1 : Int) < S.length := by omega
      simp [hc] at hst
      simp (decide := true) [int, notesD, Nt.row, I64, ha, hc, hc']
      exact ⟨by omega, k + 1, 8, ⟨hlt, fin _ hst HO⟩, by omega, by omega⟩
    · have hc' : ¬ (1 : Int) < S.length := by omega
      simp [hc] at hst
      simp (decide := true) [int, notesD, Nt.row, I64, ha, hc, hc']
      exact ⟨by omega, k + 1, out, ⟨hlt, fin _ hst HO⟩, by omega, by omega⟩
  have ha : alK kd = false := by simp [alK, k0, k1, k2]
  have HO : alK kd = true → overP S = false := fun h => by rw [ha] at h; cases h
  simp (decide := true) [int, ha, notesD, Nt.row]
  refine ECall.pure (by rfl) (refGet_ok d n.par (by omega)) (by simp (decide := true) [docD, Dc.row, int, ints, tiersD, notesD]) ?_
  obtain ⟨⟨p, ok⟩, eg⟩ : ∃ g, getN d.notes n.par = g := ⟨_, rfl⟩
  rw [eg] at hst ⊢
  obtain ⟨pi, pt, pp, pf, pto, prr, px⟩ := p
  simp only [getD', Nt.row] at hst ⊢
  simp [k1, k3, k4] at hst
  simp (decide := true) [int, notesD, Nt.row, I64, ha, k1, k3, k4]
  exact ⟨by omega, k + 1, out, ⟨hlt, fin _ hst HO⟩, by omega, by omega⟩
def terGos (d : Dc) : Nat → Nat → Int
  | 0, _ => 0
  | m + 1, i => if i < d.tiers.length then (if terE d i = 0 then terGos d m (i + 1) else terE d i) else 0
/-- Check, as the reference reckons it. -/
def refE (d : Dc) : Int :=
  if tiersE d.tiers ≠ 0 then tiersE d.tiers else if d.len < 0 ∨ 86400000 < d.len then 12 else if 300 < d.notes.length then 11
  else if notesGo d d.notes.length 0 ≠ 0 then notesGo d d.notes.length 0 else terGos d d.tiers.length 0
end Go.V
