/- Contracts: a note by itself, by the reference of chapter 12. -/
import Derived.Test.YtnjcohimpfmgcaaDoorR1
import Derived.Test.YtnjcohimpfmgcaaDoorT5
import Derived.Test.YtnjcohimpfmgcaaDoorP7
set_option linter.unusedSimpArgs false
set_option linter.unusedVariables false
set_option maxRecDepth 10000
namespace Go.V
open Go Go.Proofs

theorem alR_ok (k : Int) : PureR Tryd.prog 57 [int k] (.bool (alK k)) := by
  refine pure_of_body mixed Tryd.func57 rfl call_57 ?_
  by_cases h0 : k = 0
  · subst h0; simp (decide := true) [Tryd.f57, int, alK]
  by_cases h1 : k = 1
  · subst h1; simp (decide := true) [Tryd.f57, int, alK]
  by_cases h2 : k = 2
  · subst h2; simp (decide := true) [Tryd.f57, int, alK]
  simp (decide := true) [Tryd.f57, int, alK, h0, h1, h2]
theorem rightR_ok (f t : Int) : PureR Tryd.prog 82 [.agg [int f, int t]] (.bool (rightS f t)) := by
  refine pure_of_body mixed Tryd.func82 rfl call_82 ?_
  by_cases h1 : 0 ≤ f
  case neg => simp (decide := true) [Tryd.f82, int, rightS, h1]
  by_cases h2 : f < t
  case neg => simp (decide := true) [Tryd.f82, int, rightS, h1, h2]
  simp (decide := true) [Tryd.f82, int, rightS, h1, h2]
def placeE (d : Dc) (n : Nt) : Int :=
  if (if (tirAt d n.tier).kind = 0 then decide (n.par = 0) else (getN d.notes n.par).2 && decide ((getN d.notes n.par).1.tier = (tirAt d n.tier).par)) = true then
    (if withinP d n (getN d.notes n.par).1 = true then (if n.rank < 0 ∨ (n.rank ≠ 0 ∧ (tirAt d n.tier).kind ≠ 3) then 1 else 0) else 12)
  else 13
theorem noteE_place (d : Dc) (n : Nt) : noteE d n = if textE n.text = 0 then placeE d n else textE n.text := rfl
set_option maxHeartbeats 8000000 in
theorem placed_ok (d : Dc) (n : Nt) (hl : d.tiers.length < 2^62) (hn : d.notes.length < 2^62) (h0 : 0 ≤ n.tier) (h1 : n.tier < d.tiers.length) :
    PureR Tryd.prog 55 [docD d, .agg n.row] (int (placeE d n)) := by
  refine pure_of_body mixed Tryd.func55 rfl call_55 ?_
  obtain ⟨ni, nt, np, nf, nto, nr, nx⟩ := n
  simp only at h0 h1
  obtain ⟨k, rfl⟩ : ∃ k : Nat, nt = k := ⟨nt.toNat, by omega⟩
  have hk : k < d.tiers.length := by omega
  obtain ⟨t, ek⟩ : ∃ t, d.tiers[k] = t := ⟨_, rfl⟩
  have e1 : d.tiers[k]? = some t := by rw [List.getElem?_eq_getElem hk, ek]
  have et : tirAt d (k : Int) = t := by simp [tirAt, e1]
  obtain ⟨tn, kd, tr, tp⟩ := t
  have hal : alT d.tiers (k : Int) = alK kd := by
    unfold alT; rw [decide_eq_true (by omega), decide_eq_true (by omega), Int.toNat_natCast, e1]; rfl
  simp (decide := true) [Tryd.f55, docD, Dc.row, Nt.row, Tir.row, int, ints, notesD, tiersD, hk, e1, ek]
  refine ECall.pure (by rfl) (refGet_ok d np hn) (by simp (decide := true) [docD, Dc.row, int, ints, tiersD, notesD]) ?_
  have hpl : placeE d ⟨ni, k, np, nf, nto, nr, nx⟩ = if (if kd = 0 then decide (np = 0) else (getN d.notes np).2 && decide ((getN d.notes np).1.tier = tp)) = true then
    (if withinP d ⟨ni, k, np, nf, nto, nr, nx⟩ (getN d.notes np).1 = true then (if nr < 0 ∨ (nr ≠ 0 ∧ kd ≠ 3) then 1 else 0) else 12) else 13 := by
    simp only [placeE, et]
  rw [hpl]
  have hwi : ∀ q : Nt, withinP d ⟨ni, k, np, nf, nto, nr, nx⟩ q = if alK kd = true then rightS nf nto && (if kd = 0 then decide (0 ≤ nf) && decide (nto ≤ d.len) else decide (q.fr ≤ nf) && decide (nto ≤ q.tO))
      else decide (nf = 0) && decide (nto = 0) := by
    intro q; simp only [withinP, et, hal]
  simp only [hwi]
  clear hpl hwi
  obtain ⟨⟨p, ok⟩, eg⟩ : ∃ g, getN d.notes np = g := ⟨_, rfl⟩
  rw [eg]
  obtain ⟨pi, pt, pp, pf, pto, prr, px⟩ := p
  simp only [getD']
  by_cases k0 : kd = 0
  · subst k0
    have ak : alK 0 = true := rfl
    by_cases p0 : np = 0
    case neg =>
      simp (decide := true) [int, Nt.row, Tir.row, ak, p0]
      repeat first
        | (refine ECall.pure (by rfl) (alR_ok _) (by simp [int]) ?_; simp (decide := true) [int, Nt.row, Tir.row, ak, p0])
        | (refine ECall.pure (by rfl) (rightR_ok _ _) (by simp [int]) ?_; simp (decide := true) [int, Nt.row, Tir.row, ak, p0])
    subst p0
    by_cases hr : rightS nf nto = true
    case neg =>
      simp (decide := true) [int, Nt.row, Tir.row, ak, hr]
      repeat first
        | (refine ECall.pure (by rfl) (alR_ok _) (by simp [int]) ?_; simp (decide := true) [int, Nt.row, Tir.row, ak, hr])
        | (refine ECall.pure (by rfl) (rightR_ok _ _) (by simp [int]) ?_; simp (decide := true) [int, Nt.row, Tir.row, ak, hr])
    have hf : 0 ≤ nf := by simp only [rightS, Bool.and_eq_true, decide_eq_true_eq] at hr; omega
    by_cases hz : nto ≤ d.len
    case neg =>
      simp (decide := true) [int, Nt.row, Tir.row, ak, hr, hf, hz]
      repeat first
        | (refine ECall.pure (by rfl) (alR_ok _) (by simp [int]) ?_; simp (decide := true) [int, Nt.row, Tir.row, ak, hr, hf, hz])
        | (refine ECall.pure (by rfl) (rightR_ok _ _) (by simp [int]) ?_; simp (decide := true) [int, Nt.row, Tir.row, ak, hr, hf, hz])
    by_cases r1 : nr < 0
    · skip
      simp (decide := true) [int, Nt.row, Tir.row, ak, hr, hf, hz, r1]
      repeat first
        | (refine ECall.pure (by rfl) (alR_ok _) (by simp [int]) ?_; simp (decide := true) [int, Nt.row, Tir.row, ak, hr, hf, hz, r1])
        | (refine ECall.pure (by rfl) (rightR_ok _ _) (by simp [int]) ?_; simp (decide := true) [int, Nt.row, Tir.row, ak, hr, hf, hz, r1])
    by_cases r2 : nr = 0
    · skip
      simp (decide := true) [int, Nt.row, Tir.row, ak, hr, hf, hz, r1, r2]
      repeat first
        | (refine ECall.pure (by rfl) (alR_ok _) (by simp [int]) ?_; simp (decide := true) [int, Nt.row, Tir.row, ak, hr, hf, hz, r1, r2])
        | (refine ECall.pure (by rfl) (rightR_ok _ _) (by simp [int]) ?_; simp (decide := true) [int, Nt.row, Tir.row, ak, hr, hf, hz, r1, r2])
    simp (decide := true) [int, Nt.row, Tir.row, ak, hr, hf, hz, r1, r2]
    repeat first
      | (refine ECall.pure (by rfl) (alR_ok _) (by simp [int]) ?_; simp (decide := true) [int, Nt.row, Tir.row, ak, hr, hf, hz, r1, r2])
      | (refine ECall.pure (by rfl) (rightR_ok _ _) (by simp [int]) ?_; simp (decide := true) [int, Nt.row, Tir.row, ak, hr, hf, hz, r1, r2])
  cases ok with
  | false =>
    simp (decide := true) [int, Nt.row, Tir.row, k0]
    repeat first
      | (refine ECall.pure (by rfl) (alR_ok _) (by simp [int]) ?_; simp (decide := true) [int, Nt.row, Tir.row, k0])
      | (refine ECall.pure (by rfl) (rightR_ok _ _) (by simp [int]) ?_; simp (decide := true) [int, Nt.row, Tir.row, k0])
  | true =>
    by_cases pq : pt = tp
    case neg =>
      simp (decide := true) [int, Nt.row, Tir.row, k0, pq]
      repeat first
        | (refine ECall.pure (by rfl) (alR_ok _) (by simp [int]) ?_; simp (decide := true) [int, Nt.row, Tir.row, k0, pq])
        | (refine ECall.pure (by rfl) (rightR_ok _ _) (by simp [int]) ?_; simp (decide := true) [int, Nt.row, Tir.row, k0, pq])
    by_cases ha : alK kd = true
    · skip
      have k3 : ¬ kd = 3 := by rintro rfl; exact absurd ha (by decide)
      by_cases hr : rightS nf nto = true
      case neg =>
        simp (decide := true) [int, Nt.row, Tir.row, k0, pq, ha, hr]
        repeat first
          | (refine ECall.pure (by rfl) (alR_ok _) (by simp [int]) ?_; simp (decide := true) [int, Nt.row, Tir.row, k0, pq, ha, hr])
          | (refine ECall.pure (by rfl) (rightR_ok _ _) (by simp [int]) ?_; simp (decide := true) [int, Nt.row, Tir.row, k0, pq, ha, hr])
      by_cases b1 : pf ≤ nf
      case neg =>
        simp (decide := true) [int, Nt.row, Tir.row, k0, pq, ha, hr, b1]
        repeat first
          | (refine ECall.pure (by rfl) (alR_ok _) (by simp [int]) ?_; simp (decide := true) [int, Nt.row, Tir.row, k0, pq, ha, hr, b1])
          | (refine ECall.pure (by rfl) (rightR_ok _ _) (by simp [int]) ?_; simp (decide := true) [int, Nt.row, Tir.row, k0, pq, ha, hr, b1])
      by_cases b2 : nto ≤ pto
      case neg =>
        simp (decide := true) [int, Nt.row, Tir.row, k0, pq, ha, hr, b1, b2]
        repeat first
          | (refine ECall.pure (by rfl) (alR_ok _) (by simp [int]) ?_; simp (decide := true) [int, Nt.row, Tir.row, k0, pq, ha, hr, b1, b2])
          | (refine ECall.pure (by rfl) (rightR_ok _ _) (by simp [int]) ?_; simp (decide := true) [int, Nt.row, Tir.row, k0, pq, ha, hr, b1, b2])
      by_cases r1 : nr < 0
      · skip
        simp (decide := true) [int, Nt.row, Tir.row, k0, pq, ha, hr, b1, b2, k3, r1]
        repeat first
          | (refine ECall.pure (by rfl) (alR_ok _) (by simp [int]) ?_; simp (decide := true) [int, Nt.row, Tir.row, k0, pq, ha, hr, b1, b2, k3, r1])
          | (refine ECall.pure (by rfl) (rightR_ok _ _) (by simp [int]) ?_; simp (decide := true) [int, Nt.row, Tir.row, k0, pq, ha, hr, b1, b2, k3, r1])
      by_cases r2 : nr = 0
      · skip
        simp (decide := true) [int, Nt.row, Tir.row, k0, pq, ha, hr, b1, b2, k3, r1, r2]
        repeat first
          | (refine ECall.pure (by rfl) (alR_ok _) (by simp [int]) ?_; simp (decide := true) [int, Nt.row, Tir.row, k0, pq, ha, hr, b1, b2, k3, r1, r2])
          | (refine ECall.pure (by rfl) (rightR_ok _ _) (by simp [int]) ?_; simp (decide := true) [int, Nt.row, Tir.row, k0, pq, ha, hr, b1, b2, k3, r1, r2])
      simp (decide := true) [int, Nt.row, Tir.row, k0, pq, ha, hr, b1, b2, k3, r1, r2]
      repeat first
        | (refine ECall.pure (by rfl) (alR_ok _) (by simp [int]) ?_; simp (decide := true) [int, Nt.row, Tir.row, k0, pq, ha, hr, b1, b2, k3, r1, r2])
        | (refine ECall.pure (by rfl) (rightR_ok _ _) (by simp [int]) ?_; simp (decide := true) [int, Nt.row, Tir.row, k0, pq, ha, hr, b1, b2, k3, r1, r2])
    by_cases z1 : nf = 0
    case neg =>
      simp (decide := true) [int, Nt.row, Tir.row, k0, pq, ha, z1]
      repeat first
        | (refine ECall.pure (by rfl) (alR_ok _) (by simp [int]) ?_; simp (decide := true) [int, Nt.row, Tir.row, k0, pq, ha, z1])
        | (refine ECall.pure (by rfl) (rightR_ok _ _) (by simp [int]) ?_; simp (decide := true) [int, Nt.row, Tir.row, k0, pq, ha, z1])
    by_cases z2 : nto = 0
    case neg =>
      simp (decide := true) [int, Nt.row, Tir.row, k0, pq, ha, z1, z2]
      repeat first
        | (refine ECall.pure (by rfl) (alR_ok _) (by simp [int]) ?_; simp (decide := true) [int, Nt.row, Tir.row, k0, pq, ha, z1, z2])
        | (refine ECall.pure (by rfl) (rightR_ok _ _) (by simp [int]) ?_; simp (decide := true) [int, Nt.row, Tir.row, k0, pq, ha, z1, z2])
    by_cases r1 : nr < 0
    · skip
      simp (decide := true) [int, Nt.row, Tir.row, k0, pq, ha, z1, z2, r1]
      repeat first
        | (refine ECall.pure (by rfl) (alR_ok _) (by simp [int]) ?_; simp (decide := true) [int, Nt.row, Tir.row, k0, pq, ha, z1, z2, r1])
        | (refine ECall.pure (by rfl) (rightR_ok _ _) (by simp [int]) ?_; simp (decide := true) [int, Nt.row, Tir.row, k0, pq, ha, z1, z2, r1])
    by_cases r2 : nr = 0
    · skip
      simp (decide := true) [int, Nt.row, Tir.row, k0, pq, ha, z1, z2, r1, r2]
      repeat first
        | (refine ECall.pure (by rfl) (alR_ok _) (by simp [int]) ?_; simp (decide := true) [int, Nt.row, Tir.row, k0, pq, ha, z1, z2, r1, r2])
        | (refine ECall.pure (by rfl) (rightR_ok _ _) (by simp [int]) ?_; simp (decide := true) [int, Nt.row, Tir.row, k0, pq, ha, z1, z2, r1, r2])
    by_cases r3 : kd = 3
    · skip
      subst r3
      simp (decide := true) [int, Nt.row, Tir.row, k0, pq, ha, z1, z2, r1, r2]
      repeat first
        | (refine ECall.pure (by rfl) (alR_ok _) (by simp [int]) ?_; simp (decide := true) [int, Nt.row, Tir.row, k0, pq, ha, z1, z2, r1, r2])
        | (refine ECall.pure (by rfl) (rightR_ok _ _) (by simp [int]) ?_; simp (decide := true) [int, Nt.row, Tir.row, k0, pq, ha, z1, z2, r1, r2])
    simp (decide := true) [int, Nt.row, Tir.row, k0, pq, ha, z1, z2, r1, r2, r3]
    repeat first
      | (refine ECall.pure (by rfl) (alR_ok _) (by simp [int]) ?_; simp (decide := true) [int, Nt.row, Tir.row, k0, pq, ha, z1, z2, r1, r2, r3])
      | (refine ECall.pure (by rfl) (rightR_ok _ _) (by simp [int]) ?_; simp (decide := true) [int, Nt.row, Tir.row, k0, pq, ha, z1, z2, r1, r2, r3])
/-- The error of the note with an index. -/
def noteIE (d : Dc) (i : Nat) : Int :=
  let n := d.notes[i]?.getD default
  if n.id < 1 ∨ 1099511627776 < n.id then 2 else if i ≠ 0 ∧ n.id ≤ (d.notes[i - 1]?.getD default).id then 10
  else if n.tier < 0 ∨ (d.tiers.length : Int) ≤ n.tier then 2 else noteE d n
theorem notesGo_IE (d : Dc) : ∀ (m i : Nat), notesGo d (m + 1) i = if i < d.notes.length then (if noteIE d i = 0 then notesGo d m (i + 1) else noteIE d i) else 0 := by
  intro m i
  simp only [notesGo, noteIE]
  split
  · split
    · simp
    · split
      · simp
      · split
        · simp
        · rfl
  · rfl
set_option maxHeartbeats 4000000 in
theorem noteError_ok (d : Dc) (i : Nat) (hi : i < d.notes.length) (hl : d.tiers.length < 2^62) (hn : d.notes.length < 2^62) (hx : ∀ n ∈ d.notes, n.text.size ≤ 9223372036854775807) :
    PureR Tryd.prog 40 [docD d, int i] (int (noteIE d i)) := by
  refine pure_of_body mixed Tryd.func40 rfl call_40 ?_
  have hi' : (i : Int) < d.notes.length := by omega
  obtain ⟨n, en'⟩ : ∃ n, d.notes[i] = n := ⟨_, rfl⟩
  have en : d.notes[i]? = some n := by rw [List.getElem?_eq_getElem hi, en']
  have hsz := hx n (by rw [← en']; exact List.getElem_mem hi)
  have hpl := fun a b => placed_ok d n hl hn a b
  have hE : noteIE d i = if n.id < 1 ∨ 1099511627776 < n.id then 2 else if i ≠ 0 ∧ n.id ≤ (d.notes[i - 1]?.getD default).id then 10
    else if n.tier < 0 ∨ (d.tiers.length : Int) ≤ n.tier then 2 else if textE n.text = 0 then placeE d n else textE n.text := by
    simp only [noteIE, en, Option.getD_some, noteE_place]
  rw [hE]
  clear hE
  have B : True := trivial
  by_cases a1 : n.id < 1
  · simp (decide := true) [Tryd.f40, docD, Dc.row, notesD, Nt.row, int, ints, hi, hi', en, en', a1]
  by_cases a2 : 1099511627776 < n.id
  · simp (decide := true) [Tryd.f40, docD, Dc.row, notesD, Nt.row, int, ints, hi, hi', en, en', a1, a2]
  have fin : ∀ (hi0 : ¬ (i ≠ 0 ∧ n.id ≤ (d.notes[i - 1]?.getD default).id)), True := fun _ => trivial
  cases i with
  | zero =>
    by_cases b1 : n.tier < 0
    · simp (decide := true) [Tryd.f40, docD, Dc.row, notesD, Nt.row, int, ints, hi, hi', en, en', a1, a2, b1]
    by_cases b2 : (d.tiers.length : Int) ≤ n.tier
    · simp (decide := true) [Tryd.f40, docD, Dc.row, notesD, Nt.row, int, ints, tiersD, hi, hi', en, en', a1, a2, b1, b2]
    simp (decide := true) [Tryd.f40, docD, Dc.row, notesD, Nt.row, int, ints, tiersD, hi, hi', en, en', a1, a2, b1, b2]
    refine ECall.pure (by rfl) (refText_ok n.text) (by simp [int]) ?_
    by_cases ht : textE n.text = 0
    case neg => simp (decide := true) [int, ht]
    simp (decide := true) [int, ht]
    refine ECall.pure (by rfl) (hpl (by omega) (by omega)) (by simp (decide := true) [docD, Dc.row, int, ints, notesD, tiersD, Nt.row]) ?_
    simp (decide := true) [int]
  | succ j =>
    have hjl : j < d.notes.length := by omega
    have hjl' : (j : Int) < d.notes.length := by omega
    obtain ⟨pv, ep'⟩ : ∃ pv, d.notes[j] = pv := ⟨_, rfl⟩
    have ep : d.notes[j]? = some pv := by rw [List.getElem?_eq_getElem hjl, ep']
    have j0 : (0 : Int) < (j : Int) + 1 := by omega
    have j1 : (j : Int) + 1 - 1 = j := by omega
    have jz : ¬ (j : Int) + 1 = 0 := by omega
    have hq : (j : Int) + 1 < d.notes.length := by omega
    have tn1 : ((j : Int) + 1).toNat = j + 1 := by omega
    have g0 : (0 : Int) ≤ (j : Int) + 1 := by omega
    have g1 : -9223372036854775808 ≤ (j : Int) := by omega
    have g2 : (j : Int) ≤ 9223372036854775807 := by omega
    by_cases c1 : n.id ≤ pv.id
    · simp (decide := true) [Tryd.f40, docD, Dc.row, notesD, Nt.row, int, ints, hi, hi', en, en', a1, a2, hjl, hjl', ep, ep', j0, j1, hq, tn1, c1, I64, g0, g1, g2]
    by_cases b1 : n.tier < 0
    · simp (decide := true) [Tryd.f40, docD, Dc.row, notesD, Nt.row, int, ints, hi, hi', en, en', a1, a2, hjl, hjl', ep, ep', j0, j1, hq, tn1, c1, I64, g0, g1, g2, b1]
    by_cases b2 : (d.tiers.length : Int) ≤ n.tier
    · simp (decide := true) [Tryd.f40, docD, Dc.row, notesD, Nt.row, int, ints, tiersD, hi, hi', en, en', a1, a2, hjl, hjl', ep, ep', j0, j1, hq, tn1, c1, I64, g0, g1, g2, b1, b2]
    simp (decide := true) [Tryd.f40, docD, Dc.row, notesD, Nt.row, int, ints, tiersD, hi, hi', en, en', a1, a2, hjl, hjl', ep, ep', j0, j1, hq, tn1, c1, I64, g0, g1, g2, b1, b2]
    refine ECall.pure (by rfl) (refText_ok n.text) (by simp [int]) ?_
    by_cases ht : textE n.text = 0
    case neg => simp (decide := true) [int, ht]
    simp (decide := true) [int, ht]
    refine ECall.pure (by rfl) (hpl (by omega) (by omega)) (by simp (decide := true) [docD, Dc.row, int, ints, notesD, tiersD, Nt.row]) ?_
    simp (decide := true) [int]
end Go.V
