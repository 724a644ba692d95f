/- Contracts and plain laws of this seat: part M8. It needs no conditions. -/
import Derived.Test.YtnjcohimpfmgcaaDoorM2
import GoSem.ClaimJoined
import Derived.Test.YtnjcohimpfmgcaaDoorM6
set_option linter.unusedVariables false
set_option linter.unusedSimpArgs false
set_option linter.unusedSectionVars false
set_option maxRecDepth 100000
/- How large a document's lists can be: what the statement's reading weighs. -/
namespace Go.V
open Go Go.Proofs

section
variable {H : Type} {enc : TypeId × Value → H} {P : Program} {w : World} {base : Nat} {spare : Nat → Bool} {held : Bool} {t fuel : Nat} {cs : List Value} {x : DataW H × List MemPlace}
theorem weightsEach_mem : ∀ {ts : List Nat} {ds : List (DataW H)} {i : Nat} {t : Nat} {d : DataW H} {b : Nat}, ts[i]? = some t → ds[i]? = some d → b ∈ DataW.weights P t d → b ∈ DataW.weightsEach P ts ds
  | [], ds, i, t, d, b, h, _, _ => by simp at h
  | u :: ts, [], i, t, d, b, _, h, _ => by simp at h
  | u :: ts, y :: ds, 0, t, d, b, h1, h2, hb => by
    simp at h1 h2; subst h1; subst h2
    simp only [DataW.weightsEach, List.mem_append]; exact .inl hb
  | u :: ts, y :: ds, i + 1, t, d, b, h1, h2, hb => by
    simp only [DataW.weightsEach, List.mem_append]; exact .inr (weightsEach_mem (i := i) (by simpa using h1) (by simpa using h2) hb)
theorem trod_part {fs : Array Field} (ht : P.underlying t = some (.struct fs)) (h : DataW.trod enc P w base spare held fuel t cs = some x) {i : Nat} {f : Field} (hf : fs[i]? = some f) :
    ∃ y n, DataW.trod enc P w base spare held n f.type ((cs.drop f.offset).take (P.cellsOf f.type)) = some y ∧ ∀ b, b ∈ DataW.weights P f.type y.1 → b ∈ DataW.weights P t x.1 := by
  obtain ⟨xs, n, rfl, rfl, _, hl, hx⟩ := DataW.trod_struct ht h
  have hi : i < xs.length := by
    have := (Array.getElem?_eq_some_iff.1 hf).1
    omega
  have h1 := hx i f hf
  rw [List.getElem?_eq_getElem hi] at h1
  refine ⟨xs[i], n, h1, fun b hb => ?_⟩
  have : DataW.weights P t (.agg (xs.map (·.1))) = DataW.weightsEach P (fs.toList.map (·.type)) (xs.map (·.1)) := by
    simp only [DataW.weights, ht]
  rw [this]
  exact weightsEach_mem (i := i) (t := f.type) (d := xs[i].1) (by simp [hf]) (by rw [List.getElem?_map, List.getElem?_eq_getElem hi]; rfl) hb
theorem trod_len {e : Nat} (ht : P.underlying t = some (.slice e)) (h : DataW.trod enc P w base spare held fuel t cs = some x) (hw : ∀ b, b ∈ DataW.weights P t x.1 → b ≤ reachBytes) {a : Option Addr} {n c : Nat} (hc : cs = [.slice a n c]) : n * P.bytesOf e ≤ reachBytes := by
  rcases DataW.trod_slice ht h with ⟨h1, _⟩ | ⟨a', len, cap, elems, rest, m, _, h1, rfl, _, _, _, hel, _⟩
  · rw [hc] at h1; cases h1; simp
  · rw [hc] at h1; cases h1
    have := hw ((elems.length + rest.length) * P.bytesOf e) (by simp only [DataW.weights, ht, List.length_map]; simp)
    refine Nat.le_trans (Nat.mul_le_mul_right _ ?_) this
    omega
end
structure Dc.lim (d : Dc) : Prop where
  spk : d.spk.length * 8 ≤ 140737488351232
  tiers : d.tiers.length * 40 ≤ 140737488351232
  notes : d.notes.length * 64 ≤ 140737488351232
theorem doc_lim {H : Type} {enc : TypeId × Value → H} {w : World} {base : Nat} {spare : Nat → Bool} {held : Bool} {v : Value} {y : DataW H} {ps : List MemPlace} {d : Dc}
    (h : DataW.Trod enc Tryd.prog w base spare held 32 v y ps) (hw : ∀ b, b ∈ DataW.weights Tryd.prog 32 y → b ≤ reachBytes) (hr : R w Ez (docD d) v) : d.lim := by
  obtain ⟨fuel, h⟩ := h
  simp only [docD, R, Dc.row, Rcells, int, ints, tiersD, notesD] at hr
  obtain ⟨_, rfl, _, _, rfl, _, rfl, _, _, rfl, _, rfl, _, _, rfl, _, rfl, _, _, rfl, _, rfl, _, _, rfl, _, ⟨a1, c1, rfl, _⟩, _, _, rfl, _, ⟨a2, c2, rfl, _⟩, _, _, rfl, _, ⟨a3, c3, rfl, _⟩, rfl⟩ := hr
  have hR : Tryd.prog.cellsOf 28 = 5 := by kernel_rfl
  have hI : Tryd.prog.cellsOf 26 = 1 := by kernel_rfl
  have hT : Tryd.prog.cellsOf 29 = 1 := by kernel_rfl
  have hN : Tryd.prog.cellsOf 30 = 1 := by kernel_rfl
  have b1 : Tryd.prog.bytesOf 3 = 8 := by kernel_rfl
  have b2 : Tryd.prog.bytesOf 49 = 40 := by kernel_rfl
  have b3 : Tryd.prog.bytesOf 39 = 64 := by kernel_rfl
  obtain ⟨y0, n0, g0, w0⟩ := trod_part Tryd.underlying32 h (i := 0) rfl
  obtain ⟨y1, n1, g1, w1⟩ := trod_part Tryd.underlying32 h (i := 1) rfl
  obtain ⟨y2, n2, g2, w2⟩ := trod_part Tryd.underlying32 h (i := 2) rfl
  change DataW.trod enc Tryd.prog w base spare held n0 28 (List.take (Tryd.prog.cellsOf 28) _) = some y0 at g0
  change DataW.trod enc Tryd.prog w base spare held n1 29 (List.take (Tryd.prog.cellsOf 29) _) = some y1 at g1
  change DataW.trod enc Tryd.prog w base spare held n2 30 (List.take (Tryd.prog.cellsOf 30) _) = some y2 at g2
  change ∀ b, b ∈ DataW.weights Tryd.prog 28 y0.1 → _ at w0
  change ∀ b, b ∈ DataW.weights Tryd.prog 29 y1.1 → _ at w1
  change ∀ b, b ∈ DataW.weights Tryd.prog 30 y2.1 → _ at w2
  rw [hR] at g0
  rw [hT] at g1
  rw [hN] at g2
  obtain ⟨y3, n3, g3, w3⟩ := trod_part Tryd.underlying28 g0 (i := 4) rfl
  change DataW.trod enc Tryd.prog w base spare held n3 26 (List.take (Tryd.prog.cellsOf 26) _) = some y3 at g3
  change ∀ b, b ∈ DataW.weights Tryd.prog 26 y3.1 → _ at w3
  rw [hI] at g3
  have l1 := trod_len Tryd.underlying26 g3 (fun b hb => hw b (w0 b (w3 b hb))) rfl
  have l2 := trod_len Tryd.underlying29 g1 (fun b hb => hw b (w1 b hb)) rfl
  have l3 := trod_len Tryd.underlying30 g2 (fun b hb => hw b (w2 b hb)) rfl
  rw [b1] at l1
  rw [b2] at l2
  rw [b3] at l3
  simp only [List.length_map, reachBytes] at l1 l2 l3
  exact ⟨l1, l2, l3⟩
end Go.V

/- The law of chapter 12 on leaves: whatever the document, it returns true. -/
namespace Go.V
open Go Go.Proofs

theorem copyL_ok (d : Dc) (h : d.lim) : PureR Tryd.prog 18 [docD d] (docD d) := by
  obtain ⟨h1, h2, h3⟩ := h
  refine pure_of_body_frz mixed Tryd.func18 rfl call_18 [2, 3, 4] ?_
  simp (decide := true) [Tryd.f18, docD, Dc.row, notesD, tiersD, ints, int]
  unfold maxLen
  exact ⟨by omega, by omega, fun _ _ => rfl, by omega, by omega, fun _ _ => rfl, by omega, by omega⟩
/-- Check at documents of whatever size. -/
theorem checkL_ok (d : Dc) (h : d.lim) (hn : d.notes.length < 2^30) : PureR Tryd.prog 17 [docD d] (int (checkE d)) := by
  by_cases ht : d.tiers.length < 2^30
  · exact check_ok d ht hn
  · have h2 := h.tiers
    have hE : tiersE d.tiers = 11 := by unfold tiersE; rw [if_pos (by omega)]
    have hc : checkE d = 11 := by unfold checkE; rw [hE]; simp
    rw [hc]
    refine pure_of_body mixed Tryd.func17 rfl call_17 ?_
    simp (decide := true) [Tryd.f17, docD, Dc.row]
    refine ECall.pure (by rfl) (tiersCheck_ok d.tiers (by omega)) (by simp) ?_
    simp (decide := true) [int, hE]
def restL (l : List Nt) (id : Int) : List Nt := l.filter fun m => decide (m.id ≠ id)
set_option maxHeartbeats 4000000 in
theorem law_leaves (d : Dc) (id : Int) (h : d.lim) : PureR Tryd.prog 11 [docD d, int id] (.bool true) := by
  have hl1 := h.notes
  have hl2 := h.tiers
  refine pure_of_body mixed Tryd.func11 rfl call_11 ?_
  simp (decide := true) [Tryd.f11, docD, Dc.row, int]
  refine ECall.pure (by rfl) (copyL_ok d h) (by simp (decide := true) [docD, Dc.row]) ?_
  simp (decide := true) [int]
  refine ECall.pure (by rfl) (get_ok d id (by omega)) (by simp (decide := true) [docD, Dc.row]) ?_
  obtain ⟨⟨n, ok⟩, eg⟩ : ∃ g, getN d.notes id = g := ⟨_, rfl⟩
  rw [eg]
  by_cases h60 : 60 < d.notes.length
  · have h60' : (60 : Int) < d.notes.length := by omega
    simp (decide := true) [getD', Nt.row, int, notesD, tiersD, ints, h60, h60']
    refine ECall.pure (by rfl) awake12_R (by simp) ?_
    simp (decide := true)
  have h60' : ¬ (60 : Int) < d.notes.length := by omega
  cases ok with
  | false =>
    simp (decide := true) [getD', Nt.row, int, notesD, tiersD, ints, h60, h60']
    refine ECall.pure (by rfl) awake12_R (by simp) ?_
    simp (decide := true)
  | true =>
    simp (decide := true) [getD', Nt.row, int, notesD, tiersD, ints, h60, h60']
    refine ECall.pure (by rfl) (copyL_ok d h) (by simp (decide := true) [docD, Dc.row]) ?_
    simp (decide := true) [docD, Dc.row, int]
    refine ECall.pure (by rfl) (checkL_ok d h (by omega)) (by simp (decide := true) [docD, Dc.row]) ?_
    by_cases hc : checkE d = 0
    case neg =>
      simp (decide := true) [int, hc]
      refine ECall.pure (by rfl) awake12_R (by simp) ?_
      simp (decide := true)
    have hr := right_iff.1 hc
    have hm := getN_mem (l := d.notes) (id := id) (by rw [eg])
    rw [eg] at hm
    simp only at hm
    have hnk := hr.nok n hm.1
    obtain ⟨t, ht⟩ : ∃ t : Nat, n.tier = t := ⟨n.tier.toNat, by have := hnk.t0; omega⟩
    have htl : t < d.tiers.length := by have := hnk.t1; omega
    have htl' : (t : Int) < d.tiers.length := by omega
    have ht0 : ¬ (t : Int) < 0 := by omega
    have htn : ¬ (d.tiers.length : Int) ≤ t := by omega
    have e1 : d.tiers[t]? = some d.tiers[t] := List.getElem?_eq_getElem htl
    have hkd : (tirAt d n.tier).kind = d.tiers[t].kind := by rw [ht]; unfold tirAt; rw [Int.toNat_natCast, e1]; rfl
    simp (decide := true) [int, hc, ht, tiersD, Tir.row, htl, htl', ht0, htn, e1]
    generalize d.tiers[t].kind = kd at hkd ⊢
    refine loop_rule mixed (fun i : Nat => { n := 102, next := 3, slots := [(1, .d (int id)), (2, .bp 0 0), (7, .d (int kd)), (8, .ar 2), (9, .d (int i))], own := [(0, .box 32 (docCells d)), (2, .arr 39 7 ((restL (d.notes.take i) id).map Nt.row))], moved := [2] })
      (fun i => i ≤ d.notes.length ∧ ∀ m ∈ d.notes.take i, m.par ≠ id) (fun i => d.notes.length - i) 0 (by simp) (by simp (decide := true) [int, ints, restL, notesD, tiersD]) ?_
    rintro i ⟨hi, hp⟩
    by_cases hlt : i < d.notes.length
    · have hlt' : (i : Int) < d.notes.length := by omega
      obtain ⟨m, em'⟩ : ∃ m, d.notes[i] = m := ⟨_, rfl⟩
      have em : d.notes[i]? = some m := by rw [List.getElem?_eq_getElem hlt, em']
      by_cases q1 : m.par = id
      · simp (decide := true) [int, notesD, Nt.row, hlt, hlt', em, em', q1]
        refine ECall.pure (by rfl) awake12_R (by simp) ?_
        simp (decide := true)
      have hsn : restL (d.notes.take (i + 1)) id = restL (d.notes.take i) id ++ (if m.id = id then [] else [m]) := by
        unfold restL; rw [take_snoc' hlt, List.filter_append, em']; by_cases e : m.id = id <;> simp [e]
      have hlen : (restL (d.notes.take i) id).length ≤ i := Nat.le_trans (List.length_filter_le _ _) (by rw [List.length_take]; omega)
      have hp' : ∀ x ∈ d.notes.take (i + 1), x.par ≠ id := take_all' hlt hp (by rw [em']; exact q1)
      by_cases q2 : m.id = id
      · rw [if_pos q2, List.append_nil] at hsn
        simp (decide := true) [int, notesD, Nt.row, hlt, hlt', em, em', q1, q2, I64]
        exact ⟨⟨by omega, by omega⟩, i + 1, ⟨hlt, hp'⟩, by omega, by omega, by rw [hsn]⟩
      · rw [if_neg q2] at hsn
        simp (decide := true) [int, notesD, Nt.row, hlt, hlt', em, em', q1, q2, I64]
        exact ⟨by omega, by unfold maxLen; omega, ⟨by omega, by omega⟩, i + 1, ⟨hlt, hp'⟩, by omega, by omega, by rw [hsn]; simp [Nt.row, int]⟩
    · have : i = d.notes.length := by omega
      subst this
      rw [List.take_length] at hp ⊢
      have hrl : (restL d.notes id).length ≤ d.notes.length := List.length_filter_le _ _
      have fin : (kd = 0 ∨ kd = 2 ∨ kd = 4) → PureR Tryd.prog 17 [docD (dropN d id)] (int 0) := by
        intro hk
        have hck := checkL_ok (dropN d id) ⟨h.spk, h.tiers, by show (restL d.notes id).length * 64 ≤ _; omega⟩ (by show (restL d.notes id).length < _; omega)
        rwa [leaf_check hc eg (by rw [hkd]; exact hk) hp] at hck
      have hdn : docD (dropN d id) = .agg [int d.id, .str d.name, int d.len, int d.day, ints d.spk, tiersD d.tiers, notesD (restL d.notes id)] := rfl
      rw [hdn] at fin
      generalize restL d.notes id = s at fin hrl ⊢
      rcases (by omega : kd = 0 ∨ kd = 2 ∨ kd = 4 ∨ (kd ≠ 0 ∧ kd ≠ 2 ∧ kd ≠ 4)) with rfl | rfl | rfl | ⟨k0, k2, k4⟩
      iterate 3
        · simp (decide := true) [int, notesD]
          refine ECall.pure (by rfl) (fin (by decide)) (fun _ => rfl) ?_
          simp (decide := true) [int]
          refine ECall.pure (by rfl) awake12_R (by simp) ?_
          simp (decide := true)
      · simp (decide := true) [int, notesD, k0, k2, k4]
        refine ECall.pure (by rfl) awake12_R (by simp) ?_
        simp (decide := true)
end Go.V
