/- Contracts and plain laws of this seat: part M10. It needs no conditions. -/
import Derived.Test.YtnjcohimpfmgcaaDoorM9
set_option linter.unusedVariables false
set_option linter.unusedSimpArgs false
set_option linter.unusedSectionVars false
set_option maxRecDepth 100000
/- Plain law: the notes of an aligned tier, in order, lie apart; and children that divide a span. -/
namespace Go.V
open Go Go.Proofs

section
variable {d : Dc}
theorem Rgt.inside (h : Rgt d) {t : Nat} {n : Nt} (hn : inT d t n) (hal : alK (tirAt d t).kind = true) :
    0 ≤ n.fr ∧ n.fr < n.tO ∧ ((tirAt d t).kind = 0 → n.tO ≤ d.len) ∧ ((tirAt d t).kind ≠ 0 → (upN d n).fr ≤ n.fr ∧ n.tO ≤ (upN d n).tO) := by
  have hk := note_of h.good hn.1
  have hw := (place_iff hk.place).2.2
  unfold withinP at hw
  rw [if_pos (by rw [alT_at hk.t0 hk.t1, hn.2]; exact hal), Bool.and_eq_true, hn.2] at hw
  obtain ⟨h1, h2⟩ := hw
  simp only [rightS, Bool.and_eq_true, decide_eq_true_eq] at h1
  refine ⟨h1.1.1, h1.1.2, fun e => ?_, fun e => ?_⟩
  · rw [if_pos e, Bool.and_eq_true, decide_eq_true_eq, decide_eq_true_eq] at h2
    exact h2.2
  · rw [if_neg e, Bool.and_eq_true, decide_eq_true_eq, decide_eq_true_eq] at h2
    exact h2
theorem Rgt.upal (h : Rgt d) {t : Nat} (ht : t < d.tiers.length) (hk : (tirAt d t).kind ≠ 0) (hal : alK (tirAt d t).kind = true) : alK (tirAt d (tirAt d t).par.toNat).kind = true := by
  have hu := h.up ht hk
  rw [tirAt_nat d ht] at hk hal hu ⊢
  have := (oneE_parent (h.good.tiers t ht) hk).2.2 hal
  rw [List.getElem?_take, if_pos hu.2] at this
  unfold tirAt
  rw [Int.toNat_natCast]
  exact this
theorem Rgt.sibs_apart (h : Rgt d) {t : Nat} (ht : t < d.tiers.length) (hal : alK (tirAt d t).kind = true) {a b : Nt} (ha : inT d t a) (hb : inT d t b) (hp : a.par = b.par) (hlt : a.fr < b.fr) : a.tO ≤ b.fr := by
  have hov := (ter_iff.1 (h.ter t ht)).1 a (inT_iff.2 ha)
  have hma : a ∈ sibs d.notes t a.par := by unfold sibs; rw [List.mem_filter]; exact ⟨ha.1, by simp [ha.2]⟩
  have hmb : b ∈ sibs d.notes t a.par := by unfold sibs; rw [List.mem_filter]; exact ⟨hb.1, by simp [hb.2, hp]⟩
  unfold ovR at hov
  rw [hal, Bool.true_and, over_pair] at hov
  have hra := h.inside ha hal
  have hrb := h.inside hb hal
  have hnm : NM a b := by
    generalize sibs d.notes t a.par = S at hov hma hmb
    obtain ⟨i, hi, rfl⟩ := List.mem_iff_getElem.1 hma
    obtain ⟨j, hj, rfl⟩ := List.mem_iff_getElem.1 hmb
    have hpw := List.pairwise_iff_getElem.1 hov
    rcases Nat.lt_trichotomy i j with h1 | rfl | h1
    · exact hpw i j hi hj h1
    · omega
    · exact (hpw j i hj hi h1).symm
  unfold NM at hnm
  omega
theorem bef_apart (h : Rgt d) : ∀ (t : Nat), t < d.tiers.length → alK (tirAt d t).kind = true → ∀ a b, inT d t a → inT d t b → befT d t a b = true → a.tO ≤ b.fr := by
  intro t
  induction t using Nat.strongRecOn with
  | _ t ih =>
    intro ht hal a b ha hb hab
    by_cases hp : a.par = b.par
    · rw [bef_same hp, decide_eq_true_eq] at hab
      unfold keyT at hab
      rw [if_pos hal, if_pos hal] at hab
      exact h.sibs_apart ht hal ha hb hp hab
    · have hk : (tirAt d t).kind ≠ 0 := fun e => hp (by rw [h.root ha e, h.root hb e])
      have hu := h.up ht hk
      rw [bef_up hp hu.2] at hab
      have := ih _ hu.2 (by omega) (h.upal ht hk hal) _ _ (h.parent ha ht hk).1 (h.parent hb ht hk).1 hab
      have h1 := (h.inside ha hal).2.2.2 hk
      have h2 := (h.inside hb hal).2.2.2 hk
      omega
theorem Rgt.tolen (h : Rgt d) : ∀ (t : Nat), t < d.tiers.length → alK (tirAt d t).kind = true → ∀ a, inT d t a → a.tO ≤ d.len := by
  intro t
  induction t using Nat.strongRecOn with
  | _ t ih =>
    intro ht hal a ha
    have hi := h.inside ha hal
    by_cases hk : (tirAt d t).kind = 0
    · exact hi.2.2.1 hk
    · have hu := h.up ht hk
      have := ih _ hu.2 (by omega) (h.upal ht hk hal) _ (h.parent ha ht hk).1
      have := hi.2.2.2 hk
      omega
/-- Children that divide a span: sorted, apart, without gaps. -/
theorem parts_first {l : List Nt} {f u : Int} (hs : ∀ n ∈ l, f ≤ n.fr ∧ n.fr < n.tO ∧ n.tO ≤ u) (hp : l.Pairwise fun a b => a.tO ≤ b.fr) (hc : ∀ v, f ≤ v → v < u → ∃ n ∈ l, n.fr ≤ v ∧ v < n.tO) (hl : l ≠ []) :
    (∀ (k : Nat) (hk : k < l.length), l[k].fr = if k = 0 then f else (gN l (k - 1)).tO) ∧ (gN l (l.length - 1)).tO = u := by
  have hpw := List.pairwise_iff_getElem.1 hp
  have h0 := List.length_pos_iff.2 hl
  have hlast : ∀ j, j < l.length → (gN l j).tO ≤ (gN l (l.length - 1)).tO := by
    intro j hj
    rw [gN_eq hj, gN_eq (by omega)]
    rcases Nat.eq_or_lt_of_le (show j ≤ l.length - 1 by omega) with e | e
    · simp [← e]
    · have := hpw j (l.length - 1) hj (by omega) e
      have := hs l[l.length - 1] (List.getElem_mem _)
      omega
  refine ⟨fun k hk => ?_, ?_⟩
  · have hk' := hs l[k] (List.getElem_mem _)
    rcases Nat.eq_zero_or_pos k with rfl | hk0
    · rw [if_pos rfl]
      obtain ⟨n, hn, n1, n2⟩ := hc f (Int.le_refl _) (by omega)
      obtain ⟨j, hj, rfl⟩ := List.mem_iff_getElem.1 hn
      rcases Nat.eq_zero_or_pos j with rfl | hj0
      · omega
      · have := hpw 0 j hk hj hj0
        omega
    · rw [if_neg (by omega), gN_eq (by omega)]
      have h1 := hpw (k - 1) k (by omega) hk (by omega)
      have hm := hs (l[k - 1]'(by omega)) (List.getElem_mem _)
      apply Classical.byContradiction
      intro hne
      obtain ⟨n, hn, n1, n2⟩ := hc ((l[k - 1]'(by omega)).tO) (by omega) (by omega)
      obtain ⟨j, hj, rfl⟩ := List.mem_iff_getElem.1 hn
      rcases Nat.lt_trichotomy j k with e | rfl | e
      · rcases Nat.eq_or_lt_of_le (show j ≤ k - 1 by omega) with e2 | e2
        · subst e2; omega
        · have := hpw j (k - 1) hj (by omega) e2
          omega
      · omega
      · have := hpw k j hk hj e
        omega
  · have hm := hs (l[l.length - 1]'(by omega)) (List.getElem_mem _)
    have e := gN_eq (s := l) (i := l.length - 1) (by omega)
    rw [e]
    apply Classical.byContradiction
    intro hne
    obtain ⟨n, hn, n1, n2⟩ := hc ((l[l.length - 1]'(by omega)).tO) (by omega) (by omega)
    obtain ⟨j, hj, rfl⟩ := List.mem_iff_getElem.1 hn
    have := hlast j hj
    rw [e, gN_eq hj] at this
    omega
end
end Go.V

/- The law of chapter 12 on notes that lie apart: whatever the document, it returns true. -/
namespace Go.V
open Go Go.Proofs

set_option maxHeartbeats 4000000 in
theorem law_apart (d : Dc) (h : d.lim) : PureR Tryd.prog 8 [docD d] (.bool true) := by
  have hl1 := h.notes
  have hl2 := h.tiers
  refine pure_of_body mixed Tryd.func8 rfl call_8 ?_
  by_cases h60 : 60 < d.notes.length
  · have h60' : (60 : Int) < d.notes.length := by omega
    simp (decide := true) [Tryd.f8, docD, Dc.row, int, notesD, h60, h60']
    refine ECall.pure (by rfl) awake12_R (by simp) ?_
    simp (decide := true)
  have h60' : ¬ (60 : Int) < d.notes.length := by omega
  simp (decide := true) [Tryd.f8, docD, Dc.row, int, notesD, h60, h60']
  refine ECall.pure (by rfl) (copyL_ok d h) (by simp (decide := true) [docD, Dc.row, int, notesD]) ?_
  simp (decide := true) [docD, Dc.row, int]
  refine ECall.pure (by rfl) (checkL_ok d h (by omega)) (by simp (decide := true) [docD, Dc.row, int, notesD]) ?_
  by_cases hc : checkE d = 0
  case neg =>
    simp (decide := true) [int, hc]
    refine ECall.pure (by rfl) awake12_R (by simp) ?_
    simp (decide := true)
  have hr := right_iff.1 hc
  simp (decide := true) [int, hc]
  refine loop_rule mixed (fun t : Nat => { n := 98, next := 1, slots := [(1, .bp 0 0), (3, .d (int t))], own := [(0, .box 32 (docCells d))] })
    (fun t => t ≤ d.tiers.length) (fun t => d.tiers.length - t) 0 (by simp) (by simp (decide := true) [int, ints, tiersD, notesD]) ?_
  intro t ht
  by_cases htl : t < d.tiers.length
  case neg =>
    have htl' : ¬ (t : Int) < d.tiers.length := by omega
    simp (decide := true) [int, tiersD, htl']
    refine ECall.pure (by rfl) awake12_R (by simp) ?_
    simp (decide := true)
  have htl' : (t : Int) < d.tiers.length := by omega
  have hof := ofA_all hr t
  have eP : ofP d t = ofN d t := by unfold ofP; rw [if_pos ⟨by omega, by omega⟩, Int.toNat_natCast]
  have hlen := of_length hr htl
  have hmem := of_mem hr t htl
  have hsrt := of_sorted hr t htl
  rw [eP] at hof
  generalize ofN d t = L at hof hlen hmem hsrt
  have hpw := List.pairwise_iff_getElem.1 hsrt
  have hkr := hr.kinds htl
  have e1 : d.tiers[t]? = some d.tiers[t] := List.getElem?_eq_getElem htl
  have hkd := tirAt_nat d htl
  have hal : d.tiers[t].kind ≤ 2 → alK (tirAt d t).kind = true := by
    intro e
    rw [hkd] at hkr ⊢
    simp only [alK, Bool.or_eq_true, decide_eq_true_eq]
    omega
  simp (decide := true) [int, tiersD, htl']
  refine ECall.pure (by rfl) (copyL_ok d h) (by simp (decide := true) [docD, Dc.row, int, tiersD, notesD]) ?_
  simp (decide := true) [int]
  refine ECall.pure (by rfl) hof (by simp (decide := true) [docD, Dc.row]) ?_
  simp (decide := true) [int, ints]
  have hil := idsOf_length L
  refine loop_rule mixed (fun x : Nat × Int => { n := 98, next := 1, slots := [(1, .bp 0 0), (3, .d (int t)), (4, .d (ints (idsOf L))), (5, .d (int x.2)), (6, .d (int x.1))], own := [(0, .box 32 (docCells d))] })
    (fun x => x.1 ≤ L.length ∧ (d.tiers[t].kind ≤ 2 → ∀ k (hk : k < L.length), x.1 ≤ k → x.2 ≤ L[k].fr)) (fun x => L.length - x.1) (0, 0)
    ⟨Nat.zero_le _, fun hk2 k hk _ => (hr.inside ((hmem _).1 (List.getElem_mem hk)) (hal hk2)).1⟩ (by simp (decide := true) [int, ints, tiersD, notesD]) ?_
  rintro ⟨i, e⟩ ⟨hi, he⟩
  simp only at hi he
  by_cases hlt : i < L.length
  case neg =>
    have hlt' : ¬ (i : Int) < L.length := by omega
    simp (decide := true) [int, ints, hil, hlt', I64]
    exact ⟨by omega, t + 1, htl, by omega, by omega⟩
  have hlt' : (i : Int) < L.length := by omega
  have hlt2 : i < (idsOf L).length := by omega
  obtain ⟨n, en⟩ : ∃ n, L[i] = n := ⟨_, rfl⟩
  have e2 : (idsOf L)[i]? = some n.id := by unfold idsOf; rw [List.getElem?_map, List.getElem?_eq_getElem hlt, en]; rfl
  have hgd : (idsOf L)[i]'hlt2 = n.id := by simp [idsOf, en]
  have hn : inT d t n := by rw [← en]; exact (hmem _).1 (List.getElem_mem hlt)
  have hgn := getN_of hr hn.1
  have hnt := hn.2
  have hstep : d.tiers[t].kind ≤ 2 → ∀ k (hk : k < L.length), i + 1 ≤ k → n.tO ≤ L[k].fr := by
    intro hk2 k hk hik
    have := hpw i k hlt hk hik
    rw [en] at this
    exact bef_apart hr t htl (hal hk2) n L[k] hn ((hmem _).1 (List.getElem_mem hk)) this
  have hin := fun hk2 => hr.inside hn (hal hk2)
  have hto := fun hk2 => hr.tolen t htl (hal hk2) n hn
  have hei := fun hk2 => he hk2 i hlt (Nat.le_refl _)
  rw [en] at hei
  simp (decide := true) [int, ints, hlt', hil]
  refine draw_f mixed 12 [] (by rfl) (by rfl) (by rfl) (by rfl) ?_
  simp (decide := true) [int, ints, hlt, hlt', hlt2, hil, e2, hgd]
  refine scall_pure (by rfl) (by rfl) (copyL_ok d h) (by simp (decide := true) [docD, Dc.row, int, tiersD, notesD]) ?_
  simp (decide := true) [int, ints, hlt, hlt', hlt2, hil, e2, hgd]
  refine scall_pure (by rfl) (by rfl) (get_ok d n.id (by omega)) (by simp (decide := true) [docD, Dc.row, int, ints, tiersD, notesD]) ?_
  rw [hgn]
  by_cases hk2 : d.tiers[t].kind ≤ 2
  · have hk2' : ¬ 2 < d.tiers[t].kind := by omega
    have i1 : ¬ n.fr < e := by have := hei hk2; omega
    have i2 : ¬ n.tO ≤ n.fr := by have := hin hk2; omega
    have i3 : ¬ d.len < n.tO := by have := hto hk2; omega
    simp (decide := true) [getD', Nt.row, Tir.row, int, ints, tiersD, hlt, hlt', hlt2, hil, e2, hgd, I64, hnt, htl, htl', e1, hk2', i1, i2, i3]
    exact ⟨by rfl, by omega, i + 1, n.tO, ⟨hlt, hstep⟩, by omega, by omega⟩
  · have hk2' : 2 < d.tiers[t].kind := by omega
    simp (decide := true) [getD', Nt.row, Tir.row, int, ints, tiersD, hlt, hlt', hlt2, hil, e2, hgd, I64, hnt, htl, htl', e1, hk2']
    exact ⟨by rfl, by omega, i + 1, e, ⟨hlt, fun hk => absurd hk hk2⟩, by omega, by omega⟩
end Go.V

/- The law of chapter 12 on notes that divide a span: whatever the document, it returns true. -/
namespace Go.V
open Go Go.Proofs

theorem kid_parts {d : Dc} (h : Rgt d) {n : Nt} (hn : n ∈ d.notes) {t : Nat} (ht : t < d.tiers.length) (hk : d.tiers[t].kind = 1) (hl : kidsN d n.id t ≠ []) :
    (∀ (k : Nat) (hk : k < (kidsN d n.id t).length), (kidsN d n.id t)[k].fr = if k = 0 then n.fr else (gN (kidsN d n.id t) (k - 1)).tO) ∧ (gN (kidsN d n.id t) ((kidsN d n.id t).length - 1)).tO = n.tO := by
  have hkd : (tirAt d t).kind = 1 := by rw [tirAt_nat d ht]; exact hk
  have hal : alK (tirAt d t).kind = true := by rw [hkd]; rfl
  have hm : ∀ m ∈ kidsN d n.id t, inT d t m ∧ m.par = n.id := fun m hm => (kid_mem ht).1 hm
  have hup : ∀ m ∈ kidsN d n.id t, upN d m = n := fun m hx => by unfold upN; rw [(hm m hx).2, getN_of h hn]
  refine parts_first (fun m hx => ?_) ?_ ?_ hl
  · have := h.inside (hm m hx).1 hal
    have h2 := this.2.2.2 (by rw [hkd]; decide)
    rw [hup m hx] at h2
    exact ⟨h2.1, this.2.1, h2.2⟩
  · exact (kid_sorted h ht).imp_of_mem fun {a b} ha hb hab => bef_apart h t ht hal a b (hm a ha).1 (hm b hb).1 hab
  · intro v h1 h2
    obtain ⟨m, r, er⟩ : ∃ m r, kidsN d n.id t = m :: r := List.exists_cons_of_ne_nil hl
    have hx : m ∈ kidsN d n.id t := by rw [er]; simp
    have hbad := (ter_iff.1 (h.ter t ht)).2 m (inT_iff.2 (hm m hx).1)
    rw [hkd] at hbad
    simp only [badR, decide_true, Bool.true_and, Bool.or_eq_false_iff, Bool.not_eq_false'] at hbad
    have hcov := coversS_iff.1 hbad.1.1
    have e := hup m hx
    unfold upN at e
    rw [e] at hcov
    obtain ⟨y, hy, _, y1, y2⟩ := hcov.2 v h1 h2
    obtain ⟨z, hz, rfl⟩ := List.mem_map.1 hy
    unfold sibs at hz
    rw [List.mem_filter, Bool.and_eq_true, decide_eq_true_eq, decide_eq_true_eq] at hz
    exact ⟨z, (kid_mem ht).2 ⟨⟨hz.1, hz.2.1⟩, by rw [hz.2.2, (hm m hx).2]⟩, y1, y2⟩
set_option maxHeartbeats 4000000 in
theorem law_parts (d : Dc) (h : d.lim) : PureR Tryd.prog 10 [docD d] (.bool true) := by
  have hl1 := h.notes
  have hl2 := h.tiers
  refine pure_of_body mixed Tryd.func10 rfl call_10 ?_
  by_cases h60 : 60 < d.notes.length
  · have h60' : (60 : Int) < d.notes.length := by omega
    simp (decide := true) [Tryd.f10, docD, Dc.row, int, notesD, h60, h60']
    refine ECall.pure (by rfl) awake12_R (by simp) ?_
    simp (decide := true)
  have h60' : ¬ (60 : Int) < d.notes.length := by omega
  simp (decide := true) [Tryd.f10, docD, Dc.row, int, notesD, h60, h60']
  refine ECall.pure (by rfl) (copyL_ok d h) (by simp (decide := true) [docD, Dc.row, int, notesD]) ?_
  simp (decide := true) [docD, Dc.row, int]
  refine ECall.pure (by rfl) (checkL_ok d h (by omega)) (by simp (decide := true) [docD, Dc.row, int, notesD]) ?_
  by_cases hc : checkE d = 0
  case neg =>
    simp (decide := true) [int, hc]
    refine ECall.pure (by rfl) awake12_R (by simp) ?_
    simp (decide := true)
  have hr := right_iff.1 hc
  simp (decide := true) [int, hc]
  refine loop_rule mixed (fun i : Nat => { n := 99, next := 1, slots := [(1, .bp 0 0), (3, .d (int i))], own := [(0, .box 32 (docCells d))] })
    (fun i => i ≤ d.notes.length) (fun i => d.notes.length - i) 0 (by simp) (by simp (decide := true) [int, ints, tiersD, notesD]) ?_
  intro i hi
  by_cases hil : i < d.notes.length
  case neg =>
    have hil' : ¬ (i : Int) < d.notes.length := by omega
    simp (decide := true) [int, notesD, hil']
    refine ECall.pure (by rfl) awake12_R (by simp) ?_
    simp (decide := true)
  have hil' : (i : Int) < d.notes.length := by omega
  obtain ⟨n, en'⟩ : ∃ n, d.notes[i] = n := ⟨_, rfl⟩
  have en : d.notes[i]? = some n := by rw [List.getElem?_eq_getElem hil, en']
  have hn : n ∈ d.notes := by rw [← en']; exact List.getElem_mem hil
  simp (decide := true) [int, notesD, Nt.row, hil, hil', en, en']
  refine loop_rule mixed (fun t : Nat => { n := 99, next := 2, slots := [(1, .bp 0 0), (3, .d (int i)), (4, .bp 1 0), (5, .d (int t))], own := [(0, .box 32 (docCells d)), (1, .box 39 (noteCells n))] })
    (fun t => t ≤ d.tiers.length) (fun t => d.tiers.length - t) 0 (by simp) (by simp (decide := true) [int, ints, tiersD, notesD]) ?_
  intro t ht
  by_cases htl : t < d.tiers.length
  case neg =>
    have htl' : ¬ (t : Int) < d.tiers.length := by omega
    simp (decide := true) [int, tiersD, htl', I64]
    exact ⟨by omega, i + 1, hil, by omega, by omega⟩
  have htl' : (t : Int) < d.tiers.length := by omega
  have e1 : d.tiers[t]? = some d.tiers[t] := List.getElem?_eq_getElem htl
  have hkd := kidsA_ok hr n.id t
  have hpar := kid_parts hr hn htl
  have hmem := fun x => kid_mem (d := d) (id := n.id) htl (x := x)
  have hlen := kids_len (d := d) n.id t
  rw [idsOf_length] at hlen
  generalize kidsN d n.id t = L at hkd hpar hmem hlen
  have hidl := idsOf_length L
  simp (decide := true) [int, tiersD, Nt.row, htl']
  refine scall_pure (by rfl) (by rfl) (copyL_ok d h) (by simp (decide := true) [docD, Dc.row, int, tiersD, notesD]) ?_
  simp (decide := true) [int]
  refine scall_pure (by rfl) (by rfl) hkd (by simp (decide := true) [docD, Dc.row, int]) ?_
  by_cases hk1 : d.tiers[t].kind = 1
  case neg =>
    simp (decide := true) [int, ints, tiersD, Tir.row, htl, htl', e1, hk1, I64]
    exact ⟨by omega, t + 1, htl, by omega, by omega⟩
  by_cases hL : L = []
  · subst hL
    simp (decide := true) [int, ints, idsOf, tiersD, Tir.row, htl, htl', e1, hk1, I64]
    exact ⟨by omega, t + 1, htl, by omega, by omega⟩
  obtain ⟨hp1, hp2⟩ := hpar hk1 hL
  have hL0 := List.length_pos_iff.2 hL
  have hL0' : ¬ (L.length : Int) = 0 := by omega
  simp (decide := true) [int, ints, tiersD, Tir.row, Nt.row, htl, htl', e1, hk1, I64, hidl, hL, hL0']
  refine loop_rule mixed (fun k : Nat => { n := 99, next := 2, slots := [(1, .bp 0 0), (3, .d (int i)), (4, .bp 1 0), (5, .d (int t)), (6, .d (ints (idsOf L))), (7, .d (int (if k = 0 then n.fr else (gN L (k - 1)).tO))), (8, .d (int k))], own := [(0, .box 32 (docCells d)), (1, .box 39 (noteCells n))] })
    (fun k => k ≤ L.length) (fun k => L.length - k) 0 (Nat.zero_le _) (by simp (decide := true) [int, ints, tiersD, notesD]) ?_
  intro k hk
  by_cases hlt : k < L.length
  case neg =>
    have : k = L.length := by omega
    subst this
    have : ¬ L.length = 0 := by omega
    simp (decide := true) [int, ints, hidl, I64, hp2, hL, this, Nt.row]
    exact ⟨by omega, t + 1, htl, by omega, by omega⟩
  have hlt' : (k : Int) < L.length := by omega
  have hlt2 : k < (idsOf L).length := by omega
  have hm := (hmem L[k]).1 (List.getElem_mem hlt)
  have hpk := hp1 k hlt
  obtain ⟨m, em⟩ : ∃ m, L[k] = m := ⟨_, rfl⟩
  have e2 : (idsOf L)[k]? = some m.id := by unfold idsOf; rw [List.getElem?_map, List.getElem?_eq_getElem hlt, em]; rfl
  have hgd : (idsOf L)[k]'hlt2 = m.id := by simp [idsOf, em]
  have hgm : gN L k = m := by rw [gN_eq hlt, em]
  rw [em] at hm hpk
  have hmp := hm.2
  have hgn := getN_of hr hm.1.1
  generalize hE : (if k = 0 then n.fr else (gN L (k - 1)).tO) = E at hpk
  simp (decide := true) [int, ints, hlt', hidl]
  refine draw_f mixed 12 [] (by rfl) (by rfl) (by rfl) (by rfl) ?_
  simp (decide := true) [int, ints, hlt, hlt', hlt2, hidl, e2, hgd]
  refine scall_pure (by rfl) (by rfl) (copyL_ok d h) (by simp (decide := true) [docD, Dc.row, int, tiersD, notesD]) ?_
  simp (decide := true) [int, ints, hlt, hlt', hlt2, hidl, e2, hgd]
  refine scall_pure (by rfl) (by rfl) (get_ok d m.id (by omega)) (by simp (decide := true) [docD, Dc.row, int, ints, tiersD, notesD]) ?_
  rw [hgn]
  simp (decide := true) [getD', Nt.row, Tir.row, int, ints, tiersD, hlt, hlt', hlt2, hidl, e2, hgd, I64, hpk, hmp]
  exact ⟨by rfl, by omega, k + 1, hlt, by omega, by simp [hgm], by omega⟩
end Go.V
