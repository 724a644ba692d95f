/- Contracts and plain laws of this seat: part ME. It needs no conditions. -/
import Derived.Test.YtnflnfmbgghbeaaGreatDoorMC
import Derived.Test.YtnflnfmbgghbeaaGreatDoorMD
set_option linter.unusedVariables false
set_option linter.unusedSimpArgs false
set_option linter.unusedSectionVars false
set_option maxRecDepth 100000
namespace Go.V
open Go Go.Proofs
section
variable {d : Dc}
theorem bef_apart (h : Rgt d) : ∀ (t : Nat), t < d.tiers.length → alK (tirAt d t).kind = true → ∀ a b, inT d t a → inT d t b → befT d t a b = true → a.tO ≤ b.fr := by
  intro t
  induction t using Nat.strongRecOn with
  | _ t ih =>
    intro ht hal a b ha hb hab
    by_cases hp : a.par = b.par
    · rw [bef_same hp, decide_eq_true_eq] at hab
      unfold keyT at hab
      rw [if_pos hal, if_pos hal] at hab
      exact h.sibs_apart ht hal ha hb hp hab
    · have hk : (tirAt d t).kind ≠ 0 := fun e => hp (by rw [h.root ha e, h.root hb e])
      have hu := h.up ht hk
      rw [bef_up hp hu.2] at hab
      have := ih _ hu.2 (by omega) (h.upal ht hk hal) _ _ (h.parent ha ht hk).1 (h.parent hb ht hk).1 hab
      have h1 := (h.inside ha hal).2.2.2 hk
      have h2 := (h.inside hb hal).2.2.2 hk
      omega
theorem parts_first {l : List Nt} {f u : Int} (hs : ∀ n ∈ l, f ≤ n.fr ∧ n.fr < n.tO ∧ n.tO ≤ u) (hp : l.Pairwise fun a b => a.tO ≤ b.fr) (hc : ∀ v, f ≤ v → v < u → ∃ n ∈ l, n.fr ≤ v ∧ v < n.tO) (hl : l ≠ []) :
    (∀ (k : Nat) (hk : k < l.length), l[k].fr = if k = 0 then f else (gN l (k - 1)).tO) ∧ (gN l (l.length - 1)).tO = u := by
  have hpw := List.pairwise_iff_getElem.1 hp
  have h0 := List.length_pos_iff.2 hl
  have hlast : ∀ j, j < l.length → (gN l j).tO ≤ (gN l (l.length - 1)).tO := by
    intro j hj
    rw [gN_eq hj, gN_eq (by omega)]
    rcases Nat.eq_or_lt_of_le (show j ≤ l.length - 1 by omega) with e | e
    · simp [← e]
    · have := hpw j (l.length - 1) hj (by omega) e
      have := hs l[l.length - 1] (List.getElem_mem _)
      omega
  refine ⟨fun k hk => ?_, ?_⟩
  · have hk' := hs l[k] (List.getElem_mem _)
    rcases Nat.eq_zero_or_pos k with rfl | hk0
    · rw [if_pos rfl]
      obtain ⟨n, hn, n1, n2⟩ := hc f (Int.le_refl _) (by omega)
      obtain ⟨j, hj, rfl⟩ := List.mem_iff_getElem.1 hn
      rcases Nat.eq_zero_or_pos j with rfl | hj0
      · omega
      · have := hpw 0 j hk hj hj0
        omega
    · rw [if_neg (by omega), gN_eq (by omega)]
      have h1 := hpw (k - 1) k (by omega) hk (by omega)
      have hm := hs (l[k - 1]'(by omega)) (List.getElem_mem _)
      apply Classical.byContradiction
      intro hne
      obtain ⟨n, hn, n1, n2⟩ := hc ((l[k - 1]'(by omega)).tO) (by omega) (by omega)
      obtain ⟨j, hj, rfl⟩ := List.mem_iff_getElem.1 hn
      rcases Nat.lt_trichotomy j k with e | rfl | e
      · rcases Nat.eq_or_lt_of_le (show j ≤ k - 1 by omega) with e2 | e2
        · subst e2; omega
        · have := hpw j (k - 1) hj (by omega) e2
          omega
      · omega
      · have := hpw k j hk hj e
        omega
  · have hm := hs (l[l.length - 1]'(by omega)) (List.getElem_mem _)
    have e := gN_eq (s := l) (i := l.length - 1) (by omega)
    rw [e]
    apply Classical.byContradiction
    intro hne
    obtain ⟨n, hn, n1, n2⟩ := hc ((l[l.length - 1]'(by omega)).tO) (by omega) (by omega)
    obtain ⟨j, hj, rfl⟩ := List.mem_iff_getElem.1 hn
    have := hlast j hj
    rw [e, gN_eq hj] at this
    omega
end
end Go.V
namespace Go.V
open Go Go.Proofs
theorem inc_getN {l : List Nt} (h : IncL l) {n : Nt} (hn : n ∈ l) : getN l n.id = (n, true) := by
  unfold getN
  cases hf : l.find? fun m => decide (m.id = n.id) with
  | none => rw [List.find?_eq_none] at hf; exact absurd (hf n hn) (by simp)
  | some m =>
    have h1 := List.mem_of_find?_eq_some hf
    have h2 : m.id = n.id := by simpa using List.find?_some hf
    rw [inc_uniq h h1 hn h2]
theorem place_of {d : Dc} {n : Nt} (h1 : (tirAt d n.tier).kind = 0 → n.par = 0) (h2 : (tirAt d n.tier).kind ≠ 0 → (getN d.notes n.par).2 = true ∧ (getN d.notes n.par).1.tier = (tirAt d n.tier).par)
    (h3 : withinP d n (getN d.notes n.par).1 = true) (h4 : 0 ≤ n.rank ∧ (n.rank = 0 ∨ (tirAt d n.tier).kind = 3)) : placeE d n = 0 := by
  unfold placeE
  rw [if_pos, if_pos h3, if_neg]
  · omega
  · by_cases hk : (tirAt d n.tier).kind = 0
    · rw [if_pos hk]; simpa using h1 hk
    · rw [if_neg hk]; simp [h2 hk]
def leftD (d : Dc) (S : List Int) (F : Nt → Nt) : Dc := { d with notes := woN S (d.notes.map F) }
def Kp (d : Dc) (S : List Int) (m : Nt) : Prop := m ∈ d.notes ∧ m.id ∉ S
structure Left (d : Dc) (S : List Int) (F : Nt → Nt) : Prop where
  keep : ∀ m, (F m).id = m.id ∧ (F m).tier = m.tier ∧ (F m).par = m.par ∧ (F m).text = m.text
  up : ∀ m, Kp d S m → ∀ p ∈ d.notes, p.id = m.par → p.id ∉ S
  al : ∀ m, Kp d S m → alK (tirAt d m.tier).kind = true → rightS (F m).fr (F m).tO = true ∧ ((tirAt d m.tier).kind = 0 → (F m).tO ≤ d.len) ∧ ((tirAt d m.tier).kind ≠ 0 → ∀ p, Kp d S p → p.id = m.par → (F p).fr ≤ (F m).fr ∧ (F m).tO ≤ (F p).tO)
  flat : ∀ m, Kp d S m → alK (tirAt d m.tier).kind = false → (F m).fr = 0 ∧ (F m).tO = 0
  rank : ∀ m, Kp d S m → 0 ≤ (F m).rank ∧ ((F m).rank = 0 ∨ (tirAt d m.tier).kind = 3)
  ov : ∀ a b, Kp d S a → Kp d S b → a ≠ b → a.tier = b.tier → a.par = b.par → alK (tirAt d a.tier).kind = true → NM (F a) (F b)
  gap : ∀ m p, Kp d S m → Kp d S p → p.id = m.par → (tirAt d m.tier).kind = 1 → ∀ v, (F p).fr ≤ v → v < (F p).tO → ∃ c, Kp d S c ∧ c.tier = m.tier ∧ c.par = m.par ∧ (F c).fr ≤ v ∧ v < (F c).tO
  ser : ∀ m, Kp d S m → (tirAt d m.tier).kind = 3 → ∀ j : Nat, j < (sibs (leftD d S F).notes m.tier m.par).length → ∃ c, Kp d S c ∧ c.tier = m.tier ∧ c.par = m.par ∧ (F c).rank = j
theorem Left.mem {d : Dc} {S : List Int} {F : Nt → Nt} (l : Left d S F) {x : Nt} : x ∈ (leftD d S F).notes ↔ ∃ m, Kp d S m ∧ F m = x := by
  unfold leftD woN
  rw [List.mem_filter, List.mem_map]
  constructor
  · rintro ⟨⟨m, hm, rfl⟩, hx⟩
    rw [(l.keep m).1] at hx
    exact ⟨m, ⟨hm, by simpa using hx⟩, rfl⟩
  · rintro ⟨m, ⟨hm, hS⟩, rfl⟩
    exact ⟨⟨m, hm, rfl⟩, by rw [(l.keep m).1]; simpa using hS⟩
theorem Left.inc {d : Dc} (h : Rgt d) {S : List Int} {F : Nt → Nt} (l : Left d S F) : IncL (leftD d S F).notes := by
  have : IncL (d.notes.map F) := IncL.map h.inc fun n => (l.keep n).1
  exact this.sublist List.filter_sublist
theorem Left.sib {d : Dc} {S : List Int} {F : Nt → Nt} (l : Left d S F) {t p : Int} {x : Nt} : x ∈ sibs (leftD d S F).notes t p ↔ ∃ m, Kp d S m ∧ F m = x ∧ m.tier = t ∧ m.par = p := by
  unfold sibs
  rw [List.mem_filter, l.mem]
  constructor
  · rintro ⟨⟨m, hm, rfl⟩, hx⟩
    rw [(l.keep m).2.1, (l.keep m).2.2.1, Bool.and_eq_true, decide_eq_true_eq, decide_eq_true_eq] at hx
    exact ⟨m, hm, rfl, hx.1, hx.2⟩
  · rintro ⟨m, hm, rfl, h1, h2⟩
    exact ⟨⟨m, hm, rfl⟩, by rw [(l.keep m).2.1, (l.keep m).2.2.1, h1, h2]; simp⟩
theorem Left.right {d : Dc} (h : Rgt d) {S : List Int} {F : Nt → Nt} (l : Left d S F) : Rgt (leftD d S F) := by
  have hinc := l.inc h
  have hmem := fun x => l.mem (x := x)
  have hpar : ∀ m, Kp d S m → (tirAt d m.tier).kind ≠ 0 → ∃ p, Kp d S p ∧ p.id = m.par ∧ p.tier = (tirAt d m.tier).par ∧ getN (leftD d S F).notes m.par = (F p, true) := by
    intro m hm hk
    have hok := note_of h.good hm.1
    have hp := (place_iff hok.place).2.1 hk
    obtain ⟨p1, p2⟩ := getN_mem hp.1
    have hS := l.up m hm _ p1 p2
    refine ⟨_, ⟨p1, hS⟩, p2, hp.2, ?_⟩
    have hFm : F (getN d.notes m.par).1 ∈ (leftD d S F).notes := (hmem _).2 ⟨_, ⟨p1, hS⟩, rfl⟩
    have := inc_getN hinc hFm
    rw [(l.keep _).1, p2] at this
    exact this
  have hnok : ∀ x ∈ (leftD d S F).notes, Nok (leftD d S F) x := by
    intro x hx
    obtain ⟨m, hm, rfl⟩ := (hmem x).1 hx
    have hN := h.nok m hm.1
    obtain ⟨k1, k2, k3, k4⟩ := l.keep m
    refine ⟨by rw [k1]; exact hN.lo, by rw [k1]; exact hN.hi, by rw [k2]; exact hN.t0, by rw [k2]; exact hN.t1, ?_⟩
    have he := hN.e
    rw [noteE_place] at he ⊢
    rw [k4]
    have htx : textE m.text = 0 := by
      by_cases e : textE m.text = 0
      · exact e
      · rw [if_neg e] at he; exact absurd he e
    rw [if_pos htx]
    have htir : ∀ i, tirAt (leftD d S F) i = tirAt d i := fun _ => rfl
    have hok := note_of h.good hm.1
    refine place_of ?_ ?_ ?_ ?_
    · rw [htir, k2, k3]; exact (place_iff hok.place).1
    · rw [htir, k2, k3]
      intro hk
      obtain ⟨p, hp, hpi, hpt, hg⟩ := hpar m hm hk
      rw [hg]
      exact ⟨rfl, by rw [(l.keep p).2.1]; exact hpt⟩
    · unfold withinP
      rw [htir, k2, k3]
      have halT : alT (leftD d S F).tiers m.tier = alK (tirAt d m.tier).kind := alT_at (d := d) hok.t0 hok.t1
      rw [halT]
      cases hal : alK (tirAt d m.tier).kind with
      | true =>
        rw [if_pos rfl]
        obtain ⟨a1, a2, a3⟩ := l.al m hm hal
        rw [a1, Bool.true_and]
        have a4 : 0 ≤ (F m).fr := by simp only [rightS, Bool.and_eq_true, decide_eq_true_eq] at a1; exact a1.1.1
        by_cases hk : (tirAt d m.tier).kind = 0
        · rw [if_pos hk, decide_eq_true a4, Bool.true_and, decide_eq_true_eq]
          exact a2 hk
        · rw [if_neg hk]
          obtain ⟨p, hp, hpi, hpt, hg⟩ := hpar m hm hk
          rw [hg, Bool.and_eq_true, decide_eq_true_eq, decide_eq_true_eq]
          exact a3 hk p hp hpi
      | false =>
        rw [if_neg Bool.false_ne_true, Bool.and_eq_true, decide_eq_true_eq, decide_eq_true_eq]
        exact l.flat m hm hal
    · rw [htir, k2]; exact l.rank m hm
  refine ⟨h.tiers, h.len, ?_, hnok, hinc, ?_⟩
  · have : (leftD d S F).notes.length ≤ (d.notes.map F).length := List.length_filter_le _ _
    rw [List.length_map] at this
    exact Nat.le_trans this h.few
  · intro t ht
    have ht' : t < d.tiers.length := ht
    have htir : tirAt (leftD d S F) t = tirAt d t := rfl
    rw [ter_iff, htir]
    refine ⟨fun x hx => ?_, fun x hx => ?_⟩
    · obtain ⟨m, hm, rfl⟩ := (hmem x).1 (inT_iff.1 hx).1
      have hmt : m.tier = t := by have := (inT_iff.1 hx).2; rw [(l.keep m).2.1] at this; exact this
      unfold ovR
      cases hal : alK (tirAt d t).kind with
      | false => rfl
      | true =>
        rw [Bool.true_and, over_pair]
        have hsub : (sibs (leftD d S F).notes t (F m).par).Pairwise fun a b => a.id < b.id := hinc.sublist List.filter_sublist
        refine hsub.imp_of_mem fun {a b} ha hb hab => ?_
        obtain ⟨a0, ha0, rfl, ta, pa⟩ := l.sib.1 ha
        obtain ⟨b0, hb0, rfl, tb, pb⟩ := l.sib.1 hb
        refine l.ov a0 b0 ha0 hb0 (fun e => by rw [e] at hab; omega) (by rw [ta, tb]) (by rw [pa, pb]) (by rw [ta]; exact hal)
    · obtain ⟨m, hm, rfl⟩ := (hmem x).1 (inT_iff.1 hx).1
      have hmt : m.tier = t := by have := (inT_iff.1 hx).2; rw [(l.keep m).2.1] at this; exact this
      have hkm : (tirAt d m.tier).kind = (tirAt d t).kind := by rw [hmt]
      unfold badR
      rw [(l.keep m).2.2.1]
      have hlab : (tirAt d t).kind = 4 → ¬ 1 < (sibs (leftD d S F).notes t m.par).length := by
        intro k4 hgt
        have hb := (ter_iff.1 (h.ter t ht')).2 m (inT_iff.2 ⟨hm.1, hmt⟩)
        rw [k4] at hb
        simp [badR] at hb
        have hs : (sibs (leftD d S F).notes t m.par).length ≤ (sibs d.notes t m.par).length := by
          have e1 : sibs (leftD d S F).notes t m.par = woN S (sibs (d.notes.map F) t m.par) := by
            unfold leftD woN sibs
            simp only [List.filter_filter]
            exact List.filter_congr fun y _ => by rw [Bool.and_comm]
          have e2 : sibs (d.notes.map F) t m.par = (sibs d.notes t m.par).map F := by
            unfold sibs
            rw [List.filter_map]
            congr 1
            exact List.filter_congr fun y _ => by simp only [Function.comp, (l.keep y).2.1, (l.keep y).2.2.1]
          rw [e1, e2]
          exact Nat.le_trans (List.length_filter_le _ _) (by rw [List.length_map]; exact Nat.le_refl _)
        omega
      by_cases k1 : (tirAt d t).kind = 1
      · obtain ⟨p, hp, hpi, hpt, hg⟩ := hpar m hm (by rw [hkm, k1]; decide)
        have hcov : coversS (spansOf (sibs (leftD d S F).notes t m.par)) ⟨(getN (leftD d S F).notes m.par).1.fr, (getN (leftD d S F).notes m.par).1.tO⟩ = true := by
          rw [hg, coversS_iff]
          have hpk := note_of h.good hp.1
          obtain ⟨u, eu⟩ : ∃ u : Nat, p.tier = u := ⟨p.tier.toNat, by have := hpk.t0; omega⟩
          have hpal : alK (tirAt d p.tier).kind = true := by
            have := h.upal ht' (by rw [k1]; decide) (by rw [k1]; rfl)
            rw [hpt, hmt]
            have h0 := (h.up ht' (by rw [k1]; decide)).1
            rwa [show ((tirAt d ↑t).par.toNat : Int) = (tirAt d ↑t).par by omega] at this
          refine ⟨(l.al p hp hpal).1, fun v v1 v2 => ?_⟩
          obtain ⟨c, hc, c1, c2, c3, c4⟩ := l.gap m p hm hp hpi (by rw [hkm, k1]) v v1 v2
          exact ⟨⟨(F c).fr, (F c).tO⟩, List.mem_map.2 ⟨F c, l.sib.2 ⟨c, hc, rfl, by rw [c1, hmt], c2⟩, rfl⟩, (l.al c hc (by rw [c1, hkm, k1]; rfl)).1, c3, c4⟩
        rw [hcov]
        simp [k1]
      · by_cases k3 : (tirAt d t).kind = 3
        · have hrk : rankP (sibs (leftD d S F).notes t m.par) = true := by
            rw [rankP_true]
            intro j hj
            rw [← hmt] at hj
            obtain ⟨c, hc, c1, c2, c3⟩ := l.ser m hm (by rw [hkm, k3]) j hj
            rw [List.any_eq_true]
            exact ⟨F c, l.sib.2 ⟨c, hc, rfl, by rw [c1, hmt], c2⟩, by simpa using c3⟩
          rw [hrk]
          simp [k3]
        · by_cases k4 : (tirAt d t).kind = 4
          · have := hlab k4
            simp [k4]
            omega
          · simp [k1, k3, k4]
end Go.V
namespace Go.V
open Go Go.Proofs
theorem Rgt.tt {d : Dc} (h : Rgt d) {m : Nt} (hm : m ∈ d.notes) : ∃ t : Nat, t < d.tiers.length ∧ m.tier = t := by
  have hok := note_of h.good hm
  exact ⟨m.tier.toNat, by have := hok.t0; have := hok.t1; omega, by have := hok.t0; omega⟩
theorem Rgt.nm {d : Dc} (h : Rgt d) {a b : Nt} (ha : a ∈ d.notes) (hb : b ∈ d.notes) (hne : a ≠ b) (ht : a.tier = b.tier) (hp : a.par = b.par) (hal : alK (tirAt d a.tier).kind = true) : a.tO ≤ b.fr ∨ b.tO ≤ a.fr := by
  obtain ⟨t, htl, et⟩ := h.tt ha
  rw [et] at hal
  have ia : inT d t a := ⟨ha, et⟩
  have ib : inT d t b := ⟨hb, by rw [← ht]; exact et⟩
  have hk : keyT d t a ≠ keyT d t b := fun e => hne (h.keys htl ia ib hp e)
  unfold keyT at hk
  rw [if_pos hal, if_pos hal] at hk
  rcases Int.lt_or_gt_of_ne hk with h1 | h1
  · exact .inl (h.sibs_apart htl hal ia ib hp h1)
  · exact .inr (h.sibs_apart htl hal ib ia hp.symm h1)
theorem Rgt.upof {d : Dc} (h : Rgt d) {m p : Nt} (hm : m ∈ d.notes) (hp : p ∈ d.notes) (e : p.id = m.par) : upN d m = p := by
  have := getN_of h hp
  rw [e] at this
  unfold upN; rw [this]
theorem Rgt.span {d : Dc} (h : Rgt d) {m : Nt} (hm : m ∈ d.notes) (hal : alK (tirAt d m.tier).kind = true) :
    rightS m.fr m.tO = true ∧ ((tirAt d m.tier).kind = 0 → m.tO ≤ d.len) ∧ ((tirAt d m.tier).kind ≠ 0 → ∀ p ∈ d.notes, p.id = m.par → p.fr ≤ m.fr ∧ m.tO ≤ p.tO) := by
  obtain ⟨t, htl, et⟩ := h.tt hm
  have hr := right_of (note_of h.good hm) hal
  rw [et] at hal ⊢
  have hi := h.inside (t := t) ⟨hm, et⟩ hal
  refine ⟨hr, hi.2.2.1, fun hk p hp e => ?_⟩
  have := hi.2.2.2 hk
  rw [h.upof hm hp e] at this
  exact this
theorem Rgt.cover {d : Dc} (h : Rgt d) {m p : Nt} (hm : m ∈ d.notes) (hp : p ∈ d.notes) (e : p.id = m.par) (hk : (tirAt d m.tier).kind = 1) {v : Int} (v1 : p.fr ≤ v) (v2 : v < p.tO) :
    ∃ c ∈ d.notes, c.tier = m.tier ∧ c.par = m.par ∧ c.fr ≤ v ∧ v < c.tO := by
  obtain ⟨t, htl, et⟩ := h.tt hm
  rw [et] at hk ⊢
  have hbad := (ter_iff.1 (h.ter t htl)).2 m (inT_iff.2 ⟨hm, et⟩)
  rw [hk] at hbad
  simp only [badR, decide_true, Bool.true_and, Bool.or_eq_false_iff, Bool.not_eq_false'] at hbad
  have hcov := coversS_iff.1 hbad.1.1
  have e2 := h.upof hm hp e
  unfold upN at e2
  rw [e2] at hcov
  obtain ⟨y, hy, _, y1, y2⟩ := hcov.2 v v1 v2
  obtain ⟨z, hz, rfl⟩ := List.mem_map.1 hy
  unfold sibs at hz
  rw [List.mem_filter, Bool.and_eq_true, decide_eq_true_eq, decide_eq_true_eq] at hz
  exact ⟨z, hz.1, hz.2.1, hz.2.2, y1, y2⟩
theorem sub_up {d : Dc} {n m p : Nt} (hm : m ∈ d.notes) (hp : p ∈ d.notes) (e : p.id = m.par) (hS : m.id ∉ subIds d n.id) : p.id ∉ subIds d n.id := by
  intro hpS
  apply hS
  rw [sub_mem] at hpS ⊢
  exact ⟨.kid m hm (by rw [← e]; exact hpS.1), m, hm, rfl⟩
theorem dsc_inv {d : Dc} {id x : Int} (h : Dsc d id x) : x = id ∨ ∃ k ∈ d.notes, k.id = x ∧ Dsc d id k.par := by
  cases h with
  | self => exact .inl rfl
  | kid k hk hp => exact .inr ⟨k, hk, rfl, hp⟩
end Go.V
namespace Go.V
open Go Go.Proofs
inductive Chn (d : Dc) (en : Bool) (y : Nt) : Nt → Prop
  | top : Chn d en y y
  | kid (p : Nt) (t : Int) : Chn d en y p → t ∈ kidsT d.tiers p.tier → kindI d t = 1 → kidsN d p.id t ≠ [] → Chn d en y (extPick en (kidsN d p.id t))
open Classical in
noncomputable def mrk (en : Bool) (time : Int) (P : Nt → Prop) (m : Nt) : Nt := if P m then setTm en time m else m
theorem mrk_yes {en : Bool} {time : Int} {P : Nt → Prop} {m : Nt} (h : P m) : mrk en time P m = setTm en time m := by unfold mrk; rw [if_pos h]
theorem mrk_no {en : Bool} {time : Int} {P : Nt → Prop} {m : Nt} (h : ¬ P m) : mrk en time P m = m := by unfold mrk; rw [if_neg h]
theorem mrk_skel (en : Bool) (time : Int) (P : Nt → Prop) (m : Nt) : skel (mrk en time P m) = skel m := by
  by_cases h : P m
  · rw [mrk_yes h, setTm_skel]
  · rw [mrk_no h]
theorem mrk_id (en : Bool) (time : Int) (P : Nt → Prop) (m : Nt) : (mrk en time P m).id = m.id := congrArg (fun x => x.1) (mrk_skel en time P m)
theorem mrk_congr {en : Bool} {time : Int} {P Q : Nt → Prop} {l : List Nt} (h : ∀ m ∈ l, P m ↔ Q m) : l.map (mrk en time P) = l.map (mrk en time Q) := by
  refine List.map_congr_left fun m hm => ?_
  by_cases e : P m
  · rw [mrk_yes e, mrk_yes ((h m hm).1 e)]
  · rw [mrk_no e, mrk_no fun e2 => e ((h m hm).2 e2)]
theorem kids_in {d : Dc} {id t : Int} (h0 : 0 ≤ t) (h1 : t < d.tiers.length) {x : Nt} (hx : x ∈ kidsN d id t) : x ∈ d.notes ∧ x.tier = t ∧ x.par = id := by
  obtain ⟨v, rfl⟩ : ∃ v : Nat, t = v := ⟨t.toNat, by omega⟩
  have := (kid_mem (d := d) (t := v) (by omega)).1 hx
  exact ⟨this.1.1, this.1.2, this.2⟩
theorem dsc_trans {d : Dc} {a b c : Int} (h1 : Dsc d a b) (h2 : Dsc d b c) : Dsc d a c := by
  induction h2 with
  | self => exact h1
  | kid n hn _ ih => exact .kid n hn ih
theorem dsc_fork {d : Dc} (h : Rgt d) {x x' : Nt} (hx : x ∈ d.notes) (hx' : x' ∈ d.notes) (hp : x.par = x'.par) (hne : x ≠ x') {z : Int} (h1 : Dsc d x.id z) : ¬ Dsc d x'.id z := by
  induction h1 with
  | self =>
    intro h2
    rcases dsc_inv h2 with e | ⟨k, hk, hki, hkp⟩
    · exact hne (ids_uniq h hx hx' e)
    · have := ids_uniq h hk hx hki
      subst this
      rw [hp] at hkp
      exact desc_top h hx' rfl hkp
  | kid m hm hd ih =>
    intro h2
    rcases dsc_inv h2 with e | ⟨k, hk, hki, hkp⟩
    · have := ids_uniq h hm hx' e
      subst this
      rw [← hp] at hd
      exact desc_top h hx rfl hd
    · have := ids_uniq h hk hm hki
      subst this
      exact ih hkp
theorem chn_pick {d : Dc} {en : Bool} {p : Nt} {t : Int} (ht : t ∈ kidsT d.tiers p.tier) (hne : kidsN d p.id t ≠ []) : extPick en (kidsN d p.id t) ∈ d.notes ∧ (extPick en (kidsN d p.id t)).tier = t ∧ (extPick en (kidsN d p.id t)).par = p.id := by
  have hm := kidsT_mem ht
  exact kids_in hm.1 hm.2.1 (pick_mem hne)
theorem chn_mem {d : Dc} {en : Bool} {y m : Nt} (hy : y ∈ d.notes) (h : Chn d en y m) : m ∈ d.notes := by
  cases h with
  | top => exact hy
  | kid p t _ ht _ hne => exact (chn_pick ht hne).1
theorem chn_dsc {d : Dc} {en : Bool} {y m : Nt} (h : Chn d en y m) : Dsc d y.id m.id := by
  induction h with
  | top => exact .self
  | kid p t _ ht _ hne ih =>
    obtain ⟨h1, _, h3⟩ := chn_pick (en := en) ht hne
    exact .kid _ h1 (by rw [h3]; exact ih)
theorem chn_inv {d : Dc} {en : Bool} {y m : Nt} (h : Chn d en y m) : m = y ∨ ∃ p t, Chn d en y p ∧ t ∈ kidsT d.tiers p.tier ∧ kindI d t = 1 ∧ kidsN d p.id t ≠ [] ∧ m = extPick en (kidsN d p.id t) := by
  cases h with
  | top => exact .inl rfl
  | kid p t hp ht hk hne => exact .inr ⟨p, t, hp, ht, hk, hne, rfl⟩
theorem chn_head {d : Dc} {en : Bool} {y m : Nt} : Chn d en y m ↔ m = y ∨ ∃ t ∈ kidsT d.tiers y.tier, kindI d t = 1 ∧ kidsN d y.id t ≠ [] ∧ Chn d en (extPick en (kidsN d y.id t)) m := by
  constructor
  · intro h
    induction h with
    | top => exact .inl rfl
    | kid p t hp ht hk hne ih =>
      right
      rcases ih with e | ⟨u, hu, hku, hnu, hc⟩
      · subst e; exact ⟨t, ht, hk, hne, .top⟩
      · exact ⟨u, hu, hku, hnu, .kid p t hc ht hk hne⟩
  · rintro (rfl | ⟨t, ht, hk, hne, hc⟩)
    · exact .top
    · induction hc with
      | top => exact .kid _ t .top ht hk hne
      | kid p u _ hu hku hnu ih => exact .kid p u ih hu hku hnu
theorem kids_marked {d : Dc} {en : Bool} {time : Int} {Q : Nt → Prop} {id t : Int} (h : ∀ m ∈ d.notes, m.tier = t → m.par = id → ¬ Q m) : kidsN { d with notes := d.notes.map (mrk en time Q) } id t = kidsN d id t := by
  unfold kidsN
  congr 1
  have hk : ∀ m : Nt, kidB { d with notes := d.notes.map (mrk en time Q) } id t m = kidB d id t m := fun _ => rfl
  rw [List.filter_map]
  have : d.notes.filter (kidB { d with notes := d.notes.map (mrk en time Q) } id t ∘ mrk en time Q) = d.notes.filter (kidB d id t) := by
    refine List.filter_congr fun m _ => ?_
    have hs := mrk_skel en time Q m
    simp only [skel, Prod.mk.injEq] at hs
    simp only [Function.comp, kidB, hs.2.1, hs.2.2.1]
  rw [this]
  conv => rhs; rw [← List.map_id (d.notes.filter (kidB d id t))]
  refine List.map_congr_left fun m hm => ?_
  rw [List.mem_filter] at hm
  have hb := hm.2
  simp only [kidB, Bool.and_eq_true, decide_eq_true_eq] at hb
  rw [mrk_no (h m hm.1 hb.1.1.1 hb.1.1.2)]; rfl
def Pre (d : Dc) (en : Bool) (y : Nt) (M : Nt → Prop) (us : List Int) (m : Nt) : Prop := M m ∨ m = y ∨ ∃ t ∈ us, kindI d t = 1 ∧ kidsN d y.id t ≠ [] ∧ Chn d en (extPick en (kidsN d y.id t)) m
theorem extP_map {d : Dc} (h : Rgt d) (time : Int) (en : Bool) : ∀ (f : Nat) (y : Nt), y ∈ d.notes → d.tiers.length ≤ y.tier.toNat + f → ∀ M : Nt → Prop, (∀ m ∈ d.notes, Dsc d y.id m.id → ¬ M m) →
    extP d time en f (d.notes.map (mrk en time M)) y.id = d.notes.map (mrk en time fun m => M m ∨ Chn d en y m)
  | 0, y, hy, hf, M, hM => by
    have := (note_of h.good hy).t1
    have := (note_of h.good hy).t0
    omega
  | f + 1, y, hy, hf, M, hM => by
    have hok := note_of h.good hy
    have hMy : ¬ M y := hM y hy .self
    obtain ⟨k, hk, hat, hky⟩ := inc_at h.inc hy
    have hat2 : atI (d.notes.map (mrk en time M)) y.id = k := by rw [atI_map (mrk_id en time M), hat]
    have hkl : k < (d.notes.map (mrk en time M)).length := by rw [List.length_map]; exact hk
    have hget : (d.notes.map (mrk en time M))[k]'hkl = y := by rw [List.getElem_map, hky, mrk_no hMy]
    have hl1 : (d.notes.map (mrk en time M)).set k (setTm en time y) = d.notes.map (mrk en time (Pre d en y M [])) := by
      have := set_ids (IncL.map h.inc (mrk_id en time M)) hkl (a := y.id) (by rw [hget]) (setTm en time)
      rw [hget] at this
      rw [this, List.map_map]
      refine List.map_congr_left fun m hm => ?_
      simp only [Function.comp, mrk_id]
      by_cases e : m.id = y.id
      · have : m = y := ids_uniq h hm hy e
        subst this
        rw [if_pos rfl, mrk_no hMy, mrk_yes (.inr (.inl rfl))]
      · rw [if_neg e]
        have hne : m ≠ y := fun e2 => e (by rw [e2])
        by_cases hm2 : M m
        · rw [mrk_yes hm2, mrk_yes (.inl hm2)]
        · rw [mrk_no hm2, mrk_no]
          rintro (e2 | e2 | ⟨_, e3, _⟩)
          · exact hm2 e2
          · exact hne e2
          · cases e3
    rw [extP, hat2, Int.toNat_natCast, List.getElem?_eq_getElem hkl, Option.getD_some, hget, hl1]
    have hnd := kidsT_nodup d.tiers y.tier
    have hTm : ∀ t ∈ kidsT d.tiers y.tier, t ∈ kidsT d.tiers y.tier := fun _ h => h
    have key : ∀ (ts us : List Int), us ++ ts = kidsT d.tiers y.tier → ts.foldl (extStep d en (extP d time en f) y.id) (d.notes.map (mrk en time (Pre d en y M us))) = d.notes.map (mrk en time (Pre d en y M (kidsT d.tiers y.tier))) := by
      intro ts
      induction ts with
      | nil => intro us e; rw [List.append_nil] at e; rw [e]; rfl
      | cons t r ih =>
        intro us e
        rw [List.foldl_cons]
        have htm : t ∈ kidsT d.tiers y.tier := by rw [← e]; simp
        have htT := kidsT_mem htm
        have hus : ∀ u ∈ us, u ∈ kidsT d.tiers y.tier ∧ u ≠ t := by
          intro u hu
          refine ⟨by rw [← e]; simp [hu], fun e2 => ?_⟩
          rw [← e, List.nodup_append] at hnd
          exact hnd.2.2 u hu t (by simp) e2
        have hunm : ∀ m ∈ d.notes, m.tier = t → m.par = y.id → ¬ Pre d en y M us m := by
          rintro m hm hmt hmp (e2 | e2 | ⟨u, hu, hku, hnu, hc⟩)
          · exact hM m hm (.kid m hm (by rw [hmp]; exact .self)) e2
          · rw [e2] at hmp; exact h.selfpar hy hmp
          · obtain ⟨huT, hut⟩ := hus u hu
            obtain ⟨x1, x2, x3⟩ := chn_pick (en := en) huT hnu
            rcases dsc_inv (chn_dsc hc) with e3 | ⟨k', hk', hki, hkp⟩
            · have := ids_uniq h hm x1 e3
              rw [this, x2] at hmt
              exact hut hmt
            · have := ids_uniq h hk' hm hki
              subst this
              rw [hmp] at hkp
              exact desc_top h x1 rfl (by rw [x3]; exact hkp)
        have hst : extStep d en (extP d time en f) y.id (d.notes.map (mrk en time (Pre d en y M us))) t = d.notes.map (mrk en time (Pre d en y M (us ++ [t]))) := by
          unfold extStep
          rw [kids_marked hunm]
          by_cases hc : kindI d t = 1 ∧ kidsN d y.id t ≠ []
          · rw [if_pos hc]
            obtain ⟨x1, x2, x3⟩ := chn_pick (en := en) htm hc.2
            have hxt := note_of h.good x1
            have hup := kind_up h t.toNat (by omega) (by rw [show ((t.toNat : Nat) : Int) = t by omega]; exact hc.1) y.tier htT.2.2.1
            have hrec := extP_map h time en f _ x1 (by have := hok.t0; rw [x2]; omega) (Pre d en y M us) (by
              rintro m hm hd (e2 | e2 | ⟨u, hu, hku, hnu, hcu⟩)
              · exact hM m hm (dsc_trans (.kid _ x1 (by rw [x3]; exact .self)) hd) e2
              · rw [e2] at hd; exact desc_top h x1 rfl (by rw [x3]; exact hd)
              · obtain ⟨huT, hut⟩ := hus u hu
                obtain ⟨z1, z2, z3⟩ := chn_pick (en := en) huT hnu
                refine dsc_fork h x1 z1 (by rw [x3, z3]) (fun e3 => hut ?_) hd (chn_dsc hcu)
                rw [← z2, ← e3, x2])
            rw [hrec]
            refine mrk_congr fun m _ => ?_
            unfold Pre
            constructor
            · rintro ((e2 | e2 | ⟨u, hu, hh⟩) | e2)
              · exact .inl e2
              · exact .inr (.inl e2)
              · exact .inr (.inr ⟨u, by simp [hu], hh⟩)
              · exact .inr (.inr ⟨t, by simp, hc.1, hc.2, e2⟩)
            · rintro (e2 | e2 | ⟨u, hu, hh⟩)
              · exact .inl (.inl e2)
              · exact .inl (.inr (.inl e2))
              · rcases List.mem_append.1 hu with hu | hu
                · exact .inl (.inr (.inr ⟨u, hu, hh⟩))
                · rw [List.mem_singleton] at hu; subst hu; exact .inr hh.2.2
          · rw [if_neg hc]
            refine mrk_congr fun m _ => ?_
            unfold Pre
            constructor
            · rintro (e2 | e2 | ⟨u, hu, hh⟩)
              · exact .inl e2
              · exact .inr (.inl e2)
              · exact .inr (.inr ⟨u, by simp [hu], hh⟩)
            · rintro (e2 | e2 | ⟨u, hu, hh⟩)
              · exact .inl e2
              · exact .inr (.inl e2)
              · rcases List.mem_append.1 hu with hu | hu
                · exact .inr (.inr ⟨u, hu, hh⟩)
                · rw [List.mem_singleton] at hu; subst hu; exact absurd ⟨hh.1, hh.2.1⟩ hc
        rw [hst]
        exact ih (us ++ [t]) (by rw [← e]; simp)
    rw [key (kidsT d.tiers y.tier) [] rfl]
    refine mrk_congr fun m _ => ?_
    unfold Pre
    rw [chn_head]
theorem extP_all {d : Dc} (h : Rgt d) (time : Int) (en : Bool) {y : Nt} (hy : y ∈ d.notes) : extP d time en d.tiers.length d.notes y.id = d.notes.map (mrk en time (Chn d en y)) := by
  have := extP_map h time en d.tiers.length y hy (by omega) (fun _ => False) (fun _ _ _ e => e)
  have e1 : d.notes.map (mrk en time fun _ => False) = d.notes := by
    conv => rhs; rw [← List.map_id d.notes]
    exact List.map_congr_left fun m _ => mrk_no (fun e => e)
  rw [e1] at this
  rw [this]
  exact mrk_congr fun m _ => ⟨fun e => e.elim False.elim (fun e => e), .inr⟩
end Go.V
namespace Go.V
open Go Go.Proofs
theorem parts_of {d : Dc} (h : Rgt d) {n : Nt} (hn : n ∈ d.notes) {t : Nat} (ht : t < d.tiers.length) (hkd : (tirAt d t).kind = 1) (hl : kidsN d n.id t ≠ []) :
    (∀ (k : Nat) (hk : k < (kidsN d n.id t).length), (kidsN d n.id t)[k].fr = if k = 0 then n.fr else (gN (kidsN d n.id t) (k - 1)).tO) ∧ (gN (kidsN d n.id t) ((kidsN d n.id t).length - 1)).tO = n.tO := by
  have hal : alK (tirAt d t).kind = true := by rw [hkd]; rfl
  have hm : ∀ m ∈ kidsN d n.id t, inT d t m ∧ m.par = n.id := fun m hm => (kid_mem ht).1 hm
  have hup : ∀ m ∈ kidsN d n.id t, upN d m = n := fun m hx => by unfold upN; rw [(hm m hx).2, getN_of h hn]
  refine parts_first (fun m hx => ?_) ?_ ?_ hl
  · have := h.inside (hm m hx).1 hal
    have h2 := this.2.2.2 (by rw [hkd]; decide)
    rw [hup m hx] at h2
    exact ⟨h2.1, this.2.1, h2.2⟩
  · exact (kid_sorted h.w ht).imp_of_mem fun {a b} ha hb hab => bef_apart h t ht hal a b (hm a ha).1 (hm b hb).1 hab
  · intro v h1 h2
    obtain ⟨m, r, er⟩ : ∃ m r, kidsN d n.id t = m :: r := List.exists_cons_of_ne_nil hl
    have hx : m ∈ kidsN d n.id t := by rw [er]; simp
    obtain ⟨c, hc, c1, c2, c3, c4⟩ := h.cover (hm m hx).1.1 hn (hm m hx).2.symm (by rw [(hm m hx).1.2]; exact hkd) h1 h2
    exact ⟨c, (kid_mem ht).2 ⟨⟨hc, by rw [c1]; exact (hm m hx).1.2⟩, by rw [c2, (hm m hx).2]⟩, c3, c4⟩
theorem kind_at {d : Dc} {t : Int} (h0 : 0 ≤ t) (h1 : t < d.tiers.length) : kindI d t = (tirAt d t).kind := by
  obtain ⟨v, rfl⟩ : ∃ v : Nat, t = v := ⟨t.toNat, by omega⟩
  exact kindI_at (by omega)
theorem chn_kind {d : Dc} {en : Bool} {y m : Nt} (hy : (tirAt d y.tier).kind = 1) (h : Chn d en y m) : (tirAt d m.tier).kind = 1 := by
  rcases chn_inv h with rfl | ⟨p, t, hp, ht, hk, hne, rfl⟩
  · exact hy
  · have hm := kidsT_mem ht
    rw [(chn_pick ht hne).2.1, ← kind_at hm.1 hm.2.1]
    exact hk
theorem chn_adj {d : Dc} (h : Rgt d) {en : Bool} {y m : Nt} (hy : y ∈ d.notes) (hc : Chn d en y m) : if en = true then m.tO = y.tO else m.fr = y.fr := by
  induction hc with
  | top => split <;> rfl
  | kid p t hp ht hk hne ih =>
    have hm := kidsT_mem ht
    obtain ⟨v, rfl⟩ : ∃ v : Nat, t = v := ⟨t.toNat, by omega⟩
    have hpm := chn_mem hy hp
    have hkp := parts_of h hpm (t := v) (by omega) (by rw [← kind_at hm.1 hm.2.1]; exact hk) hne
    have hl := List.length_pos_iff.2 hne
    unfold extPick
    by_cases e : en = true
    · rw [if_pos e] at ih ⊢
      rw [if_pos e, ← ih]
      exact hkp.2
    · rw [if_neg e] at ih ⊢
      rw [if_neg e, ← ih, List.getElem?_eq_getElem hl, Option.getD_some, hkp.1 0 hl, if_pos rfl]
theorem chn_sibs {d : Dc} (h : Rgt d) {en : Bool} {y a b : Nt} (hy : y ∈ d.notes) (ha : Chn d en y a) (hb : Chn d en y b) (ht : a.tier = b.tier) (hp : a.par = b.par) : a = b := by
  rcases chn_inv ha with rfl | ⟨p, t, hpc, htm, hk, hne, rfl⟩
  · rcases chn_inv hb with rfl | ⟨p, t, hpc, htm, hk, hne, rfl⟩
    · rfl
    · rw [(chn_pick htm hne).2.2] at hp
      exact absurd (by rw [hp]; exact chn_dsc hpc) (desc_top h hy rfl)
  · obtain ⟨x1, x2, x3⟩ := chn_pick (en := en) htm hne
    rcases chn_inv hb with rfl | ⟨q, u, hqc, hum, hku, hnu, rfl⟩
    · rw [x3] at hp
      exact absurd (by rw [← hp]; exact chn_dsc hpc) (desc_top h hy rfl)
    · obtain ⟨z1, z2, z3⟩ := chn_pick (en := en) hum hnu
      rw [x2, z2] at ht
      rw [x3, z3] at hp
      have := ids_uniq h (chn_mem hy hpc) (chn_mem hy hqc) hp
      rw [this, ht]
end Go.V
namespace Go.V
open Go Go.Proofs
theorem idsOf_at {ks : List Nt} {j : Nat} (hj : j < ks.length) : (idsOf ks)[j]?.getD 0 = ks[j].id := by
  unfold idsOf
  rw [List.getElem?_map, List.getElem?_eq_getElem hj]; rfl
end Go.V
namespace Go.V
open Go Go.Proofs
def lessN (l : List Int) (n : Int) : Nat := (l.takeWhile fun x => decide (x < n)).length
def putL (l : List Int) (n : Int) : List Int := l.take (lessN l n) ++ [n] ++ (if l[lessN l n]? = some n then l.drop (lessN l n + 1) else l.drop (lessN l n))
theorem lessN_is {l : List Int} {n : Int} {k : Nat} (hk : k ≤ l.length) (h1 : ∀ x ∈ l.take k, x < n) (h2 : ∀ h : k < l.length, ¬ l[k] < n) : lessN l n = k := by
  unfold lessN
  have e : l = l.take k ++ l.drop k := (List.take_append_drop k l).symm
  have h3 : (l.takeWhile fun x => decide (x < n)) = l.take k := by
    conv => lhs; rw [e]
    rw [List.takeWhile_append_of_pos (by intro a ha; simpa using h1 a ha)]
    by_cases hl : k < l.length
    · rw [List.drop_eq_getElem_cons hl, List.takeWhile_cons_of_neg (by simpa using h2 hl), List.append_nil]
    · rw [List.drop_eq_nil_of_le (by omega)]; simp
  rw [h3, List.length_take]; omega
set_option maxHeartbeats 4000000 in
theorem put_ok (l : List Int) (n : Int) (hl : l.length < 2^40) : PureR Tryz.prog 79 [ints l, int n] (ints (putL l n)) := by
  refine pure_of_body_frz mixed Tryz.func79 rfl call_79 [1] ?_
  simp (decide := true) [Tryz.f79, int, ints]
  refine loop_rule mixed (fun k : Nat => { n := 51, next := 2, slots := [(0, .d (ints l)), (1, .d (int n)), (5, .ar 1), (6, .d (int k))], own := [(1, .arr 3 1 ((l.take k).map fun x => [int x]))], moved := [1] })
    (fun k => k ≤ l.length ∧ ∀ x ∈ l.take k, x < n) (fun k => l.length - k) 0 (by simp) (by simp (decide := true) [int, ints]) ?_
  rintro k ⟨hk, hp⟩
  have hkl : (l.take k).length = k := by rw [List.length_take]; omega
  by_cases hlt : k < l.length
  · have hlt' : (k : Int) < l.length := by omega
    have em : l[k]? = some l[k] := List.getElem?_eq_getElem hlt
    by_cases hx : l[k] < n
    · simp (decide := true) [int, ints, hlt, hlt', em, hx, I64]
      refine ⟨by omega, by unfold maxLen; omega, ⟨by omega, by omega⟩, k + 1, ⟨hlt, fun x hx2 => ?_⟩, by omega, by omega, ?_⟩
      · rw [take_snoc' hlt] at hx2
        rcases List.mem_append.1 hx2 with h | h
        · exact hp x h
        · rw [List.mem_singleton] at h; rw [h]; exact hx
      · rw [take_snoc' (by rw [List.length_map]; exact hlt), List.getElem_map]
    · have hE : putL l n = l.take k ++ [n] ++ (if l[k]? = some n then l.drop (k + 1) else l.drop k) := by
        unfold putL
        rw [lessN_is hk hp fun _ => hx]
      rw [hE, em]
      by_cases hy : l[k] = n
      · rw [if_pos (by rw [hy])]
        simp (decide := true) [int, ints, hlt, hlt', em, hx, hy, I64]
        refine ⟨by omega, by unfold maxLen; omega, ⟨by omega, by omega⟩, ⟨by omega, by omega⟩, fun r hr => ?_, by omega, by unfold maxLen; omega, ?_⟩
        · have := List.mem_of_mem_take (List.mem_of_mem_drop hr)
          rw [List.mem_map] at this
          obtain ⟨z, _, rfl⟩ := this; rfl
        · rw [List.take_of_length_le (by simp)]
      · rw [if_neg (by simpa using hy)]
        simp (decide := true) [int, ints, hlt, hlt', em, hx, hy, I64]
        refine ⟨by omega, by unfold maxLen; omega, by omega, fun r hr => ?_, by omega, by unfold maxLen; omega, ?_⟩
        · have := List.mem_of_mem_take (List.mem_of_mem_drop hr)
          rw [List.mem_map] at this
          obtain ⟨z, _, rfl⟩ := this; rfl
        · rw [List.take_of_length_le (by simp)]
  · have : k = l.length := by omega
    subst this
    have hE : putL l n = l.take l.length ++ [n] ++ [] := by
      unfold putL
      rw [lessN_is hk hp fun h => absurd h (by omega)]
      simp
    rw [hE]
    simp (decide := true) [int, ints, I64]
    exact ⟨by omega, by unfold maxLen; omega, by omega, by unfold maxLen; omega⟩
theorem takeW_mem {p : Int → Bool} : ∀ {l : List Int} {x : Int}, x ∈ l.takeWhile p → p x = true
  | [], x, h => by cases h
  | a :: r, x, h => by
    by_cases e : p a = true
    · rw [List.takeWhile_cons_of_pos e] at h
      rcases List.mem_cons.1 h with rfl | h
      · exact e
      · exact takeW_mem h
    · rw [List.takeWhile_cons_of_neg e] at h; cases h
theorem lessN_take (l : List Int) (n : Int) : ∀ x ∈ l.take (lessN l n), x < n := by
  intro x hx
  have : l.take (lessN l n) = l.takeWhile fun x => decide (x < n) := by
    unfold lessN
    have := List.takeWhile_prefix (l := l) fun x => decide (x < n)
    exact (List.prefix_iff_eq_take.1 this).symm
  rw [this] at hx
  simpa using takeW_mem hx
theorem lessN_stop {l : List Int} {n : Int} (h : lessN l n < l.length) : ¬ l[lessN l n] < n := by
  intro hx
  have e1 : (l.takeWhile fun x => decide (x < n)) ++ (l.dropWhile fun x => decide (x < n)) = l := List.takeWhile_append_dropWhile
  cases hd : l.dropWhile fun x => decide (x < n) with
  | nil =>
    rw [hd, List.append_nil] at e1
    have : lessN l n = l.length := by unfold lessN; rw [e1]
    omega
  | cons y r =>
    have hy := List.head_dropWhile_not (fun x => decide (x < n)) (by rw [hd]; simp : l.dropWhile (fun x => decide (x < n)) ≠ [])
    simp only [hd, List.head_cons, decide_eq_false_iff_not] at hy
    have e0 : ∀ A B : List Int, B = y :: r → (A ++ B)[A.length]? = some y := by
      intro A B h
      rw [h, List.getElem?_append_right (Nat.le_refl _), Nat.sub_self]; rfl
    have e3 := e0 (l.takeWhile fun x => decide (x < n)) _ hd
    rw [e1] at e3
    change l[lessN l n]? = some y at e3
    rw [List.getElem?_eq_getElem h] at e3
    have := Option.some.inj e3
    rw [this] at hx
    exact hy hx
theorem putL_rest {l : List Int} (hs : l.Pairwise fun x y => x < y) (n : Int) : ∀ x, x ∈ (if l[lessN l n]? = some n then l.drop (lessN l n + 1) else l.drop (lessN l n)) ↔ x ∈ l ∧ n < x := by
  intro x
  have hpw := List.pairwise_iff_getElem.1 hs
  have hmem : x ∈ l → n < x → x ∈ l.drop (lessN l n) := fun hx hn => by
    have hx' := hx
    rw [← List.take_append_drop (lessN l n) l] at hx'
    rcases List.mem_append.1 hx' with h | h
    · have := lessN_take l n x h; omega
    · exact h
  by_cases hlt : lessN l n < l.length
  · have hst := lessN_stop hlt
    have hge : ∀ y ∈ l.drop (lessN l n + 1), l[lessN l n] < y := fun y hy => by
      obtain ⟨i, hi, rfl⟩ := List.mem_iff_getElem.1 hy
      rw [List.length_drop] at hi
      rw [List.getElem_drop]
      exact hpw _ _ hlt (by omega) (by omega)
    rw [List.getElem?_eq_getElem hlt]
    by_cases e : l[lessN l n] = n
    · rw [if_pos (by rw [e])]
      constructor
      · intro hx
        have := hge x hx
        exact ⟨List.mem_of_mem_drop hx, by omega⟩
      · rintro ⟨hx, hn⟩
        have := hmem hx hn
        rw [List.drop_eq_getElem_cons hlt] at this
        rcases List.mem_cons.1 this with h | h
        · omega
        · exact h
    · rw [if_neg (by simpa using e)]
      constructor
      · intro hx
        refine ⟨List.mem_of_mem_drop hx, ?_⟩
        rw [List.drop_eq_getElem_cons hlt] at hx
        rcases List.mem_cons.1 hx with h | h
        · omega
        · have := hge x h; omega
      · rintro ⟨hx, hn⟩; exact hmem hx hn
  · have hd : l.drop (lessN l n) = [] := List.drop_eq_nil_of_le (by omega)
    rw [List.getElem?_eq_none (by omega), if_neg (by simp), hd]
    constructor
    · intro h; cases h
    · rintro ⟨hx, hn⟩
      have := hmem hx hn
      rwa [hd] at this
theorem putL_mem {l : List Int} (hs : l.Pairwise fun x y => x < y) {n x : Int} : x ∈ putL l n ↔ x = n ∨ x ∈ l := by
  unfold putL
  rw [List.mem_append, List.mem_append, List.mem_singleton, putL_rest hs]
  constructor
  · rintro ((h | h) | h)
    · exact .inr (List.mem_of_mem_take h)
    · exact .inl h
    · exact .inr h.1
  · rintro (h | h)
    · exact .inl (.inr h)
    · rcases Int.lt_trichotomy x n with q | q | q
      · have h' := h
        rw [← List.take_append_drop (lessN l n) l] at h'
        rcases List.mem_append.1 h' with h2 | h2
        · exact .inl (.inl h2)
        · exfalso
          have hpw := List.pairwise_iff_getElem.1 hs
          obtain ⟨i, hi, rfl⟩ := List.mem_iff_getElem.1 h2
          rw [List.length_drop] at hi
          rw [List.getElem_drop] at q
          have hst := lessN_stop (l := l) (n := n) (by omega)
          rcases Nat.eq_zero_or_pos i with rfl | hi0
          · exact hst q
          · have := hpw (lessN l n) (lessN l n + i) (by omega) (by omega) (by omega)
            omega
      · exact .inl (.inr q)
      · exact .inr ⟨h, q⟩
theorem putL_sorted {l : List Int} (hs : l.Pairwise fun x y => x < y) (n : Int) : (putL l n).Pairwise fun x y => x < y := by
  unfold putL
  rw [List.pairwise_append, List.pairwise_append]
  have hA := lessN_take l n
  have hB := fun x => (putL_rest hs n x).1
  refine ⟨⟨hs.sublist (List.take_sublist _ _), by simp, fun a ha b hb => ?_⟩, ?_, fun a ha b hb => ?_⟩
  · rw [List.mem_singleton] at hb; rw [hb]; exact hA a ha
  · split
    · exact hs.sublist (List.drop_sublist _ _)
    · exact hs.sublist (List.drop_sublist _ _)
  · have h1 := (hB b hb).2
    rcases List.mem_append.1 ha with h | h
    · have := hA a h; omega
    · rw [List.mem_singleton] at h; omega
end Go.V
namespace Go.V
open Go Go.Proofs
structure Sbt (d : Dc) (id : Int) (out : List Int) : Prop where
  srt : out.Pairwise fun x y => x < y
  has : id ∈ out
  desc : ∀ x ∈ out, Dsc d id x
def Clsd (d : Dc) (out : List Int) : Prop := ∀ n ∈ d.notes, n.par ∈ out → n.id ∈ out
theorem srt_nodup {l : List Int} (h : l.Pairwise fun x y => x < y) : l.Nodup := h.imp fun {a b} h e => by omega
theorem Sbt.len {d : Dc} {id : Int} (hid : ∃ n ∈ d.notes, n.id = id) {out : List Int} (b : Sbt d id out) : out.length ≤ d.notes.length := by
  have := nodup_len (a := out) (b := idsOf d.notes) (srt_nodup b.srt) fun x hx => by
    obtain ⟨n, hn, e⟩ := desc_note hid (b.desc x hx)
    rw [← e]
    exact List.mem_map_of_mem hn
  rwa [idsOf_len] at this
theorem Sbt.all {d : Dc} {id : Int} {out : List Int} (b : Sbt d id out) (hc : Clsd d out) {x : Int} (h : Dsc d id x) : x ∈ out := by
  induction h with
  | self => exact b.has
  | kid n hn _ ih => exact hc n hn ih
theorem Sbt.put {d : Dc} {id : Int} {out : List Int} (b : Sbt d id out) {n : Nt} (hn : n ∈ d.notes) (hp : n.par ∈ out) : Sbt d id (putL out n.id) where
  srt := putL_sorted b.srt _
  has := (putL_mem b.srt).2 (.inr b.has)
  desc := fun x hx => by
    rcases (putL_mem b.srt).1 hx with e | e
    · rw [e]; exact .kid n hn (b.desc _ hp)
    · exact b.desc x e
theorem Sbt.round {d : Dc} {id : Int} {o out : List Int} (b0 : Sbt d id o) (b : Sbt d id out) (hs : ∀ x ∈ o, x ∈ out) (hd : ∀ n ∈ d.notes, n.par ∈ o → n.id ∈ out) {i : Nat} (h : Clsd d o ∨ i + 1 ≤ o.length) : Clsd d out ∨ i + 1 + 1 ≤ out.length := by
  by_cases hc : Clsd d o
  · left
    intro n hn hp
    exact hs _ (b0.all hc (.kid n hn (b.desc _ hp)))
  · right
    have := h.resolve_left hc
    have ⟨n, hn, hp, hni⟩ : ∃ n ∈ d.notes, n.par ∈ o ∧ n.id ∉ o := Classical.byContradiction fun e => hc fun n hn hp => Classical.byContradiction fun e2 => e ⟨n, hn, hp, e2⟩
    have hl := nodup_len (a := n.id :: o) (b := out) (List.nodup_cons.2 ⟨hni, srt_nodup b0.srt⟩) fun x hx => by
      rcases List.mem_cons.1 hx with e | e
      · rw [e]; exact hd n hn hp
      · exact hs x e
    rw [List.length_cons] at hl
    omega
theorem Sbt.fin {d : Dc} (h : Rgt d) {id : Int} (hid : ∃ n ∈ d.notes, n.id = id) {out : List Int} (b : Sbt d id out) (hc : Clsd d out ∨ d.notes.length + 1 ≤ out.length) : out = subIds d id := by
  have hl := b.len hid
  have hc' := hc.resolve_right (by omega)
  refine sorted_unique b.srt (sub_sorted h _) fun x => ?_
  rw [sub_mem]
  exact ⟨fun hx => ⟨b.desc x hx, desc_note hid (b.desc x hx)⟩, fun hx => b.all hc' hx.1⟩
set_option maxHeartbeats 8000000 in
theorem refSubtree_ok (d : Dc) (h : Rgt d) (id : Int) (hid : ∃ n ∈ d.notes, n.id = id) : PureR Tryz.prog 48 [docD d, int id] (ints (subIds d id)) := by
  have hfew := h.few
  refine pure_of_body mixed Tryz.func48 rfl call_48 ?_
  simp (decide := true) [Tryz.f48, docD, Dc.row, int, notesD]
  refine triple_frz [2] ?_
  refine loop_rule mixed (fun x : Nat × List Int => { n := 39, next := 3, slots := [(1, .d (int id)), (2, .bp 0 0), (5, .d (ints x.2)), (11, .d (int d.notes.length)), (12, .d (int x.1))], own := [(0, .box 28 (docCells d))] })
    (fun x => x.1 ≤ d.notes.length ∧ Sbt d id x.2 ∧ (Clsd d x.2 ∨ x.1 + 1 ≤ x.2.length)) (fun x => d.notes.length - x.1) (0, [id]) ⟨Nat.zero_le _, ⟨by simp, by simp, fun x hx => by rw [List.mem_singleton] at hx; rw [hx]; exact .self⟩, .inr (by simp)⟩ (by simp (decide := true) [int, ints, notesD, tiersD]) ?_
  rintro ⟨i, o⟩ ⟨hi, b0, hc⟩
  simp only at hi b0 hc
  by_cases hlt : i < d.notes.length
  · have hlt' : (i : Int) < d.notes.length := by omega
    simp (decide := true) [int, ints, notesD, hlt, hlt', I64]
    refine loop_rule mixed (fun x : Nat × List Int => { n := 39, next := 1, slots := [(1, .d (int id)), (2, .bp 0 0), (5, .d (ints x.2)), (11, .d (int d.notes.length)), (12, .d (int i)), (16, .d (int d.notes.length)), (17, .d (int x.1))], own := [(0, .box 28 (docCells d))] })
      (fun x => x.1 ≤ d.notes.length ∧ Sbt d id x.2 ∧ (∀ y ∈ o, y ∈ x.2) ∧ ∀ n ∈ d.notes.take x.1, n.par ∈ o → n.id ∈ x.2) (fun x => d.notes.length - x.1) (0, o) ⟨Nat.zero_le _, b0, fun _ h => h, by simp⟩ (by simp (decide := true) [int, ints, notesD, tiersD]) ?_
    rintro ⟨k, out⟩ ⟨hk, b, hs, hd⟩
    simp only at hk b hs hd
    have hol := b.len hid
    by_cases hlk : k < d.notes.length
    · have hlk' : (k : Int) < d.notes.length := by omega
      obtain ⟨m, em'⟩ : ∃ m, d.notes[k] = m := ⟨_, rfl⟩
      have em : d.notes[k]? = some m := by rw [List.getElem?_eq_getElem hlk, em']
      have hm : m ∈ d.notes := by rw [← em']; exact List.getElem_mem hlk
      have hH := refHas_ok out m.par (by omega)
      have hP := put_ok out m.id (by omega)
      simp (decide := true) [int, ints, notesD, Nt.row, hlk, hlk', em, em', I64]
      refine ECall.pure (by rfl) hH (by simp (decide := true) [int, ints]) ?_
      by_cases hp : m.par ∈ out
      · simp (decide := true) [int, ints, notesD, Nt.row, hlk, hlk', em, em', hp, I64]
        refine ECall.pure (by rfl) hP (by simp (decide := true) [int, ints]) ?_
        simp (decide := true) [int, ints, I64]
        refine ⟨⟨by omega, by omega⟩, k + 1, putL out m.id, ⟨hlk, b.put hm hp, fun y hy => (putL_mem b.srt).2 (.inr (hs y hy)), fun n hn hpo => ?_⟩, by omega, rfl, by omega⟩
        rw [take_snoc' hlk, em'] at hn
        rcases List.mem_append.1 hn with e | e
        · exact (putL_mem b.srt).2 (.inr (hd n e hpo))
        · rw [List.mem_singleton] at e; rw [e]; exact (putL_mem b.srt).2 (.inl rfl)
      · simp (decide := true) [int, ints, notesD, Nt.row, hlk, hlk', em, em', hp, I64]
        refine ⟨⟨by omega, by omega⟩, k + 1, out, ⟨hlk, b, hs, fun n hn hpo => ?_⟩, by omega, rfl, by omega⟩
        rw [take_snoc' hlk, em'] at hn
        rcases List.mem_append.1 hn with e | e
        · exact hd n e hpo
        · rw [List.mem_singleton] at e; rw [e] at hpo; exact absurd (hs _ hpo) hp
    · have : k = d.notes.length := by omega
      subst this
      simp (decide := true) [int, ints, I64]
      rw [List.take_length] at hd
      exact ⟨⟨by omega, by omega⟩, i + 1, out, ⟨hlt, b, b0.round b hs hd hc⟩, by omega, rfl, by omega⟩
  · have : i = d.notes.length := by omega
    subst this
    rw [← b0.fin h hid hc]
    simp (decide := true) [int, ints]
end Go.V
namespace Go.V
open Go Go.Proofs
structure Nbr (d : Dc) (n y : Nt) (en : Bool) : Prop where
  rgt : Rgt d
  hn : n ∈ d.notes
  hy : y ∈ d.notes
  ne : y ≠ n
  tier : y.tier = n.tier
  par : y.par = n.par
  kind : (tirAt d n.tier).kind = 1
  adj : if en = true then y.tO = n.fr else y.fr = n.tO
abbrev timeOf (n : Nt) (en : Bool) : Int := if en = true then n.tO else n.fr
noncomputable def midD (d : Dc) (n : Nt) (en : Bool) (Q : Nt → Prop) : Dc := { d with notes := woN (subIds d n.id) (d.notes.map (mrk en (timeOf n en) Q)) }
theorem mrk_tier (en : Bool) (time : Int) (P : Nt → Prop) (m : Nt) : (mrk en time P m).tier = m.tier ∧ (mrk en time P m).par = m.par ∧ (mrk en time P m).rank = m.rank ∧ (mrk en time P m).text = m.text := by
  have := mrk_skel en time P m
  simp only [skel, Prod.mk.injEq] at this
  exact this.2
section
variable {d : Dc} {n y : Nt} {en : Bool}
theorem midD_mem {Q : Nt → Prop} {x : Nt} : x ∈ (midD d n en Q).notes ↔ ∃ m, Kp d (subIds d n.id) m ∧ mrk en (timeOf n en) Q m = x := by
  unfold midD woN
  rw [List.mem_filter, List.mem_map]
  constructor
  · rintro ⟨⟨m, hm, rfl⟩, hx⟩
    rw [mrk_id] at hx
    exact ⟨m, ⟨hm, by simpa using hx⟩, rfl⟩
  · rintro ⟨m, ⟨hm, hS⟩, rfl⟩
    exact ⟨⟨m, hm, rfl⟩, by rw [mrk_id]; simpa using hS⟩
theorem midD_inc (h : Rgt d) (Q : Nt → Prop) : IncL (midD d n en Q).notes := by
  have : IncL (d.notes.map (mrk en (timeOf n en) Q)) := IncL.map h.inc fun m => mrk_id _ _ _ m
  exact this.sublist List.filter_sublist
theorem midD_get (h : Rgt d) (Q : Nt → Prop) {m : Nt} (hm : Kp d (subIds d n.id) m) : getN (midD d n en Q).notes m.id = (mrk en (timeOf n en) Q m, true) := by
  have := inc_getN (midD_inc (n := n) (en := en) h Q) (midD_mem.2 ⟨m, hm, rfl⟩)
  rwa [mrk_id] at this
theorem Nbr.yk (b : Nbr d n y en) : (tirAt d y.tier).kind = 1 := by rw [b.tier]; exact b.kind
theorem Nbr.ck (b : Nbr d n y en) {m : Nt} (h : Chn d en y m) : (tirAt d m.tier).kind = 1 := chn_kind b.yk h
theorem rs_of {d : Dc} (h : Rgt d) {m : Nt} (hm : m ∈ d.notes) (hal : alK (tirAt d m.tier).kind = true) : 0 ≤ m.fr ∧ m.fr < m.tO ∧ m.tO ≤ 86400000 := by
  have := (h.span hm hal).1
  simp only [rightS, Bool.and_eq_true, decide_eq_true_eq] at this
  exact ⟨this.1.1, this.1.2, this.2⟩
theorem al_one {d : Dc} {m : Nt} (e : (tirAt d m.tier).kind = 1) : alK (tirAt d m.tier).kind = true := by rw [e]; rfl
theorem Nbr.kept (b : Nbr d n y en) {m : Nt} (e : Chn d en y m) {c : Nt} (hc : c ∈ d.notes) (hd : Dsc d m.id c.id) : Kp d (subIds d n.id) c := by
  refine ⟨hc, fun hS => ?_⟩
  have h1 := (sub_mem.1 hS).1
  have h2 := dsc_trans (chn_dsc e) hd
  exact dsc_fork b.rgt b.hy b.hn b.par b.ne h2 h1
theorem Nbr.apart (b : Nbr d n y en) {c e : Nt} (hc : Chn d en y c) (hek : Kp d (subIds d n.id) e) (hce : c ≠ e) (hct : c.tier = e.tier) (hcp : c.par = e.par) : e.tO ≤ n.fr ∨ n.tO ≤ e.fr := by
  have hen : e ≠ n := fun e2 => hek.2 (by rw [e2]; exact sub_mem.2 ⟨.self, n, b.hn, rfl⟩)
  rcases chn_inv hc with rfl | ⟨q, t, hqc, htm, hk, hne, rfl⟩
  · exact b.rgt.nm hek.1 b.hn hen (by rw [← hct, b.tier]) (by rw [← hcp, b.par]) (by rw [← hct]; exact al_one b.yk)
  · obtain ⟨x1, x2, x3⟩ := chn_pick (en := en) htm hne
    have hk1 : (tirAt d e.tier).kind = 1 := by rw [← hct]; exact b.ck hc
    have h1 := (b.rgt.span hek.1 (al_one hk1)).2.2 (by rw [hk1]; decide) q (chn_mem b.hy hqc) (by rw [← hcp, x3])
    have h2 := chn_adj b.rgt b.hy hqc
    have h3 := b.adj
    by_cases e2 : en = true
    · rw [if_pos e2] at h2 h3; omega
    · rw [if_neg e2] at h2 h3; omega
theorem Nbr.w (b : Nbr d n y en) {Q : Nt → Prop} (hQ : ∀ m, Q m → Chn d en y m) : Wgt (midD d n en Q) := by
  have h := b.rgt
  have hno : ∀ m, ¬ Q m → mrk en (timeOf n en) Q m = m := fun m e => mrk_no e
  have htir : ∀ i, tirAt (midD d n en Q) i = tirAt d i := fun _ => rfl
  refine ⟨h.good.tiers, ?_, ?_, midD_inc h Q, ?_, ?_, ?_, ?_⟩
  · have h1 : (midD d n en Q).notes.length ≤ (d.notes.map (mrk en (timeOf n en) Q)).length := List.length_filter_le _ _
    rw [List.length_map] at h1
    exact Nat.le_trans h1 h.few
  · intro x hx
    obtain ⟨m, hm, rfl⟩ := midD_mem.1 hx
    rw [(mrk_tier _ _ _ _).1]
    exact ⟨(h.nok m hm.1).t0, (h.nok m hm.1).t1⟩
  · intro t ht hk x hx
    obtain ⟨m, hm, rfl⟩ := midD_mem.1 hx.1
    have hmt : m.tier = t := by have := hx.2; rwa [(mrk_tier _ _ _ _).1] at this
    obtain ⟨p1, p2⟩ := h.parent ⟨hm.1, hmt⟩ ht hk
    have hpk : Kp d (subIds d n.id) (upN d m) := ⟨p1.1, sub_up hm.1 p1.1 p2 hm.2⟩
    have hg := midD_get (n := n) (en := en) h Q hpk
    rw [p2] at hg
    have hup : upN (midD d n en Q) (mrk en (timeOf n en) Q m) = mrk en (timeOf n en) Q (upN d m) := by
      show (getN (midD d n en Q).notes (mrk en (timeOf n en) Q m).par).1 = _
      rw [(mrk_tier _ _ _ m).2.1, hg]
    rw [hup, mrk_id, (mrk_tier _ _ _ m).2.1, p2]
    exact ⟨⟨midD_mem.2 ⟨_, hpk, rfl⟩, by rw [(mrk_tier _ _ _ _).1]; exact p1.2⟩, rfl⟩
  · intro t x hx hk
    obtain ⟨m, hm, rfl⟩ := midD_mem.1 hx.1
    have hmt : m.tier = t := by have := hx.2; rwa [(mrk_tier _ _ _ _).1] at this
    rw [(mrk_tier _ _ _ _).2.1]
    exact h.root ⟨hm.1, hmt⟩ hk
  · intro t x hx hal
    obtain ⟨m, hm, rfl⟩ := midD_mem.1 hx.1
    have hmt : m.tier = t := by have := hx.2; rwa [(mrk_tier _ _ _ _).1] at this
    rw [htir, ← hmt] at hal
    rw [hno m fun e => by have := al_one (b.ck (hQ m e)); rw [this] at hal; cases hal]
    exact (flat_of (note_of h.good hm.1) hal).1
  · intro t ht a' b' ha hb hp hk
    obtain ⟨a, hma, rfl⟩ := midD_mem.1 ha.1
    obtain ⟨c, hmc, rfl⟩ := midD_mem.1 hb.1
    have hat : a.tier = t := by have := ha.2; rwa [(mrk_tier _ _ _ _).1] at this
    have hct : c.tier = t := by have := hb.2; rwa [(mrk_tier _ _ _ _).1] at this
    rw [(mrk_tier _ _ _ _).2.1, (mrk_tier _ _ _ _).2.1] at hp
    suffices a = c by rw [this]
    apply Classical.byContradiction
    intro hne
    unfold keyT at hk
    rw [htir] at hk
    by_cases hal : alK (tirAt d t).kind = true
    · rw [if_pos hal, if_pos hal] at hk
      have hkey : a.fr ≠ c.fr := fun e => hne (h.keys ht ⟨hma.1, hat⟩ ⟨hmc.1, hct⟩ hp (by unfold keyT; rw [if_pos hal, if_pos hal]; exact e))
      by_cases hen : en = true
      · have hfr : ∀ m, (mrk en (timeOf n en) Q m).fr = m.fr := fun m => by
          by_cases e : Q m
          · rw [mrk_yes e]; unfold setTm; rw [if_pos hen]
          · rw [mrk_no e]
        rw [hfr, hfr] at hk
        exact hkey hk
      · have hfr : ∀ m, Q m → (mrk en (timeOf n en) Q m).fr = n.fr := fun m e => by
          rw [mrk_yes e]; unfold setTm timeOf; rw [if_neg hen, if_neg hen]
        have rn := rs_of h b.hn (al_one b.kind)
        have ra := rs_of h hma.1 (by rw [hat]; exact hal)
        have rc := rs_of h hmc.1 (by rw [hct]; exact hal)
        by_cases qa : Q a
        · by_cases qc : Q c
          · exact hne (chn_sibs h b.hy (hQ a qa) (hQ c qc) (by rw [hat, hct]) hp)
          · rw [hfr a qa, hno c qc] at hk
            have := b.apart (hQ a qa) hmc hne (by rw [hat, hct]) hp
            omega
        · by_cases qc : Q c
          · rw [hfr c qc, hno a qa] at hk
            have := b.apart (hQ c qc) hma (Ne.symm hne) (by rw [hat, hct]) hp.symm
            omega
          · rw [hno a qa, hno c qc] at hk
            exact hkey hk
    · rw [if_neg hal, if_neg hal, (mrk_tier _ _ _ _).2.2.1, (mrk_tier _ _ _ _).2.2.1] at hk
      exact hne (h.keys ht ⟨hma.1, hat⟩ ⟨hmc.1, hct⟩ hp (by unfold keyT; rw [if_neg hal, if_neg hal]; exact hk))
theorem midD_kids {Q : Nt → Prop} {id t : Int} (hq : ∀ m ∈ d.notes, m.tier = t → m.par = id → ¬ Q m) (hS : ∀ m ∈ d.notes, m.par = id → m.id ∉ subIds d n.id) : kidsN (midD d n en Q) id t = kidsN d id t := by
  rw [← kids_marked (en := en) (time := timeOf n en) hq]
  unfold kidsN
  congr 1
  show List.filter (kidB d id t) (woN (subIds d n.id) (d.notes.map (mrk en (timeOf n en) Q))) = List.filter (kidB d id t) (d.notes.map (mrk en (timeOf n en) Q))
  unfold woN
  rw [List.filter_filter]
  refine List.filter_congr fun x hx => ?_
  obtain ⟨m, hm, rfl⟩ := List.mem_map.1 hx
  cases hb : kidB d id t (mrk en (timeOf n en) Q m) with
  | false => rfl
  | true =>
    simp only [kidB, Bool.and_eq_true, decide_eq_true_eq] at hb
    rw [(mrk_tier _ _ _ _).2.1] at hb
    have := hS m hm hb.1.1.2
    rw [mrk_id]
    simp [this]
theorem chn_trans {a b c : Nt} (h1 : Chn d en a b) (h2 : Chn d en b c) : Chn d en a c := by
  induction h2 with
  | top => exact h1
  | kid p t _ ht hk hne ih => exact .kid p t ih ht hk hne
def PreK (d : Dc) (en : Bool) (p : Nt) (M : Nt → Prop) (k : Nat) (m : Nt) : Prop :=
  M m ∨ m = p ∨ ∃ t : Nat, t < k ∧ ((t : Int) ∈ kidsT d.tiers p.tier ∧ kindI d t = 1 ∧ kidsN d p.id t ≠ []) ∧ Chn d en (extPick en (kidsN d p.id t)) m
theorem preK_all {p : Nt} {M : Nt → Prop} {m : Nt} : PreK d en p M d.tiers.length m ↔ M m ∨ Chn d en p m := by
  unfold PreK
  rw [chn_head (y := p)]
  constructor
  · rintro (e | e | ⟨t, ht, ⟨h1, h2, h3⟩, h4⟩)
    · exact .inl e
    · exact .inr (.inl e)
    · exact .inr (.inr ⟨t, h1, h2, h3, h4⟩)
  · rintro (e | e | ⟨t, h1, h2, h3, h4⟩)
    · exact .inl e
    · exact .inr (.inl e)
    · have := kidsT_mem h1
      obtain ⟨v, rfl⟩ : ∃ v : Nat, t = v := ⟨t.toNat, by omega⟩
      exact .inr (.inr ⟨v, by omega, ⟨h1, h2, h3⟩, h4⟩)
theorem preK_skip {p : Nt} {M : Nt → Prop} {k : Nat} {m : Nt} (h : ¬ ((k : Int) ∈ kidsT d.tiers p.tier ∧ kindI d k = 1 ∧ kidsN d p.id k ≠ [])) : PreK d en p M (k + 1) m ↔ PreK d en p M k m := by
  unfold PreK
  constructor
  · rintro (e | e | ⟨t, ht, h1, h2⟩)
    · exact .inl e
    · exact .inr (.inl e)
    · by_cases q : t = k
      · subst q; exact absurd h1 h
      · exact .inr (.inr ⟨t, by omega, h1, h2⟩)
  · rintro (e | e | ⟨t, ht, h1, h2⟩)
    · exact .inl e
    · exact .inr (.inl e)
    · exact .inr (.inr ⟨t, by omega, h1, h2⟩)
theorem preK_take {p : Nt} {M : Nt → Prop} {k : Nat} {m : Nt} (h : (k : Int) ∈ kidsT d.tiers p.tier ∧ kindI d k = 1 ∧ kidsN d p.id k ≠ []) : PreK d en p M (k + 1) m ↔ PreK d en p M k m ∨ Chn d en (extPick en (kidsN d p.id k)) m := by
  unfold PreK
  constructor
  · rintro (e | e | ⟨t, ht, h1, h2⟩)
    · exact .inl (.inl e)
    · exact .inl (.inr (.inl e))
    · by_cases q : t = k
      · subst q; exact .inr h2
      · exact .inl (.inr (.inr ⟨t, by omega, h1, h2⟩))
  · rintro ((e | e | ⟨t, ht, h1, h2⟩) | e)
    · exact .inl e
    · exact .inr (.inl e)
    · exact .inr (.inr ⟨t, by omega, h1, h2⟩)
    · exact .inr (.inr ⟨k, by omega, h, e⟩)
theorem preK_free (h : Rgt d) {p : Nt} (hp : p ∈ d.notes) {M : Nt → Prop} (hM : ∀ m ∈ d.notes, Dsc d p.id m.id → ¬ M m) (k : Nat) : ∀ m ∈ d.notes, m.tier = k → m.par = p.id → ∀ x ∈ d.notes, Dsc d m.id x.id → ¬ PreK d en p M k x := by
  rintro m hm hmt hmp x hx hd (e | e | ⟨t, ht, ⟨h1, h2, h3⟩, h4⟩)
  · exact hM x hx (dsc_trans (.kid m hm (by rw [hmp]; exact .self)) hd) e
  · rw [e, ← hmp] at hd; exact desc_top h hm rfl hd
  · obtain ⟨z1, z2, z3⟩ := chn_pick (en := en) h1 h3
    refine dsc_fork h hm z1 (by rw [hmp, z3]) (fun e3 => ?_) hd (chn_dsc h4)
    rw [e3, z2] at hmt
    omega
theorem preK_chn {y p : Nt} (hp : Chn d en y p) {M : Nt → Prop} (hM : ∀ m, M m → Chn d en y m) (k : Nat) : ∀ m, PreK d en p M k m → Chn d en y m := by
  rintro m (e | e | ⟨t, ht, ⟨h1, h2, h3⟩, h4⟩)
  · exact hM m e
  · rw [e]; exact hp
  · exact chn_trans (.kid p t hp h1 h2 h3) h4
end
end Go.V
namespace Go.V
open Go Go.Proofs
noncomputable def midN (d : Dc) (n : Nt) (en : Bool) (Q : Nt → Prop) : List Nt := woN (subIds d n.id) (d.notes.map (mrk en (timeOf n en) Q))
theorem midN_congr {d : Dc} {n : Nt} {en : Bool} {Q Q' : Nt → Prop} (h : ∀ m ∈ d.notes, Q m ↔ Q' m) : midN d n en Q = midN d n en Q' := by
  unfold midN; rw [mrk_congr h]
theorem midN_len {d : Dc} {n : Nt} {en : Bool} {Q : Nt → Prop} : (midN d n en Q).length ≤ d.notes.length := by
  have h1 : (midN d n en Q).length ≤ (d.notes.map (mrk en (timeOf n en) Q)).length := List.length_filter_le _ _
  rwa [List.length_map] at h1
theorem midN_set {d : Dc} {n p : Nt} {en : Bool} {M : Nt → Prop} (h : Rgt d) (hp : p ∈ d.notes) (hM : ¬ M p) : setR (midN d n en M) (setTm en (timeOf n en) p) = midN d n en (PreK d en p M 0) := by
  have hid : (setTm en (timeOf n en) p).id = p.id := congrArg (fun x => x.1) (setTm_skel en (timeOf n en) p)
  unfold setR midN woN
  rw [hid]
  have hf : ∀ L : List Nt, (L.filter fun x => !decide (x.id ∈ subIds d n.id)).map (fun m => if m.id = p.id then setTm en (timeOf n en) p else m) = (L.map (fun m => if m.id = p.id then setTm en (timeOf n en) p else m)).filter fun x => !decide (x.id ∈ subIds d n.id) := by
    intro L
    rw [List.filter_map]
    congr 1
    refine List.filter_congr fun x _ => ?_
    have e0 : (if x.id = p.id then setTm en (timeOf n en) p else x).id = x.id := by
      by_cases e : x.id = p.id
      · rw [if_pos e, hid, e]
      · rw [if_neg e]
    simp only [Function.comp, e0]
  rw [hf, List.map_map]
  congr 1
  refine List.map_congr_left fun m hm => ?_
  simp only [Function.comp, mrk_id]
  by_cases e : m.id = p.id
  · have := ids_uniq h hm hp e
    subst this
    rw [if_pos rfl, mrk_yes (.inr (.inl rfl))]
  · rw [if_neg e]
    by_cases hm2 : M m
    · rw [mrk_yes hm2, mrk_yes (.inl hm2)]
    · rw [mrk_no hm2, mrk_no]
      rintro (e2 | e2 | ⟨_, e3, _⟩)
      · exact hm2 e2
      · exact e (by rw [e2])
      · omega
set_option maxHeartbeats 16000000 in
theorem refExtend_ok (d : Dc) (n y : Nt) (en : Bool) (b : Nbr d n y en) (ht : d.tiers.length < 2^29) (hn : d.notes.length < 20) :
    ∀ (f : Nat) (p : Nt) (M : Nt → Prop), Chn d en y p → d.tiers.length ≤ p.tier.toNat + f → (∀ m, M m → Chn d en y m) → (∀ m ∈ d.notes, Dsc d p.id m.id → ¬ M m) →
    PureR Tryz.prog 52 [docD { d with notes := midN d n en M }, int p.id, int (timeOf n en), .bool en] (docD { d with notes := midN d n en fun m => M m ∨ Chn d en p m })
  | 0, p, M, hp, hf, hQ, hM => by
    have h0 := (note_of b.rgt.good (chn_mem b.hy hp)).t0
    have h1 := (note_of b.rgt.good (chn_mem b.hy hp)).t1
    omega
  | f + 1, p, M, hp, hf, hQ, hM => by
    have h := b.rgt
    have hpm := chn_mem b.hy hp
    have hok := note_of h.good hpm
    have hMp : ¬ M p := hM p hpm .self
    have hpk : Kp d (subIds d n.id) p := b.kept hp hpm .self
    have hget := refGet_ok { d with notes := midN d n en M } p.id (by have := midN_len (d := d) (n := n) (en := en) (Q := M); show (midN d n en M).length < _; omega)
    have hg := midD_get (n := n) (en := en) h M hpk
    rw [show getN ({ d with notes := midN d n en M } : Dc).notes p.id = (p, true) by rw [← mrk_no (en := en) (time := timeOf n en) hMp]; rw [mrk_no hMp]; rw [mrk_no hMp] at hg; exact hg] at hget
    have hset := refSet_ok { d with notes := midN d n en M } (setTm en (timeOf n en) p) (by have := midN_len (d := d) (n := n) (en := en) (Q := M); show (midN d n en M).length < _; omega)
    rw [show ({ ({ d with notes := midN d n en M } : Dc) with notes := setR ({ d with notes := midN d n en M } : Dc).notes (setTm en (timeOf n en) p) } : Dc) = { d with notes := midN d n en (PreK d en p M 0) } by rw [← midN_set h hpm hMp]] at hset
    have hw := fun k => b.w (preK_chn hp hQ k)
    have hkids : ∀ k : Nat, PureR Tryz.prog 46 [docD { d with notes := midN d n en (PreK d en p M k) }, int p.id, int k] (ints (idsOf (kidsN d p.id k))) := fun k => by
      have := refKidsW_ok (hw k) p.id k
      rw [midD_kids (fun m hm e1 e2 e3 => preK_free h hpm hM k m hm e1 e2 m hm .self e3) (fun m hm e => (b.kept hp hm (.kid m hm (by rw [e]; exact .self))).2)] at this
      exact this
    have hend : midN d n en (fun m => M m ∨ Chn d en p m) = midN d n en (PreK d en p M d.tiers.length) := midN_congr fun m _ => preK_all.symm
    rw [hend]
    have hskip : ∀ k : Nat, ¬ ((k : Int) ∈ kidsT d.tiers p.tier ∧ kindI d k = 1 ∧ kidsN d p.id k ≠ []) → midN d n en (PreK d en p M k) = midN d n en (PreK d en p M (k + 1)) := fun k e => midN_congr fun m _ => (preK_skip e).symm
    have hrec : ∀ k : Nat, ((k : Int) ∈ kidsT d.tiers p.tier ∧ kindI d k = 1 ∧ kidsN d p.id k ≠ []) → PureR Tryz.prog 52 [docD { d with notes := midN d n en (PreK d en p M k) }, int (extPick en (kidsN d p.id k)).id, int (timeOf n en), .bool en] (docD { d with notes := midN d n en (PreK d en p M (k + 1)) }) := fun k e => by
      obtain ⟨x1, x2, x3⟩ := chn_pick (en := en) e.1 e.2.2
      have hmk := kidsT_mem e.1
      have hup := kind_up h k (by omega) e.2.1 p.tier (by have := hmk.2.2.1; rwa [Int.toNat_natCast] at this)
      have := refExtend_ok d n y en b ht hn f (extPick en (kidsN d p.id k)) (PreK d en p M k) (.kid p k hp e.1 e.2.1 e.2.2) (by rw [x2]; have := hok.t0; omega) (preK_chn hp hQ k) (fun m hm hd => preK_free h hpm hM k _ x1 x2 x3 m hm hd)
      rwa [show (midN d n en fun m => PreK d en p M k m ∨ Chn d en (extPick en (kidsN d p.id k)) m) = midN d n en (PreK d en p M (k + 1)) from midN_congr fun m _ => (preK_take e).symm] at this
    have hkl : ∀ k : Nat, (kidsN d p.id k).length < 20 := fun k => by have := kidsN_len d p.id k; omega
    generalize midN d n en M = L0 at hget hset ⊢
    generalize timeOf n en = T at hset hrec ⊢
    generalize hG : (fun k => midN d n en (PreK d en p M k)) = G
    have hGk : ∀ k, midN d n en (PreK d en p M k) = G k := fun k => congrFun hG k
    simp only [hGk] at hset hkids hskip hrec ⊢
    have ht0 := hok.t0
    have ht1 := hok.t1
    clear hw hGk hG hend hg hpk hM hQ hf
    refine pure_of_body mixed Tryz.func52 rfl call_52 ?_
    cases en with
    | true =>
      simp (decide := true) [Tryz.f52, docD, Dc.row, int]
      refine ECall.pure (by rfl) hget (by simp (decide := true) [docD, Dc.row, int]) ?_
      simp (decide := true) [getD', Nt.row, int]
      refine ECall.pure (by rfl) hset (by simp (decide := true) [docD, Dc.row, int, Nt.row, setTm]) ?_
      simp (decide := true) [docD, Dc.row, int, tiersD]
      refine loop_rule mixed (fun k : Nat => { n := 77, next := 3, slots := [(1, .d (int p.id)), (2, .d (int T)), (3, .d (.bool true)), (4, .bp 0 0), (8, .bp 1 0), (9, .bp 2 0), (32, .d (int d.tiers.length)), (33, .d (int k))], own := [(0, .box 28 (docCells { d with notes := G k })), (1, .box 28 [.d (int 0), .d (.str ⟨#[]⟩), .d (int 0), .d (int 0), .nils, .nils, .nils]), (2, .box 45 (noteCells { p with tO := T }))] })
        (fun k => k ≤ d.tiers.length) (fun k => d.tiers.length - k) 0 (by simp) (by simp (decide := true) [int, ints, tiersD, notesD]) ?_
      intro k hk
      by_cases hlt : k < d.tiers.length
      case neg =>
        have : k = d.tiers.length := by omega
        subst this
        simp (decide := true) [int, ints, tiersD, notesD]
      have hlt' : (k : Int) < d.tiers.length := by omega
      have hK := hkids k
      have hS := hskip k
      have hR := hrec k
      have hL := hkl k
      obtain ⟨tr, et'⟩ : ∃ tr, d.tiers[k] = tr := ⟨_, rfl⟩
      have et : d.tiers[k]? = some tr := by rw [List.getElem?_eq_getElem hlt, et']
      have hkd : kindI d k = tr.kind := by rw [kindI_at hlt, tirAt_nat d hlt, et']
      have hkt : (k : Int) ∈ kidsT d.tiers p.tier ↔ tr.par = p.tier := by
        constructor
        · intro e
          have := (kidsT_mem e).2.2.1
          rw [Int.toNat_natCast, et, Option.getD_some] at this
          exact this
        · intro e
          exact kidsT_of ⟨ht0, ht1⟩ ⟨by omega, by omega⟩ (by rw [Int.toNat_natCast, et, Option.getD_some]; exact e)
      rw [hkd, hkt] at hS hR
      generalize kidsN d p.id k = ks at hK hS hR hL
      have hil := idsOf_len ks
      clear hkids hskip hrec hkl hget hset
      simp (decide := true) [int, ints, tiersD, notesD, hlt, hlt', I64]
      refine ECall.pure (by rfl) hK (by simp (decide := true) [docD, Dc.row, int, ints, tiersD, notesD]) ?_
      by_cases q1 : tr.kind = 1
      case neg =>
        simp (decide := true) [int, ints, tiersD, Tir.row, hlt, hlt', et, et', q1, I64]
        exact ⟨⟨by omega, by omega⟩, k + 1, hlt, by omega, by omega, by rw [hS fun e => q1 e.2.1]⟩
      by_cases q2 : tr.par = p.tier
      case neg =>
        simp (decide := true) [int, ints, tiersD, Tir.row, hlt, hlt', et, et', q1, q2, I64]
        exact ⟨⟨by omega, by omega⟩, k + 1, hlt, by omega, by omega, by rw [hS fun e => q2 e.1]⟩
      by_cases q3 : ks = []
      · subst q3
        simp (decide := true) [int, ints, tiersD, Tir.row, hlt, hlt', et, et', q1, q2, idsOf, I64]
        exact ⟨⟨by omega, by omega⟩, k + 1, hlt, by omega, by omega, by rw [hS fun e => e.2.2 rfl]⟩
      have hpos : 0 < ks.length := List.length_pos_iff.2 q3
      have hz : ¬ (ks.length : Int) = 0 := by omega
      simp (decide := true) [int, ints, tiersD, Tir.row, hlt, hlt', et, et', q1, q2, q3, hil, hz, I64]
      refine ⟨⟨by omega, by omega⟩, ?_⟩
      have hR' := hR ⟨q2, q1, q3⟩
      obtain ⟨x, ex⟩ : ∃ x, extPick true ks = x := ⟨_, rfl⟩
      rw [ex] at hR'
      have elast : (idsOf ks)[ks.length - 1]? = some x.id := by
        unfold extPick at ex
        rw [if_pos rfl, List.getElem?_eq_getElem (by omega), Option.getD_some] at ex
        unfold idsOf
        rw [List.getElem?_map, List.getElem?_eq_getElem (by omega), ex]; rfl
      have hb3 : ks.length - 1 < (idsOf ks).length := by omega
      have elg : (idsOf ks)[ks.length - 1]'hb3 = x.id := by rw [List.getElem?_eq_getElem hb3] at elast; exact Option.some.inj elast
      refine draw_last2 mixed (by simp) (by rfl) (by rfl) (by rfl) (by simp) ?_
      simp (decide := true) [int, ints, hil, hpos, elast, elg, tiersD, notesD, I64]
      refine ⟨by omega, ?_⟩
      refine scall_pure (by rfl) (by rfl) hR' (by simp (decide := true) [docD, Dc.row, int, ints, tiersD, notesD]) ?_
      simp (decide := true) [int, docD, Dc.row, ints, tiersD, notesD, I64]
      exact ⟨⟨by omega, by omega⟩, k + 1, hlt, by omega, by omega, rfl⟩
    | false =>
      simp (decide := true) [Tryz.f52, docD, Dc.row, int]
      refine ECall.pure (by rfl) hget (by simp (decide := true) [docD, Dc.row, int]) ?_
      simp (decide := true) [getD', Nt.row, int]
      refine ECall.pure (by rfl) hset (by simp (decide := true) [docD, Dc.row, int, Nt.row, setTm]) ?_
      simp (decide := true) [docD, Dc.row, int, tiersD]
      refine loop_rule mixed (fun k : Nat => { n := 77, next := 3, slots := [(1, .d (int p.id)), (2, .d (int T)), (3, .d (.bool false)), (4, .bp 0 0), (8, .bp 1 0), (9, .bp 2 0), (32, .d (int d.tiers.length)), (33, .d (int k))], own := [(0, .box 28 (docCells { d with notes := G k })), (1, .box 28 [.d (int 0), .d (.str ⟨#[]⟩), .d (int 0), .d (int 0), .nils, .nils, .nils]), (2, .box 45 (noteCells { p with fr := T }))] })
        (fun k => k ≤ d.tiers.length) (fun k => d.tiers.length - k) 0 (by simp) (by simp (decide := true) [int, ints, tiersD, notesD]) ?_
      intro k hk
      by_cases hlt : k < d.tiers.length
      case neg =>
        have : k = d.tiers.length := by omega
        subst this
        simp (decide := true) [int, ints, tiersD, notesD]
      have hlt' : (k : Int) < d.tiers.length := by omega
      have hK := hkids k
      have hS := hskip k
      have hR := hrec k
      have hL := hkl k
      obtain ⟨tr, et'⟩ : ∃ tr, d.tiers[k] = tr := ⟨_, rfl⟩
      have et : d.tiers[k]? = some tr := by rw [List.getElem?_eq_getElem hlt, et']
      have hkd : kindI d k = tr.kind := by rw [kindI_at hlt, tirAt_nat d hlt, et']
      have hkt : (k : Int) ∈ kidsT d.tiers p.tier ↔ tr.par = p.tier := by
        constructor
        · intro e
          have := (kidsT_mem e).2.2.1
          rw [Int.toNat_natCast, et, Option.getD_some] at this
          exact this
        · intro e
          exact kidsT_of ⟨ht0, ht1⟩ ⟨by omega, by omega⟩ (by rw [Int.toNat_natCast, et, Option.getD_some]; exact e)
      rw [hkd, hkt] at hS hR
      generalize kidsN d p.id k = ks at hK hS hR hL
      have hil := idsOf_len ks
      clear hkids hskip hrec hkl hget hset
      simp (decide := true) [int, ints, tiersD, notesD, hlt, hlt', I64]
      refine ECall.pure (by rfl) hK (by simp (decide := true) [docD, Dc.row, int, ints, tiersD, notesD]) ?_
      by_cases q1 : tr.kind = 1
      case neg =>
        simp (decide := true) [int, ints, tiersD, Tir.row, hlt, hlt', et, et', q1, I64]
        exact ⟨⟨by omega, by omega⟩, k + 1, hlt, by omega, by omega, by rw [hS fun e => q1 e.2.1]⟩
      by_cases q2 : tr.par = p.tier
      case neg =>
        simp (decide := true) [int, ints, tiersD, Tir.row, hlt, hlt', et, et', q1, q2, I64]
        exact ⟨⟨by omega, by omega⟩, k + 1, hlt, by omega, by omega, by rw [hS fun e => q2 e.1]⟩
      by_cases q3 : ks = []
      · subst q3
        simp (decide := true) [int, ints, tiersD, Tir.row, hlt, hlt', et, et', q1, q2, idsOf, I64]
        exact ⟨⟨by omega, by omega⟩, k + 1, hlt, by omega, by omega, by rw [hS fun e => e.2.2 rfl]⟩
      have hpos : 0 < ks.length := List.length_pos_iff.2 q3
      have hz : ¬ (ks.length : Int) = 0 := by omega
      simp (decide := true) [int, ints, tiersD, Tir.row, hlt, hlt', et, et', q1, q2, q3, hil, hz, I64]
      have hR' := hR ⟨q2, q1, q3⟩
      obtain ⟨x, ex⟩ : ∃ x, extPick false ks = x := ⟨_, rfl⟩
      rw [ex] at hR'
      have elast : (idsOf ks)[0]? = some x.id := by
        unfold extPick at ex
        rw [if_neg (by decide), List.getElem?_eq_getElem (by omega), Option.getD_some] at ex
        unfold idsOf
        rw [List.getElem?_map, List.getElem?_eq_getElem (by omega), ex]; rfl
      have hb3 : 0 < (idsOf ks).length := by omega
      have elg : (idsOf ks)[0]'hb3 = x.id := by rw [List.getElem?_eq_getElem hb3] at elast; exact Option.some.inj elast
      refine draw_last2 mixed (by simp) (by rfl) (by rfl) (by rfl) (by simp) ?_
      simp (decide := true) [int, ints, hil, hpos, elast, elg, tiersD, notesD, I64]
      refine scall_pure (by rfl) (by rfl) hR' (by simp (decide := true) [docD, Dc.row, int, ints, tiersD, notesD]) ?_
      simp (decide := true) [int, docD, Dc.row, ints, tiersD, notesD, I64]
      exact ⟨⟨by omega, by omega⟩, k + 1, hlt, by omega, by omega, rfl⟩
end Go.V
namespace Go.V
open Go Go.Proofs
theorem woN_map {S : List Int} {F : Nt → Nt} (hF : ∀ m, (F m).id = m.id) (l : List Nt) : woN S (l.map F) = (woN S l).map F := by
  unfold woN
  rw [List.filter_map]
  congr 1
  exact List.filter_congr fun m _ => by simp only [Function.comp, hF m]
theorem midN_none (d : Dc) (n : Nt) (en : Bool) : midN d n en (fun _ => False) = woN (subIds d n.id) d.notes := by
  unfold midN
  congr 1
  conv => rhs; rw [← List.map_id d.notes]
  exact List.map_congr_left fun m _ => mrk_no fun e => e
theorem ext_none {d : Dc} {n y : Nt} {en : Bool} (b : Nbr d n y en) (ht : d.tiers.length < 2^29) (hn : d.notes.length < 20) :
    PureR Tryz.prog 52 [docD { d with notes := woN (subIds d n.id) d.notes }, int y.id, int (timeOf n en), .bool en] (docD { d with notes := woN (subIds d n.id) (extP d (timeOf n en) en d.tiers.length d.notes y.id) }) := by
  have := refExtend_ok d n y en b ht hn d.tiers.length y (fun _ => False) .top (by omega) (fun _ e => e.elim) (fun _ _ _ e => e)
  rw [midN_none] at this
  rw [extP_all b.rgt _ _ b.hy]
  rwa [show midN d n en (fun m => False ∨ Chn d en y m) = woN (subIds d n.id) (d.notes.map (mrk en (timeOf n en) (Chn d en y))) from by
    unfold midN
    rw [mrk_congr fun m _ => (by simp : (False ∨ Chn d en y m) ↔ Chn d en y m)]] at this
set_option maxHeartbeats 16000000 in
theorem refDrop_ok (d : Dc) (h : Rgt d) (hn : d.notes.length ≤ 15) (id : Int) : PureR Tryz.prog 16 [docD d, int id] (resL (dropE d id)) := by
  have ht := tiers20 h
  have hget := refGet_ok d id (by omega)
  have hm := getN_mem (l := d.notes) (id := id)
  unfold dropE
  obtain ⟨⟨n, ok⟩, eg⟩ : ∃ g, getN d.notes id = g := ⟨_, rfl⟩
  rw [eg] at hm hget ⊢
  cases ok with
  | false =>
    refine pure_of_body mixed Tryz.func16 rfl call_16 ?_
    simp (decide := true) [Tryz.f16, docD, Dc.row, int, resL]
    refine ECall.pure (by rfl) hget (by simp (decide := true) [docD, Dc.row, int]) ?_
    simp (decide := true) [getD', Nt.row, int, Dc.zero, ints, tiersD, notesD]
  | true =>
  have hn1 : n ∈ d.notes := (hm rfl).1
  have hn2 : n.id = id := (hm rfl).2
  clear hm eg
  subst hn2
  have hid : ∃ m ∈ d.notes, m.id = n.id := ⟨n, hn1, rfl⟩
  obtain ⟨t, htl, et⟩ := h.tt hn1
  have hkd : kindI d n.tier = (tirAt d n.tier).kind := by rw [et]; exact kindI_at htl
  have hsub := refSubtree_ok d h n.id hid
  have hK := refKidsW_ok h.w n.par n.tier
  have hkind := refKind_okI d n.tier (by omega)
  have hol : (subIds d n.id).length ≤ d.notes.length := by unfold subIds; rw [idsOf_len]; exact List.length_filter_le _ _
  have hwo := refWithout_ok d (subIds d n.id) (by omega) (by omega)
  have hkl := kidsN_len d n.par n.tier
  have hil := idsOf_len (kidsN d n.par n.tier)
  have hP := place_ok (idsOf (kidsN d n.par n.tier)) n.id (by omega)
  simp only [Bool.true_eq_false, if_false]
  by_cases h3 : kindI d n.tier = 3
  · have hS := refShift_ok { d with notes := woN (subIds d n.id) d.notes } n.tier n.par n.rank (-1) (by show (woN _ _).length < _; have : (woN (subIds d n.id) d.notes).length ≤ d.notes.length := List.length_filter_le _ _; omega) (fun m hm => h.rank m (List.mem_filter.1 hm).1) (by omega)
    have hE : shN n.tier n.par n.rank (-1) (woN (subIds d n.id) d.notes) = woN (subIds d n.id) (dropL d n) := by
      unfold dropL
      rw [if_pos h3]
      exact (woN_map (fun m => sh1_id _ _ _ _ m) _).symm
    simp only at hS
    rw [hE] at hS
    generalize woN (subIds d n.id) (dropL d n) = l2 at hS ⊢
    generalize woN (subIds d n.id) d.notes = l1 at hS hwo ⊢
    generalize subIds d n.id = out at hsub hwo ⊢
    generalize kidsN d n.par n.tier = ks at hK hP hil hkl
    generalize idxI (fun x => decide (x = n.id)) (idsOf ks) = j at hP
    refine pure_of_body mixed Tryz.func16 rfl call_16 ?_
    simp (decide := true) [Tryz.f16, docD, Dc.row, int, resL]
    refine ECall.pure (by rfl) hget (by simp (decide := true) [docD, Dc.row, int]) ?_
    simp (decide := true) [getD', Nt.row, int]
    refine ECall.pure (by rfl) hK (by simp (decide := true) [docD, Dc.row, int]) ?_
    simp (decide := true) [int, ints]
    refine ECall.pure (by rfl) hP (by simp (decide := true) [int, ints]) ?_
    simp (decide := true) [int, ints]
    refine ECall.pure (by rfl) hsub (by simp (decide := true) [docD, Dc.row, int, ints]) ?_
    simp (decide := true) [int, ints]
    refine ECall.pure (by rfl) hwo (by simp (decide := true) [docD, Dc.row, int, ints]) ?_
    simp (decide := true) [int, ints, docD, Dc.row, tiersD, notesD]
    refine ECall.pure (by rfl) hkind (by simp (decide := true) [docD, Dc.row, int, ints, tiersD, notesD]) ?_
    simp (decide := true) [int, ints, docD, Dc.row, tiersD, notesD, h3]
    refine ECall.pure (by rfl) hS (by simp (decide := true) [docD, Dc.row, int, ints, tiersD, notesD]) ?_
    simp (decide := true) [int, ints, docD, Dc.row, tiersD, notesD, h3]
    refine ECall.pure (by rfl) hkind (by simp (decide := true) [docD, Dc.row, int, ints, tiersD, notesD]) ?_
    simp (decide := true) [int, ints, docD, Dc.row, tiersD, notesD, h3]
    refine ECall.pure (by rfl) hkind (by simp (decide := true) [docD, Dc.row, int, ints, tiersD, notesD]) ?_
    simp (decide := true) [int, ints, docD, Dc.row, tiersD, notesD, h3]
  by_cases h1 : kindI d n.tier = 1
  case neg =>
    have hE : dropL d n = d.notes := by unfold dropL; rw [if_neg h3, if_neg h1]
    rw [hE]
    generalize woN (subIds d n.id) d.notes = l1 at hwo ⊢
    generalize subIds d n.id = out at hsub hwo ⊢
    generalize kidsN d n.par n.tier = ks at hK hP hil hkl
    generalize idxI (fun x => decide (x = n.id)) (idsOf ks) = j at hP
    refine pure_of_body mixed Tryz.func16 rfl call_16 ?_
    simp (decide := true) [Tryz.f16, docD, Dc.row, int, resL]
    refine ECall.pure (by rfl) hget (by simp (decide := true) [docD, Dc.row, int]) ?_
    simp (decide := true) [getD', Nt.row, int]
    refine ECall.pure (by rfl) hK (by simp (decide := true) [docD, Dc.row, int]) ?_
    simp (decide := true) [int, ints]
    refine ECall.pure (by rfl) hP (by simp (decide := true) [int, ints]) ?_
    simp (decide := true) [int, ints]
    refine ECall.pure (by rfl) hsub (by simp (decide := true) [docD, Dc.row, int, ints]) ?_
    simp (decide := true) [int, ints]
    refine ECall.pure (by rfl) hwo (by simp (decide := true) [docD, Dc.row, int, ints]) ?_
    simp (decide := true) [int, ints, docD, Dc.row, tiersD, notesD]
    refine ECall.pure (by rfl) hkind (by simp (decide := true) [docD, Dc.row, int, ints, tiersD, notesD]) ?_
    simp (decide := true) [int, ints, docD, Dc.row, tiersD, notesD, h3, h1]
    refine ECall.pure (by rfl) hkind (by simp (decide := true) [docD, Dc.row, int, ints, tiersD, notesD]) ?_
    simp (decide := true) [int, ints, docD, Dc.row, tiersD, notesD, h3, h1]
    refine ECall.pure (by rfl) hkind (by simp (decide := true) [docD, Dc.row, int, ints, tiersD, notesD]) ?_
    simp (decide := true) [int, ints, docD, Dc.row, tiersD, notesD, h3, h1]
  have hk1 : (tirAt d n.tier).kind = 1 := by rw [← hkd]; exact h1
  have hkm : ∀ x ∈ kidsN d n.par n.tier, x ∈ d.notes ∧ x.tier = n.tier ∧ x.par = n.par := fun x hx => by
    rw [et] at hx
    have := (kid_mem htl).1 hx
    exact ⟨this.1.1, by rw [et]; exact this.1.2, this.2⟩
  have hmn : n ∈ kidsN d n.par n.tier := by rw [et]; exact (kid_mem htl).2 ⟨⟨hn1, et⟩, rfl⟩
  have hnd := nodup_ids h (id := n.par) htl
  rw [← et] at hnd
  obtain ⟨p1, p2⟩ := h.parent ⟨hn1, et⟩ htl (by rw [← et, hk1]; decide)
  have hne : kidsN d (upN d n).id n.tier ≠ [] := fun e => by
    rw [← p2, e] at hmn; cases hmn
  have hpt := (parts_of h p1.1 (t := t) htl (by rw [← et]; exact hk1) (by rw [← et]; exact hne)).1
  rw [← et, p2] at hpt
  have hdE : dropL d n = (if 0 < idxI (fun x => decide (x = n.id)) (idsOf (kidsN d n.par n.tier)) then extP d n.tO true d.tiers.length d.notes ((idsOf (kidsN d n.par n.tier))[(idxI (fun x => decide (x = n.id)) (idsOf (kidsN d n.par n.tier)) - 1).toNat]?.getD 0)
      else if 1 < (idsOf (kidsN d n.par n.tier)).length then extP d n.fr false d.tiers.length d.notes ((idsOf (kidsN d n.par n.tier))[1]?.getD 0) else d.notes) := by
    unfold dropL; rw [if_neg h3, if_pos h1]
  rw [hdE]
  generalize kidsN d n.par n.tier = ks at hK hP hil hkl hkm hnd hpt hmn ⊢
  obtain ⟨j, hj, ej⟩ := List.mem_iff_getElem.1 hmn
  have hidx := idxI_at hnd (i := j) (a := n.id) (by unfold idsOf; rw [List.getElem?_map, List.getElem?_eq_getElem hj, ej]; rfl)
  have hdist : ∀ i, (hi : i < ks.length) → i ≠ j → ks[i] ≠ n := fun i hi hij e => by
    have h1 : (idsOf ks)[i]'(by rw [idsOf_len]; exact hi) = (idsOf ks)[j]'(by rw [idsOf_len]; exact hj) := by
      simp only [idsOf, List.getElem_map, e, ej]
    have hp := List.pairwise_iff_getElem.1 hnd
    rcases Nat.lt_trichotomy i j with q | q | q
    · exact hp i j _ _ q h1
    · exact hij q
    · exact hp j i _ _ q h1.symm
  rw [hidx] at hP ⊢
  have hgk : ∀ (i : Nat) (hi : i < ks.length), (idsOf ks)[i]? = some ks[i].id := fun i hi => by unfold idsOf; rw [List.getElem?_map, List.getElem?_eq_getElem hi]; rfl
  by_cases j0 : 0 < j
  · rw [if_pos (by omega)]
    have hi : j - 1 < ks.length := by omega
    rw [show ((j : Int) - 1).toNat = j - 1 by omega, idsOf_at hi]
    have hgj := hgk (j - 1) hi
    obtain ⟨z1, z2, z3⟩ := hkm _ (List.getElem_mem hi)
    have hz := hpt j hj
    rw [if_neg (by omega), ej, gN_eq hi] at hz
    have b : Nbr d n ks[j - 1] true := ⟨h, hn1, z1, hdist _ hi (by omega), z2, z3, hk1, by rw [if_pos rfl]; exact hz.symm⟩
    have hX := ext_none b (by omega) (by omega)
    simp only [timeOf, if_true] at hX
    have hb3 : j - 1 < (idsOf ks).length := by omega
    have elg : (idsOf ks)[j - 1]'hb3 = ks[j - 1].id := by rw [List.getElem?_eq_getElem hb3] at hgj; exact Option.some.inj hgj
    generalize ks[j - 1].id = w at hX hgj elg ⊢
    generalize woN (subIds d n.id) (extP d n.tO true d.tiers.length d.notes w) = l2 at hX ⊢
    generalize woN (subIds d n.id) d.notes = l1 at hX hwo ⊢
    generalize subIds d n.id = out at hsub hwo ⊢
    have j0' : (0 : Int) < j := by omega
    refine pure_of_body mixed Tryz.func16 rfl call_16 ?_
    simp (decide := true) [Tryz.f16, docD, Dc.row, int, resL]
    refine ECall.pure (by rfl) hget (by simp (decide := true) [docD, Dc.row, int]) ?_
    simp (decide := true) [getD', Nt.row, int]
    refine ECall.pure (by rfl) hK (by simp (decide := true) [docD, Dc.row, int]) ?_
    simp (decide := true) [int, ints]
    refine ECall.pure (by rfl) hP (by simp (decide := true) [int, ints]) ?_
    simp (decide := true) [int, ints]
    refine ECall.pure (by rfl) hsub (by simp (decide := true) [docD, Dc.row, int, ints]) ?_
    simp (decide := true) [int, ints]
    refine ECall.pure (by rfl) hwo (by simp (decide := true) [docD, Dc.row, int, ints]) ?_
    simp (decide := true) [int, ints, docD, Dc.row, tiersD, notesD]
    refine ECall.pure (by rfl) hkind (by simp (decide := true) [docD, Dc.row, int, ints, tiersD, notesD]) ?_
    simp (decide := true) [int, ints, docD, Dc.row, tiersD, notesD, h3, h1]
    refine ECall.pure (by rfl) hkind (by simp (decide := true) [docD, Dc.row, int, ints, tiersD, notesD]) ?_
    simp (decide := true) [int, ints, docD, Dc.row, tiersD, notesD, h3, h1, j0, j0']
    refine draw_last2 mixed (by simp) (by rfl) (by rfl) (by rfl) (by simp) ?_
    simp (decide := true) [int, ints, docD, Dc.row, tiersD, notesD, hgj, elg, hil, hj, j0, j0', I64]
    refine ⟨⟨by omega, by omega⟩, ⟨by omega, by omega⟩, ?_⟩
    refine scall_pure (by rfl) (by rfl) hX (by simp (decide := true) [docD, Dc.row, int, ints, tiersD, notesD]) ?_
    simp (decide := true) [int, ints, docD, Dc.row, tiersD, notesD]
  · rw [if_neg (by omega)]
    have jz : j = 0 := by omega
    subst jz
    by_cases l1c : 1 < (idsOf ks).length
    · rw [if_pos l1c]
      have hl1 : 1 < ks.length := by omega
      rw [idsOf_at hl1]
      have hgj := hgk 1 hl1
      obtain ⟨z1, z2, z3⟩ := hkm _ (List.getElem_mem hl1)
      have hz := hpt 1 hl1
      rw [if_neg (by omega), gN_eq (by omega)] at hz
      simp only [Nat.sub_self, ej] at hz
      have b : Nbr d n ks[1] false := ⟨h, hn1, z1, hdist _ hl1 (by omega), z2, z3, hk1, by rw [if_neg (by decide)]; exact hz⟩
      have hX := ext_none b (by omega) (by omega)
      simp only [timeOf, Bool.false_eq_true, if_false] at hX
      have elg : (idsOf ks)[1]'l1c = ks[1].id := by rw [List.getElem?_eq_getElem l1c] at hgj; exact Option.some.inj hgj
      generalize ks[1].id = w at hX hgj elg ⊢
      generalize woN (subIds d n.id) (extP d n.fr false d.tiers.length d.notes w) = l2 at hX ⊢
      generalize woN (subIds d n.id) d.notes = l1 at hX hwo ⊢
      generalize subIds d n.id = out at hsub hwo ⊢
      have l1c' : (1 : Int) < ks.length := by omega
      refine pure_of_body mixed Tryz.func16 rfl call_16 ?_
      simp (decide := true) [Tryz.f16, docD, Dc.row, int, resL]
      refine ECall.pure (by rfl) hget (by simp (decide := true) [docD, Dc.row, int]) ?_
      simp (decide := true) [getD', Nt.row, int]
      refine ECall.pure (by rfl) hK (by simp (decide := true) [docD, Dc.row, int]) ?_
      simp (decide := true) [int, ints]
      refine ECall.pure (by rfl) hP (by simp (decide := true) [int, ints]) ?_
      simp (decide := true) [int, ints]
      refine ECall.pure (by rfl) hsub (by simp (decide := true) [docD, Dc.row, int, ints]) ?_
      simp (decide := true) [int, ints]
      refine ECall.pure (by rfl) hwo (by simp (decide := true) [docD, Dc.row, int, ints]) ?_
      simp (decide := true) [int, ints, docD, Dc.row, tiersD, notesD]
      refine ECall.pure (by rfl) hkind (by simp (decide := true) [docD, Dc.row, int, ints, tiersD, notesD]) ?_
      simp (decide := true) [int, ints, docD, Dc.row, tiersD, notesD, h3, h1]
      refine ECall.pure (by rfl) hkind (by simp (decide := true) [docD, Dc.row, int, ints, tiersD, notesD]) ?_
      simp (decide := true) [int, ints, docD, Dc.row, tiersD, notesD, h3, h1, I64]
      refine ECall.pure (by rfl) hkind (by simp (decide := true) [docD, Dc.row, int, ints, tiersD, notesD]) ?_
      simp (decide := true) [int, ints, docD, Dc.row, tiersD, notesD, h3, h1, hil, l1c, l1c', I64]
      refine draw_last2 mixed (by simp) (by rfl) (by rfl) (by rfl) (by simp) ?_
      simp (decide := true) [int, ints, docD, Dc.row, tiersD, notesD, hgj, elg, hil, l1c, l1c', I64]
      refine scall_pure (by rfl) (by rfl) hX (by simp (decide := true) [docD, Dc.row, int, ints, tiersD, notesD]) ?_
      simp (decide := true) [int, ints, docD, Dc.row, tiersD, notesD]
    · rw [if_neg l1c]
      generalize woN (subIds d n.id) d.notes = l1 at hwo ⊢
      generalize subIds d n.id = out at hsub hwo ⊢
      have l1c' : ¬ (1 : Int) < ks.length := by omega
      refine pure_of_body mixed Tryz.func16 rfl call_16 ?_
      simp (decide := true) [Tryz.f16, docD, Dc.row, int, resL]
      refine ECall.pure (by rfl) hget (by simp (decide := true) [docD, Dc.row, int]) ?_
      simp (decide := true) [getD', Nt.row, int]
      refine ECall.pure (by rfl) hK (by simp (decide := true) [docD, Dc.row, int]) ?_
      simp (decide := true) [int, ints]
      refine ECall.pure (by rfl) hP (by simp (decide := true) [int, ints]) ?_
      simp (decide := true) [int, ints]
      refine ECall.pure (by rfl) hsub (by simp (decide := true) [docD, Dc.row, int, ints]) ?_
      simp (decide := true) [int, ints]
      refine ECall.pure (by rfl) hwo (by simp (decide := true) [docD, Dc.row, int, ints]) ?_
      simp (decide := true) [int, ints, docD, Dc.row, tiersD, notesD]
      refine ECall.pure (by rfl) hkind (by simp (decide := true) [docD, Dc.row, int, ints, tiersD, notesD]) ?_
      simp (decide := true) [int, ints, docD, Dc.row, tiersD, notesD, h3, h1]
      refine ECall.pure (by rfl) hkind (by simp (decide := true) [docD, Dc.row, int, ints, tiersD, notesD]) ?_
      simp (decide := true) [int, ints, docD, Dc.row, tiersD, notesD, h3, h1, I64]
      refine ECall.pure (by rfl) hkind (by simp (decide := true) [docD, Dc.row, int, ints, tiersD, notesD]) ?_
      simp (decide := true) [int, ints, docD, Dc.row, tiersD, notesD, h3, h1, hil, l1c, l1c', I64]
theorem dropE_len {d : Dc} {id : Int} : (dropE d id).1.notes.length ≤ d.notes.length := by
  unfold dropE
  split
  · exact Nat.zero_le _
  · have h1 : ({ d with notes := woN (subIds d id) (dropL d (getN d.notes id).1) } : Dc).notes.length ≤ (dropL d (getN d.notes id).1).length := List.length_filter_le _ _
    have h2 : (dropL d (getN d.notes id).1).length = d.notes.length := by
      unfold dropL
      split
      · exact shN_len _ _ _ _ _
      · split
        · split
          · exact skel_len (extP_skel _ _ _ _ _ _)
          · split
            · exact skel_len (extP_skel _ _ _ _ _ _)
            · rfl
        · rfl
    exact Nat.le_trans h1 (by rw [h2]; exact Nat.le_refl _)
theorem dropE_fit {d : Dc} (hf : d.fit) (id : Int) : (dropE d id).1.fit := by
  have h := dropE_len (d := d) (id := id)
  obtain ⟨f1, f2, f3⟩ := hf
  refine ⟨by omega, ?_, ?_⟩
  · unfold dropE; split
    · exact Nat.zero_le _
    · exact f2
  · unfold dropE; split
    · exact Nat.zero_le _
    · exact f3
set_option maxHeartbeats 4000000 in
theorem law_drops (d : Dc) (id : Int) (hs : ∀ t ∈ d.tiers, t.name.size ≤ 9223372036854775807) (hx : ∀ n ∈ d.notes, n.text.size ≤ 9223372036854775807) :
    PureR Tryz.prog 3 [docD d, int id] (.bool true) := by
  refine pure_of_body mixed Tryz.func3 rfl call_3 ?_
  simp (decide := true) [Tryz.f3, docD, Dc.row, int]
  refine ECall.pure (by rfl) (light13_ok d ⟨#[]⟩ hs hx) (by simp (decide := true) [docD, Dc.row]) ?_
  cases hl : lightB d ⟨#[]⟩
  · simp (decide := true)
    refine ECall.pure (by rfl) awake13_R (by simp) ?_
    simp (decide := true)
  obtain ⟨h0, h1, h2, h3, hr⟩ := lightB_spec hl
  have hfit : d.fit := ⟨by omega, by omega, by omega⟩
  have w1 := drop_ok d hr (by omega) id
  have w2 := refDrop_ok d hr (by omega) id
  have f1 := dropE_fit hfit id
  have hol : (dropE d id).2.1.length ≤ 15 := by
    unfold dropE; split
    · exact Nat.zero_le _
    · show (subIds d id).length ≤ 15
      have : (subIds d id).length ≤ d.notes.length := by unfold subIds; rw [idsOf_len]; exact List.length_filter_le _ _
      omega
  generalize dropE d id = r1 at w1 w2 f1 hol
  obtain ⟨r, o, e⟩ := r1
  have hso := sameI_ok o o (by simp only at hol; omega)
  rw [decide_eq_true rfl] at hso
  have hsm := same13_ok r r e e f1
  simp only [decide_true, Bool.and_self] at hsm
  simp (decide := true)
  refine ECall.pure (by rfl) w1 (by simp (decide := true) [docD, Dc.row, int, Nt.row]) ?_
  simp (decide := true) [resL, docD, Dc.row, int]
  refine ECall.pure (by rfl) w2 (by simp (decide := true) [docD, Dc.row, int, Nt.row]) ?_
  simp (decide := true) [resL, docD, Dc.row, int]
  refine ECall.pure (by rfl) hsm (by simp (decide := true) [docD, Dc.row, int]) ?_
  simp (decide := true) [int]
  refine ECall.pure (by rfl) hso (by simp (decide := true) [docD, Dc.row, int]) ?_
  simp (decide := true) [int]
  refine ECall.pure (by rfl) awake13_R (by simp) ?_
  simp (decide := true)
end Go.V
