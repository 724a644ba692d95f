/- Contracts and plain laws of this seat: part ME. It needs no conditions. -/
import Derived.Test.YtnflnfmbgghbeaaGreatDoorMC
import Derived.Test.YtnflnfmbgghbeaaGreatDoorMD
import Derived.Test.YtnflnfmbgghbeaaGreatDoorMA
set_option linter.unusedVariables false
set_option linter.unusedSimpArgs false
set_option linter.unusedSectionVars false
set_option maxRecDepth 100000
namespace Go.V
open Go Go.Proofs
section
variable {d : Dc}
theorem bef_apart (h : Rgt d) : ∀ (t : Nat), t < d.tiers.length → alK (tirAt d t).kind = true → ∀ a b, inT d t a → inT d t b → befT d t a b = true → a.tO ≤ b.fr := by
  intro t
  induction t using Nat.strongRecOn with
  | _ t ih =>
    intro ht hal a b ha hb hab
    by_cases hp : a.par = b.par
    · rw [bef_same hp, decide_eq_true_eq] at hab
      unfold keyT at hab
      rw [if_pos hal, if_pos hal] at hab
      exact h.sibs_apart ht hal ha hb hp hab
    · have hk : (tirAt d t).kind ≠ 0 := fun e => hp (by rw [h.root ha e, h.root hb e])
      have hu := h.up ht hk
      rw [bef_up hp hu.2] at hab
      have := ih _ hu.2 (by omega) (h.upal ht hk hal) _ _ (h.parent ha ht hk).1 (h.parent hb ht hk).1 hab
      have h1 := (h.inside ha hal).2.2.2 hk
      have h2 := (h.inside hb hal).2.2.2 hk
      omega
theorem parts_first {l : List Nt} {f u : Int} (hs : ∀ n ∈ l, f ≤ n.fr ∧ n.fr < n.tO ∧ n.tO ≤ u) (hp : l.Pairwise fun a b => a.tO ≤ b.fr) (hc : ∀ v, f ≤ v → v < u → ∃ n ∈ l, n.fr ≤ v ∧ v < n.tO) (hl : l ≠ []) :
    (∀ (k : Nat) (hk : k < l.length), l[k].fr = if k = 0 then f else (gN l (k - 1)).tO) ∧ (gN l (l.length - 1)).tO = u := by
  have hpw := List.pairwise_iff_getElem.1 hp
  have h0 := List.length_pos_iff.2 hl
  have hlast : ∀ j, j < l.length → (gN l j).tO ≤ (gN l (l.length - 1)).tO := by
    intro j hj
    rw [gN_eq hj, gN_eq (by omega)]
    rcases Nat.eq_or_lt_of_le (show j ≤ l.length - 1 by omega) with e | e
    · simp [← e]
    · have := hpw j (l.length - 1) hj (by omega) e
      have := hs l[l.length - 1] (List.getElem_mem _)
      omega
  refine ⟨fun k hk => ?_, ?_⟩
  · have hk' := hs l[k] (List.getElem_mem _)
    rcases Nat.eq_zero_or_pos k with rfl | hk0
    · rw [if_pos rfl]
      obtain ⟨n, hn, n1, n2⟩ := hc f (Int.le_refl _) (by omega)
      obtain ⟨j, hj, rfl⟩ := List.mem_iff_getElem.1 hn
      rcases Nat.eq_zero_or_pos j with rfl | hj0
      · omega
      · have := hpw 0 j hk hj hj0
        omega
    · rw [if_neg (by omega), gN_eq (by omega)]
      have h1 := hpw (k - 1) k (by omega) hk (by omega)
      have hm := hs (l[k - 1]'(by omega)) (List.getElem_mem _)
      apply Classical.byContradiction
      intro hne
      obtain ⟨n, hn, n1, n2⟩ := hc ((l[k - 1]'(by omega)).tO) (by omega) (by omega)
      obtain ⟨j, hj, rfl⟩ := List.mem_iff_getElem.1 hn
      rcases Nat.lt_trichotomy j k with e | rfl | e
      · rcases Nat.eq_or_lt_of_le (show j ≤ k - 1 by omega) with e2 | e2
        · subst e2; omega
        · have := hpw j (k - 1) hj (by omega) e2
          omega
      · omega
      · have := hpw k j hk hj e
        omega
  · have hm := hs (l[l.length - 1]'(by omega)) (List.getElem_mem _)
    have e := gN_eq (s := l) (i := l.length - 1) (by omega)
    rw [e]
    apply Classical.byContradiction
    intro hne
    obtain ⟨n, hn, n1, n2⟩ := hc ((l[l.length - 1]'(by omega)).tO) (by omega) (by omega)
    obtain ⟨j, hj, rfl⟩ := List.mem_iff_getElem.1 hn
    have := hlast j hj
    rw [e, gN_eq hj] at this
    omega
end
end Go.V
namespace Go.V
open Go Go.Proofs
theorem inc_getN {l : List Nt} (h : IncL l) {n : Nt} (hn : n ∈ l) : getN l n.id = (n, true) := by
  unfold getN
  cases hf : l.find? fun m => decide (m.id = n.id) with
  | none => rw [List.find?_eq_none] at hf; exact absurd (hf n hn) (by simp)
  | some m =>
    have h1 := List.mem_of_find?_eq_some hf
    have h2 : m.id = n.id := by simpa using List.find?_some hf
    rw [inc_uniq h h1 hn h2]
theorem place_of {d : Dc} {n : Nt} (h1 : (tirAt d n.tier).kind = 0 → n.par = 0) (h2 : (tirAt d n.tier).kind ≠ 0 → (getN d.notes n.par).2 = true ∧ (getN d.notes n.par).1.tier = (tirAt d n.tier).par)
    (h3 : withinP d n (getN d.notes n.par).1 = true) (h4 : 0 ≤ n.rank ∧ (n.rank = 0 ∨ (tirAt d n.tier).kind = 3)) : placeE d n = 0 := by
  unfold placeE
  rw [if_pos, if_pos h3, if_neg]
  · omega
  · by_cases hk : (tirAt d n.tier).kind = 0
    · rw [if_pos hk]; simpa using h1 hk
    · rw [if_neg hk]; simp [h2 hk]
def leftD (d : Dc) (S : List Int) (F : Nt → Nt) : Dc := { d with notes := woN S (d.notes.map F) }
def Kp (d : Dc) (S : List Int) (m : Nt) : Prop := m ∈ d.notes ∧ m.id ∉ S
structure Left (d : Dc) (S : List Int) (F : Nt → Nt) : Prop where
  keep : ∀ m, (F m).id = m.id ∧ (F m).tier = m.tier ∧ (F m).par = m.par ∧ (F m).text = m.text
  up : ∀ m, Kp d S m → ∀ p ∈ d.notes, p.id = m.par → p.id ∉ S
  al : ∀ m, Kp d S m → alK (tirAt d m.tier).kind = true → rightS (F m).fr (F m).tO = true ∧ ((tirAt d m.tier).kind = 0 → (F m).tO ≤ d.len) ∧ ((tirAt d m.tier).kind ≠ 0 → ∀ p, Kp d S p → p.id = m.par → (F p).fr ≤ (F m).fr ∧ (F m).tO ≤ (F p).tO)
  flat : ∀ m, Kp d S m → alK (tirAt d m.tier).kind = false → (F m).fr = 0 ∧ (F m).tO = 0
  rank : ∀ m, Kp d S m → 0 ≤ (F m).rank ∧ ((F m).rank = 0 ∨ (tirAt d m.tier).kind = 3)
  ov : ∀ a b, Kp d S a → Kp d S b → a ≠ b → a.tier = b.tier → a.par = b.par → alK (tirAt d a.tier).kind = true → NM (F a) (F b)
  gap : ∀ m p, Kp d S m → Kp d S p → p.id = m.par → (tirAt d m.tier).kind = 1 → ∀ v, (F p).fr ≤ v → v < (F p).tO → ∃ c, Kp d S c ∧ c.tier = m.tier ∧ c.par = m.par ∧ (F c).fr ≤ v ∧ v < (F c).tO
  ser : ∀ m, Kp d S m → (tirAt d m.tier).kind = 3 → ∀ j : Nat, j < (sibs (leftD d S F).notes m.tier m.par).length → ∃ c, Kp d S c ∧ c.tier = m.tier ∧ c.par = m.par ∧ (F c).rank = j
theorem Left.mem {d : Dc} {S : List Int} {F : Nt → Nt} (l : Left d S F) {x : Nt} : x ∈ (leftD d S F).notes ↔ ∃ m, Kp d S m ∧ F m = x := by
  unfold leftD woN
  rw [List.mem_filter, List.mem_map]
  constructor
  · rintro ⟨⟨m, hm, rfl⟩, hx⟩
    rw [(l.keep m).1] at hx
    exact ⟨m, ⟨hm, by simpa using hx⟩, rfl⟩
  · rintro ⟨m, ⟨hm, hS⟩, rfl⟩
    exact ⟨⟨m, hm, rfl⟩, by rw [(l.keep m).1]; simpa using hS⟩
theorem Left.inc {d : Dc} (h : Rgt d) {S : List Int} {F : Nt → Nt} (l : Left d S F) : IncL (leftD d S F).notes := by
  have : IncL (d.notes.map F) := IncL.map h.inc fun n => (l.keep n).1
  exact this.sublist List.filter_sublist
theorem Left.sib {d : Dc} {S : List Int} {F : Nt → Nt} (l : Left d S F) {t p : Int} {x : Nt} : x ∈ sibs (leftD d S F).notes t p ↔ ∃ m, Kp d S m ∧ F m = x ∧ m.tier = t ∧ m.par = p := by
  unfold sibs
  rw [List.mem_filter, l.mem]
  constructor
  · rintro ⟨⟨m, hm, rfl⟩, hx⟩
    rw [(l.keep m).2.1, (l.keep m).2.2.1, Bool.and_eq_true, decide_eq_true_eq, decide_eq_true_eq] at hx
    exact ⟨m, hm, rfl, hx.1, hx.2⟩
  · rintro ⟨m, hm, rfl, h1, h2⟩
    exact ⟨⟨m, hm, rfl⟩, by rw [(l.keep m).2.1, (l.keep m).2.2.1, h1, h2]; simp⟩
theorem Left.right {d : Dc} (h : Rgt d) {S : List Int} {F : Nt → Nt} (l : Left d S F) : Rgt (leftD d S F) := by
  have hinc := l.inc h
  have hmem := fun x => l.mem (x := x)
  have hpar : ∀ m, Kp d S m → (tirAt d m.tier).kind ≠ 0 → ∃ p, Kp d S p ∧ p.id = m.par ∧ p.tier = (tirAt d m.tier).par ∧ getN (leftD d S F).notes m.par = (F p, true) := by
    intro m hm hk
    have hok := note_of h.good hm.1
    have hp := (place_iff hok.place).2.1 hk
    obtain ⟨p1, p2⟩ := getN_mem hp.1
    have hS := l.up m hm _ p1 p2
    refine ⟨_, ⟨p1, hS⟩, p2, hp.2, ?_⟩
    have hFm : F (getN d.notes m.par).1 ∈ (leftD d S F).notes := (hmem _).2 ⟨_, ⟨p1, hS⟩, rfl⟩
    have := inc_getN hinc hFm
    rw [(l.keep _).1, p2] at this
    exact this
  have hnok : ∀ x ∈ (leftD d S F).notes, Nok (leftD d S F) x := by
    intro x hx
    obtain ⟨m, hm, rfl⟩ := (hmem x).1 hx
    have hN := h.nok m hm.1
    obtain ⟨k1, k2, k3, k4⟩ := l.keep m
    refine ⟨by rw [k1]; exact hN.lo, by rw [k1]; exact hN.hi, by rw [k2]; exact hN.t0, by rw [k2]; exact hN.t1, ?_⟩
    have he := hN.e
    rw [noteE_place] at he ⊢
    rw [k4]
    have htx : textE m.text = 0 := by
      by_cases e : textE m.text = 0
      · exact e
      · rw [if_neg e] at he; exact absurd he e
    rw [if_pos htx]
    have htir : ∀ i, tirAt (leftD d S F) i = tirAt d i := fun _ => rfl
    have hok := note_of h.good hm.1
    refine place_of ?_ ?_ ?_ ?_
    · rw [htir, k2, k3]; exact (place_iff hok.place).1
    · rw [htir, k2, k3]
      intro hk
      obtain ⟨p, hp, hpi, hpt, hg⟩ := hpar m hm hk
      rw [hg]
      exact ⟨rfl, by rw [(l.keep p).2.1]; exact hpt⟩
    · unfold withinP
      rw [htir, k2, k3]
      have halT : alT (leftD d S F).tiers m.tier = alK (tirAt d m.tier).kind := alT_at (d := d) hok.t0 hok.t1
      rw [halT]
      cases hal : alK (tirAt d m.tier).kind with
      | true =>
        rw [if_pos rfl]
        obtain ⟨a1, a2, a3⟩ := l.al m hm hal
        rw [a1, Bool.true_and]
        have a4 : 0 ≤ (F m).fr := by simp only [rightS, Bool.and_eq_true, decide_eq_true_eq] at a1; exact a1.1.1
        by_cases hk : (tirAt d m.tier).kind = 0
        · rw [if_pos hk, decide_eq_true a4, Bool.true_and, decide_eq_true_eq]
          exact a2 hk
        · rw [if_neg hk]
          obtain ⟨p, hp, hpi, hpt, hg⟩ := hpar m hm hk
          rw [hg, Bool.and_eq_true, decide_eq_true_eq, decide_eq_true_eq]
          exact a3 hk p hp hpi
      | false =>
        rw [if_neg Bool.false_ne_true, Bool.and_eq_true, decide_eq_true_eq, decide_eq_true_eq]
        exact l.flat m hm hal
    · rw [htir, k2]; exact l.rank m hm
  refine ⟨h.tiers, h.len, ?_, hnok, hinc, ?_⟩
  · have : (leftD d S F).notes.length ≤ (d.notes.map F).length := List.length_filter_le _ _
    rw [List.length_map] at this
    exact Nat.le_trans this h.few
  · intro t ht
    have ht' : t < d.tiers.length := ht
    have htir : tirAt (leftD d S F) t = tirAt d t := rfl
    rw [ter_iff, htir]
    refine ⟨fun x hx => ?_, fun x hx => ?_⟩
    · obtain ⟨m, hm, rfl⟩ := (hmem x).1 (inT_iff.1 hx).1
      have hmt : m.tier = t := by have := (inT_iff.1 hx).2; rw [(l.keep m).2.1] at this; exact this
      unfold ovR
      cases hal : alK (tirAt d t).kind with
      | false => rfl
      | true =>
        rw [Bool.true_and, over_pair]
        have hsub : (sibs (leftD d S F).notes t (F m).par).Pairwise fun a b => a.id < b.id := hinc.sublist List.filter_sublist
        refine hsub.imp_of_mem fun {a b} ha hb hab => ?_
        obtain ⟨a0, ha0, rfl, ta, pa⟩ := l.sib.1 ha
        obtain ⟨b0, hb0, rfl, tb, pb⟩ := l.sib.1 hb
        refine l.ov a0 b0 ha0 hb0 (fun e => by rw [e] at hab; omega) (by rw [ta, tb]) (by rw [pa, pb]) (by rw [ta]; exact hal)
    · obtain ⟨m, hm, rfl⟩ := (hmem x).1 (inT_iff.1 hx).1
      have hmt : m.tier = t := by have := (inT_iff.1 hx).2; rw [(l.keep m).2.1] at this; exact this
      have hkm : (tirAt d m.tier).kind = (tirAt d t).kind := by rw [hmt]
      unfold badR
      rw [(l.keep m).2.2.1]
      have hlab : (tirAt d t).kind = 4 → ¬ 1 < (sibs (leftD d S F).notes t m.par).length := by
        intro k4 hgt
        have hb := (ter_iff.1 (h.ter t ht')).2 m (inT_iff.2 ⟨hm.1, hmt⟩)
        rw [k4] at hb
        simp [badR] at hb
        have hs : (sibs (leftD d S F).notes t m.par).length ≤ (sibs d.notes t m.par).length := by
          have e1 : sibs (leftD d S F).notes t m.par = woN S (sibs (d.notes.map F) t m.par) := by
            unfold leftD woN sibs
            simp only [List.filter_filter]
            exact List.filter_congr fun y _ => by rw [Bool.and_comm]
          have e2 : sibs (d.notes.map F) t m.par = (sibs d.notes t m.par).map F := by
            unfold sibs
            rw [List.filter_map]
            congr 1
            exact List.filter_congr fun y _ => by simp only [Function.comp, (l.keep y).2.1, (l.keep y).2.2.1]
          rw [e1, e2]
          exact Nat.le_trans (List.length_filter_le _ _) (by rw [List.length_map]; exact Nat.le_refl _)
        omega
      by_cases k1 : (tirAt d t).kind = 1
      · obtain ⟨p, hp, hpi, hpt, hg⟩ := hpar m hm (by rw [hkm, k1]; decide)
        have hcov : coversS (spansOf (sibs (leftD d S F).notes t m.par)) ⟨(getN (leftD d S F).notes m.par).1.fr, (getN (leftD d S F).notes m.par).1.tO⟩ = true := by
          rw [hg, coversS_iff]
          have hpk := note_of h.good hp.1
          obtain ⟨u, eu⟩ : ∃ u : Nat, p.tier = u := ⟨p.tier.toNat, by have := hpk.t0; omega⟩
          have hpal : alK (tirAt d p.tier).kind = true := by
            have := h.upal ht' (by rw [k1]; decide) (by rw [k1]; rfl)
            rw [hpt, hmt]
            have h0 := (h.up ht' (by rw [k1]; decide)).1
            rwa [show ((tirAt d ↑t).par.toNat : Int) = (tirAt d ↑t).par by omega] at this
          refine ⟨(l.al p hp hpal).1, fun v v1 v2 => ?_⟩
          obtain ⟨c, hc, c1, c2, c3, c4⟩ := l.gap m p hm hp hpi (by rw [hkm, k1]) v v1 v2
          exact ⟨⟨(F c).fr, (F c).tO⟩, List.mem_map.2 ⟨F c, l.sib.2 ⟨c, hc, rfl, by rw [c1, hmt], c2⟩, rfl⟩, (l.al c hc (by rw [c1, hkm, k1]; rfl)).1, c3, c4⟩
        rw [hcov]
        simp [k1]
      · by_cases k3 : (tirAt d t).kind = 3
        · have hrk : rankP (sibs (leftD d S F).notes t m.par) = true := by
            rw [rankP_true]
            intro j hj
            rw [← hmt] at hj
            obtain ⟨c, hc, c1, c2, c3⟩ := l.ser m hm (by rw [hkm, k3]) j hj
            rw [List.any_eq_true]
            exact ⟨F c, l.sib.2 ⟨c, hc, rfl, by rw [c1, hmt], c2⟩, by simpa using c3⟩
          rw [hrk]
          simp [k3]
        · by_cases k4 : (tirAt d t).kind = 4
          · have := hlab k4
            simp [k4]
            omega
          · simp [k1, k3, k4]
end Go.V
namespace Go.V
open Go Go.Proofs
theorem Rgt.tt {d : Dc} (h : Rgt d) {m : Nt} (hm : m ∈ d.notes) : ∃ t : Nat, t < d.tiers.length ∧ m.tier = t := by
  have hok := note_of h.good hm
  exact ⟨m.tier.toNat, by have := hok.t0; have := hok.t1; omega, by have := hok.t0; omega⟩
theorem Rgt.nm {d : Dc} (h : Rgt d) {a b : Nt} (ha : a ∈ d.notes) (hb : b ∈ d.notes) (hne : a ≠ b) (ht : a.tier = b.tier) (hp : a.par = b.par) (hal : alK (tirAt d a.tier).kind = true) : a.tO ≤ b.fr ∨ b.tO ≤ a.fr := by
  obtain ⟨t, htl, et⟩ := h.tt ha
  rw [et] at hal
  have ia : inT d t a := ⟨ha, et⟩
  have ib : inT d t b := ⟨hb, by rw [← ht]; exact et⟩
  have hk : keyT d t a ≠ keyT d t b := fun e => hne (h.keys htl ia ib hp e)
  unfold keyT at hk
  rw [if_pos hal, if_pos hal] at hk
  rcases Int.lt_or_gt_of_ne hk with h1 | h1
  · exact .inl (h.sibs_apart htl hal ia ib hp h1)
  · exact .inr (h.sibs_apart htl hal ib ia hp.symm h1)
theorem Rgt.upof {d : Dc} (h : Rgt d) {m p : Nt} (hm : m ∈ d.notes) (hp : p ∈ d.notes) (e : p.id = m.par) : upN d m = p := by
  have := getN_of h hp
  rw [e] at this
  unfold upN; rw [this]
theorem Rgt.span {d : Dc} (h : Rgt d) {m : Nt} (hm : m ∈ d.notes) (hal : alK (tirAt d m.tier).kind = true) :
    rightS m.fr m.tO = true ∧ ((tirAt d m.tier).kind = 0 → m.tO ≤ d.len) ∧ ((tirAt d m.tier).kind ≠ 0 → ∀ p ∈ d.notes, p.id = m.par → p.fr ≤ m.fr ∧ m.tO ≤ p.tO) := by
  obtain ⟨t, htl, et⟩ := h.tt hm
  have hr := right_of (note_of h.good hm) hal
  rw [et] at hal ⊢
  have hi := h.inside (t := t) ⟨hm, et⟩ hal
  refine ⟨hr, hi.2.2.1, fun hk p hp e => ?_⟩
  have := hi.2.2.2 hk
  rw [h.upof hm hp e] at this
  exact this
theorem Rgt.cover {d : Dc} (h : Rgt d) {m p : Nt} (hm : m ∈ d.notes) (hp : p ∈ d.notes) (e : p.id = m.par) (hk : (tirAt d m.tier).kind = 1) {v : Int} (v1 : p.fr ≤ v) (v2 : v < p.tO) :
    ∃ c ∈ d.notes, c.tier = m.tier ∧ c.par = m.par ∧ c.fr ≤ v ∧ v < c.tO := by
  obtain ⟨t, htl, et⟩ := h.tt hm
  rw [et] at hk ⊢
  have hbad := (ter_iff.1 (h.ter t htl)).2 m (inT_iff.2 ⟨hm, et⟩)
  rw [hk] at hbad
  simp only [badR, decide_true, Bool.true_and, Bool.or_eq_false_iff, Bool.not_eq_false'] at hbad
  have hcov := coversS_iff.1 hbad.1.1
  have e2 := h.upof hm hp e
  unfold upN at e2
  rw [e2] at hcov
  obtain ⟨y, hy, _, y1, y2⟩ := hcov.2 v v1 v2
  obtain ⟨z, hz, rfl⟩ := List.mem_map.1 hy
  unfold sibs at hz
  rw [List.mem_filter, Bool.and_eq_true, decide_eq_true_eq, decide_eq_true_eq] at hz
  exact ⟨z, hz.1, hz.2.1, hz.2.2, y1, y2⟩
theorem Rgt.series {d : Dc} (h : Rgt d) {m : Nt} (hm : m ∈ d.notes) (hk : (tirAt d m.tier).kind = 3) {j : Nat} (hj : j < (sibs d.notes m.tier m.par).length) : ∃ c ∈ d.notes, c.tier = m.tier ∧ c.par = m.par ∧ c.rank = j := by
  obtain ⟨t, htl, et⟩ := h.tt hm
  rw [et] at hk hj ⊢
  have hbad := (ter_iff.1 (h.ter t htl)).2 m (inT_iff.2 ⟨hm, et⟩)
  rw [hk] at hbad
  have hr : rankP (sibs d.notes t m.par) = true := by simpa [badR] using hbad
  have := rankP_true.1 hr j hj
  rw [List.any_eq_true] at this
  obtain ⟨z, hz, hz2⟩ := this
  unfold sibs at hz
  rw [List.mem_filter, Bool.and_eq_true, decide_eq_true_eq, decide_eq_true_eq] at hz
  exact ⟨z, hz.1, hz.2.1, hz.2.2, by simpa using hz2⟩
theorem sub_up {d : Dc} {n m p : Nt} (hm : m ∈ d.notes) (hp : p ∈ d.notes) (e : p.id = m.par) (hS : m.id ∉ subIds d n.id) : p.id ∉ subIds d n.id := by
  intro hpS
  apply hS
  rw [sub_mem] at hpS ⊢
  exact ⟨.kid m hm (by rw [← e]; exact hpS.1), m, hm, rfl⟩
theorem dsc_inv {d : Dc} {id x : Int} (h : Dsc d id x) : x = id ∨ ∃ k ∈ d.notes, k.id = x ∧ Dsc d id k.par := by
  cases h with
  | self => exact .inl rfl
  | kid k hk hp => exact .inr ⟨k, hk, rfl, hp⟩
theorem sub_only {d : Dc} (h : Rgt d) {n m c : Nt} (hn : n ∈ d.notes) (hm : m ∈ d.notes) (hS : m.id ∉ subIds d n.id) (hc : c ∈ d.notes) (hp : c.par = m.par) (hne : c ≠ n) : c.id ∉ subIds d n.id := by
  intro hcS
  apply hS
  rcases dsc_inv (sub_mem.1 hcS).1 with e | ⟨k, hk, hki, hkp⟩
  · exact absurd (ids_uniq h hc hn e) hne
  · have := ids_uniq h hk hc hki
    subst this
    rw [sub_mem]
    exact ⟨.kid m hm (by rw [← hp]; exact hkp), m, hm, rfl⟩
theorem sibs_left (d : Dc) (S : List Int) {F : Nt → Nt} (hk : ∀ m, (F m).id = m.id ∧ (F m).tier = m.tier ∧ (F m).par = m.par ∧ (F m).text = m.text) (t p : Int) :
    (sibs (leftD d S F).notes t p).length = ((sibs d.notes t p).filter fun m => !decide (m.id ∈ S)).length := by
  have e1 : sibs (leftD d S F).notes t p = woN S (sibs (d.notes.map F) t p) := by
    unfold leftD woN sibs
    simp only [List.filter_filter]
    exact List.filter_congr fun y _ => by rw [Bool.and_comm]
  have e2 : sibs (d.notes.map F) t p = (sibs d.notes t p).map F := by
    unfold sibs
    rw [List.filter_map]
    congr 1
    exact List.filter_congr fun y _ => by simp only [Function.comp, (hk y).2.1, (hk y).2.2.1]
  rw [e1, e2]
  unfold woN
  rw [List.filter_map, List.length_map]
  congr 1
  exact List.filter_congr fun y _ => by simp only [Function.comp, (hk y).1]
theorem left_same {d : Dc} (h : Rgt d) {n : Nt} (hn : n ∈ d.notes) {F : Nt → Nt} (hk : ∀ m, (F m).id = m.id ∧ (F m).tier = m.tier ∧ (F m).par = m.par ∧ (F m).text = m.text)
    (hf : ∀ m, (F m).fr = m.fr ∧ (F m).tO = m.tO) (hr : ∀ m, Kp d (subIds d n.id) m → 0 ≤ (F m).rank ∧ ((F m).rank = 0 ∨ (tirAt d m.tier).kind = 3))
    (hg : ∀ m, Kp d (subIds d n.id) m → (tirAt d m.tier).kind = 1 → ¬ (m.tier = n.tier ∧ m.par = n.par))
    (hs : ∀ m, Kp d (subIds d n.id) m → (tirAt d m.tier).kind = 3 → ∀ j : Nat, j < ((sibs d.notes m.tier m.par).filter fun m => !decide (m.id ∈ subIds d n.id)).length → ∃ c, Kp d (subIds d n.id) c ∧ c.tier = m.tier ∧ c.par = m.par ∧ (F c).rank = j) :
    Left d (subIds d n.id) F where
  keep := hk
  up := fun m hm p hp e => sub_up hm.1 hp e hm.2
  al := fun m hm hal => by
    obtain ⟨a1, a2, a3⟩ := h.span hm.1 hal
    rw [(hf m).1, (hf m).2]
    exact ⟨a1, a2, fun hk p hp e => by rw [(hf p).1, (hf p).2]; exact a3 hk p hp.1 e⟩
  flat := fun m hm hal => by rw [(hf m).1, (hf m).2]; exact flat_of (note_of h.good hm.1) hal
  rank := hr
  ov := fun a b ha hb hne ht hp hal => by
    have := h.nm ha.1 hb.1 hne ht hp hal
    unfold NM
    rw [(hf a).1, (hf a).2, (hf b).1, (hf b).2]
    omega
  gap := fun m p hm hp e k1 v v1 v2 => by
    rw [(hf p).1] at v1
    rw [(hf p).2] at v2
    obtain ⟨c, hc, c1, c2, c3, c4⟩ := h.cover hm.1 hp.1 e k1 v1 v2
    have hne : c ≠ n := fun e2 => hg m hm k1 (by rw [← e2]; exact ⟨c1.symm, c2.symm⟩)
    exact ⟨c, ⟨hc, sub_only h hn hm.1 hm.2 hc c2 hne⟩, c1, c2, by rw [(hf c).1]; exact c3, by rw [(hf c).2]; exact c4⟩
  ser := fun m hm k3 j hj => by
    rw [sibs_left d _ hk] at hj
    exact hs m hm k3 j hj
theorem ser_other {d : Dc} (h : Rgt d) {n : Nt} (hn : n ∈ d.notes) {m : Nt} (hm : Kp d (subIds d n.id) m) (k3 : (tirAt d m.tier).kind = 3) (hne : ¬ (m.tier = n.tier ∧ m.par = n.par)) {j : Nat}
    (hj : j < ((sibs d.notes m.tier m.par).filter fun m => !decide (m.id ∈ subIds d n.id)).length) : ∃ c, Kp d (subIds d n.id) c ∧ c.tier = m.tier ∧ c.par = m.par ∧ c.rank = j := by
  obtain ⟨c, hc, c1, c2, c3⟩ := h.series hm.1 k3 (Nat.lt_of_lt_of_le hj (List.length_filter_le _ _))
  exact ⟨c, ⟨hc, sub_only h hn hm.1 hm.2 hc c2 fun e => hne (by rw [← e]; exact ⟨c1.symm, c2.symm⟩)⟩, c1, c2, c3⟩
theorem left_id {d : Dc} (h : Rgt d) {n : Nt} (hn : n ∈ d.notes) (hk3 : (tirAt d n.tier).kind ≠ 3)
    (hg : ∀ m, Kp d (subIds d n.id) m → (tirAt d m.tier).kind = 1 → ¬ (m.tier = n.tier ∧ m.par = n.par)) : Left d (subIds d n.id) id :=
  left_same h hn (fun _ => ⟨rfl, rfl, rfl, rfl⟩) (fun _ => ⟨rfl, rfl⟩) (fun m hm => place_rank (note_of h.good hm.1).place) hg
    fun m hm k3 j hj => ser_other h hn hm k3 (fun e => hk3 (by rw [← e.1]; exact k3)) hj
theorem sh_keep (t p r b : Int) (m : Nt) : (sh1 t p r b m).id = m.id ∧ (sh1 t p r b m).tier = m.tier ∧ (sh1 t p r b m).par = m.par ∧ (sh1 t p r b m).text = m.text := by unfold sh1; split <;> exact ⟨rfl, rfl, rfl, rfl⟩
theorem left_sh {d : Dc} (h : Rgt d) {n : Nt} (hn : n ∈ d.notes) (hk3 : (tirAt d n.tier).kind = 3) : Left d (subIds d n.id) (sh1 n.tier n.par n.rank (-1)) := by
  have hnS : n.id ∈ subIds d n.id := sub_mem.2 ⟨.self, n, hn, rfl⟩
  have hnr := (place_rank (note_of h.good hn).place).1
  have hrk : ∀ m, Kp d (subIds d n.id) m → m.tier = n.tier → m.par = n.par → m.rank ≠ n.rank := by
    intro m hm e1 e2 er
    obtain ⟨t, htl, et⟩ := h.tt hn
    rw [et] at hk3
    have hne : m = n := h.keys htl (a := m) (b := n) ⟨hm.1, by rw [e1]; exact et⟩ ⟨hn, et⟩ e2 (by unfold keyT; rw [hk3]; simpa [alK] using er)
    rw [hne] at hm
    exact hm.2 hnS
  have hsh : ∀ m, m.tier = n.tier → m.par = n.par → n.rank ≤ m.rank → sh1 n.tier n.par n.rank (-1) m = { m with rank := m.rank + -1 } := fun m e1 e2 e3 => by
    unfold sh1; rw [if_pos (by simp [shB, e1, e2, e3])]
  have hno : ∀ m, ¬ (m.tier = n.tier ∧ m.par = n.par ∧ n.rank ≤ m.rank) → sh1 n.tier n.par n.rank (-1) m = m := fun m e => by
    unfold sh1
    rw [if_neg]
    simp only [shB, Bool.and_eq_true, decide_eq_true_eq]
    exact fun e2 => e ⟨e2.1.1, e2.1.2, e2.2⟩
  refine left_same h hn (sh_keep _ _ _ _) (fun m => by unfold sh1; split <;> exact ⟨rfl, rfl⟩) (fun m hm => ?_) (fun m hm k1 e => ?_) (fun m hm k3 j hj => ?_)
  · have := place_rank (note_of h.good hm.1).place
    by_cases e : m.tier = n.tier ∧ m.par = n.par ∧ n.rank ≤ m.rank
    · rw [hsh m e.1 e.2.1 e.2.2]
      have := hrk m hm e.1 e.2.1
      exact ⟨by simp only; omega, .inr (by rw [e.1]; exact hk3)⟩
    · rw [hno m e]; exact this
  · rw [e.1, hk3] at k1; cases k1
  · by_cases e : m.tier = n.tier ∧ m.par = n.par
    · rw [e.1, e.2] at hj ⊢
      have hlt : ((sibs d.notes n.tier n.par).filter fun m => !decide (m.id ∈ subIds d n.id)).length < (sibs d.notes n.tier n.par).length := by
        rw [List.length_filter_lt_length_iff_exists]
        exact ⟨n, by unfold sibs; rw [List.mem_filter]; exact ⟨hn, by simp⟩, by simp [hnS]⟩
      have hmp : ∀ c ∈ d.notes, c.par = n.par → c ≠ n → c.id ∉ subIds d n.id := fun c hc hp hne => sub_only h hn hm.1 hm.2 hc (by rw [hp, e.2]) hne
      by_cases hjr : (j : Int) < n.rank
      · obtain ⟨c, hc, c1, c2, c3⟩ := h.series hn hk3 (j := j) (by omega)
        refine ⟨c, ⟨hc, hmp c hc c2 fun e2 => by rw [e2] at c3; omega⟩, c1, c2, ?_⟩
        rw [hno c (by omega)]; exact c3
      · obtain ⟨c, hc, c1, c2, c3⟩ := h.series hn hk3 (j := j + 1) (by omega)
        refine ⟨c, ⟨hc, hmp c hc c2 fun e2 => by rw [e2] at c3; omega⟩, c1, c2, ?_⟩
        rw [hsh c c1 c2 (by omega)]
        simp only
        omega
    · obtain ⟨c, hc, c1, c2, c3⟩ := ser_other h hn hm k3 e hj
      refine ⟨c, hc, c1, c2, ?_⟩
      rw [hno c (fun e2 => e ⟨by rw [← c1]; exact e2.1, by rw [← c2]; exact e2.2.1⟩)]; exact c3
end Go.V
namespace Go.V
open Go Go.Proofs
inductive Chn (d : Dc) (en : Bool) (y : Nt) : Nt → Prop
  | top : Chn d en y y
  | kid (p : Nt) (t : Int) : Chn d en y p → t ∈ kidsT d.tiers p.tier → kindI d t = 1 → kidsN d p.id t ≠ [] → Chn d en y (extPick en (kidsN d p.id t))
open Classical in
noncomputable def mrk (en : Bool) (time : Int) (P : Nt → Prop) (m : Nt) : Nt := if P m then setTm en time m else m
theorem mrk_yes {en : Bool} {time : Int} {P : Nt → Prop} {m : Nt} (h : P m) : mrk en time P m = setTm en time m := by unfold mrk; rw [if_pos h]
theorem mrk_no {en : Bool} {time : Int} {P : Nt → Prop} {m : Nt} (h : ¬ P m) : mrk en time P m = m := by unfold mrk; rw [if_neg h]
theorem mrk_skel (en : Bool) (time : Int) (P : Nt → Prop) (m : Nt) : skel (mrk en time P m) = skel m := by
  by_cases h : P m
  · rw [mrk_yes h, setTm_skel]
  · rw [mrk_no h]
theorem mrk_id (en : Bool) (time : Int) (P : Nt → Prop) (m : Nt) : (mrk en time P m).id = m.id := congrArg (fun x => x.1) (mrk_skel en time P m)
theorem mrk_congr {en : Bool} {time : Int} {P Q : Nt → Prop} {l : List Nt} (h : ∀ m ∈ l, P m ↔ Q m) : l.map (mrk en time P) = l.map (mrk en time Q) := by
  refine List.map_congr_left fun m hm => ?_
  by_cases e : P m
  · rw [mrk_yes e, mrk_yes ((h m hm).1 e)]
  · rw [mrk_no e, mrk_no fun e2 => e ((h m hm).2 e2)]
theorem kids_in {d : Dc} {id t : Int} (h0 : 0 ≤ t) (h1 : t < d.tiers.length) {x : Nt} (hx : x ∈ kidsN d id t) : x ∈ d.notes ∧ x.tier = t ∧ x.par = id := by
  obtain ⟨v, rfl⟩ : ∃ v : Nat, t = v := ⟨t.toNat, by omega⟩
  have := (kid_mem (d := d) (t := v) (by omega)).1 hx
  exact ⟨this.1.1, this.1.2, this.2⟩
theorem dsc_trans {d : Dc} {a b c : Int} (h1 : Dsc d a b) (h2 : Dsc d b c) : Dsc d a c := by
  induction h2 with
  | self => exact h1
  | kid n hn _ ih => exact .kid n hn ih
theorem dsc_fork {d : Dc} (h : Rgt d) {x x' : Nt} (hx : x ∈ d.notes) (hx' : x' ∈ d.notes) (hp : x.par = x'.par) (hne : x ≠ x') {z : Int} (h1 : Dsc d x.id z) : ¬ Dsc d x'.id z := by
  induction h1 with
  | self =>
    intro h2
    rcases dsc_inv h2 with e | ⟨k, hk, hki, hkp⟩
    · exact hne (ids_uniq h hx hx' e)
    · have := ids_uniq h hk hx hki
      subst this
      rw [hp] at hkp
      exact desc_top h hx' rfl hkp
  | kid m hm hd ih =>
    intro h2
    rcases dsc_inv h2 with e | ⟨k, hk, hki, hkp⟩
    · have := ids_uniq h hm hx' e
      subst this
      rw [← hp] at hd
      exact desc_top h hx rfl hd
    · have := ids_uniq h hk hm hki
      subst this
      exact ih hkp
theorem chn_pick {d : Dc} {en : Bool} {p : Nt} {t : Int} (ht : t ∈ kidsT d.tiers p.tier) (hne : kidsN d p.id t ≠ []) : extPick en (kidsN d p.id t) ∈ d.notes ∧ (extPick en (kidsN d p.id t)).tier = t ∧ (extPick en (kidsN d p.id t)).par = p.id := by
  have hm := kidsT_mem ht
  exact kids_in hm.1 hm.2.1 (pick_mem hne)
theorem chn_mem {d : Dc} {en : Bool} {y m : Nt} (hy : y ∈ d.notes) (h : Chn d en y m) : m ∈ d.notes := by
  cases h with
  | top => exact hy
  | kid p t _ ht _ hne => exact (chn_pick ht hne).1
theorem chn_dsc {d : Dc} {en : Bool} {y m : Nt} (h : Chn d en y m) : Dsc d y.id m.id := by
  induction h with
  | top => exact .self
  | kid p t _ ht _ hne ih =>
    obtain ⟨h1, _, h3⟩ := chn_pick (en := en) ht hne
    exact .kid _ h1 (by rw [h3]; exact ih)
theorem chn_inv {d : Dc} {en : Bool} {y m : Nt} (h : Chn d en y m) : m = y ∨ ∃ p t, Chn d en y p ∧ t ∈ kidsT d.tiers p.tier ∧ kindI d t = 1 ∧ kidsN d p.id t ≠ [] ∧ m = extPick en (kidsN d p.id t) := by
  cases h with
  | top => exact .inl rfl
  | kid p t hp ht hk hne => exact .inr ⟨p, t, hp, ht, hk, hne, rfl⟩
theorem chn_head {d : Dc} {en : Bool} {y m : Nt} : Chn d en y m ↔ m = y ∨ ∃ t ∈ kidsT d.tiers y.tier, kindI d t = 1 ∧ kidsN d y.id t ≠ [] ∧ Chn d en (extPick en (kidsN d y.id t)) m := by
  constructor
  · intro h
    induction h with
    | top => exact .inl rfl
    | kid p t hp ht hk hne ih =>
      right
      rcases ih with e | ⟨u, hu, hku, hnu, hc⟩
      · subst e; exact ⟨t, ht, hk, hne, .top⟩
      · exact ⟨u, hu, hku, hnu, .kid p t hc ht hk hne⟩
  · rintro (rfl | ⟨t, ht, hk, hne, hc⟩)
    · exact .top
    · induction hc with
      | top => exact .kid _ t .top ht hk hne
      | kid p u _ hu hku hnu ih => exact .kid p u ih hu hku hnu
theorem kids_marked {d : Dc} {en : Bool} {time : Int} {Q : Nt → Prop} {id t : Int} (h : ∀ m ∈ d.notes, m.tier = t → m.par = id → ¬ Q m) : kidsN { d with notes := d.notes.map (mrk en time Q) } id t = kidsN d id t := by
  unfold kidsN
  congr 1
  have hk : ∀ m : Nt, kidB { d with notes := d.notes.map (mrk en time Q) } id t m = kidB d id t m := fun _ => rfl
  rw [List.filter_map]
  have : d.notes.filter (kidB { d with notes := d.notes.map (mrk en time Q) } id t ∘ mrk en time Q) = d.notes.filter (kidB d id t) := by
    refine List.filter_congr fun m _ => ?_
    have hs := mrk_skel en time Q m
    simp only [skel, Prod.mk.injEq] at hs
    simp only [Function.comp, kidB, hs.2.1, hs.2.2.1]
  rw [this]
  conv => rhs; rw [← List.map_id (d.notes.filter (kidB d id t))]
  refine List.map_congr_left fun m hm => ?_
  rw [List.mem_filter] at hm
  have hb := hm.2
  simp only [kidB, Bool.and_eq_true, decide_eq_true_eq] at hb
  rw [mrk_no (h m hm.1 hb.1.1.1 hb.1.1.2)]; rfl
def Pre (d : Dc) (en : Bool) (y : Nt) (M : Nt → Prop) (us : List Int) (m : Nt) : Prop := M m ∨ m = y ∨ ∃ t ∈ us, kindI d t = 1 ∧ kidsN d y.id t ≠ [] ∧ Chn d en (extPick en (kidsN d y.id t)) m
theorem extP_map {d : Dc} (h : Rgt d) (time : Int) (en : Bool) : ∀ (f : Nat) (y : Nt), y ∈ d.notes → d.tiers.length ≤ y.tier.toNat + f → ∀ M : Nt → Prop, (∀ m ∈ d.notes, Dsc d y.id m.id → ¬ M m) →
    extP d time en f (d.notes.map (mrk en time M)) y.id = d.notes.map (mrk en time fun m => M m ∨ Chn d en y m)
  | 0, y, hy, hf, M, hM => by
    have := (note_of h.good hy).t1
    have := (note_of h.good hy).t0
    omega
  | f + 1, y, hy, hf, M, hM => by
    have hok := note_of h.good hy
    have hMy : ¬ M y := hM y hy .self
    obtain ⟨k, hk, hat, hky⟩ := inc_at h.inc hy
    have hat2 : atI (d.notes.map (mrk en time M)) y.id = k := by rw [atI_map (mrk_id en time M), hat]
    have hkl : k < (d.notes.map (mrk en time M)).length := by rw [List.length_map]; exact hk
    have hget : (d.notes.map (mrk en time M))[k]'hkl = y := by rw [List.getElem_map, hky, mrk_no hMy]
    have hl1 : (d.notes.map (mrk en time M)).set k (setTm en time y) = d.notes.map (mrk en time (Pre d en y M [])) := by
      have := set_ids (IncL.map h.inc (mrk_id en time M)) hkl (a := y.id) (by rw [hget]) (setTm en time)
      rw [hget] at this
      rw [this, List.map_map]
      refine List.map_congr_left fun m hm => ?_
      simp only [Function.comp, mrk_id]
      by_cases e : m.id = y.id
      · have : m = y := ids_uniq h hm hy e
        subst this
        rw [if_pos rfl, mrk_no hMy, mrk_yes (.inr (.inl rfl))]
      · rw [if_neg e]
        have hne : m ≠ y := fun e2 => e (by rw [e2])
        by_cases hm2 : M m
        · rw [mrk_yes hm2, mrk_yes (.inl hm2)]
        · rw [mrk_no hm2, mrk_no]
          rintro (e2 | e2 | ⟨_, e3, _⟩)
          · exact hm2 e2
          · exact hne e2
          · cases e3
    rw [extP, hat2, Int.toNat_natCast, List.getElem?_eq_getElem hkl, Option.getD_some, hget, hl1]
    have hnd := kidsT_nodup d.tiers y.tier
    have hTm : ∀ t ∈ kidsT d.tiers y.tier, t ∈ kidsT d.tiers y.tier := fun _ h => h
    have key : ∀ (ts us : List Int), us ++ ts = kidsT d.tiers y.tier → ts.foldl (extStep d en (extP d time en f) y.id) (d.notes.map (mrk en time (Pre d en y M us))) = d.notes.map (mrk en time (Pre d en y M (kidsT d.tiers y.tier))) := by
      intro ts
      induction ts with
      | nil => intro us e; rw [List.append_nil] at e; rw [e]; rfl
      | cons t r ih =>
        intro us e
        rw [List.foldl_cons]
        have htm : t ∈ kidsT d.tiers y.tier := by rw [← e]; simp
        have htT := kidsT_mem htm
        have hus : ∀ u ∈ us, u ∈ kidsT d.tiers y.tier ∧ u ≠ t := by
          intro u hu
          refine ⟨by rw [← e]; simp [hu], fun e2 => ?_⟩
          rw [← e, List.nodup_append] at hnd
          exact hnd.2.2 u hu t (by simp) e2
        have hunm : ∀ m ∈ d.notes, m.tier = t → m.par = y.id → ¬ Pre d en y M us m := by
          rintro m hm hmt hmp (e2 | e2 | ⟨u, hu, hku, hnu, hc⟩)
          · exact hM m hm (.kid m hm (by rw [hmp]; exact .self)) e2
          · rw [e2] at hmp; exact h.selfpar hy hmp
          · obtain ⟨huT, hut⟩ := hus u hu
            obtain ⟨x1, x2, x3⟩ := chn_pick (en := en) huT hnu
            rcases dsc_inv (chn_dsc hc) with e3 | ⟨k', hk', hki, hkp⟩
            · have := ids_uniq h hm x1 e3
              rw [this, x2] at hmt
              exact hut hmt
            · have := ids_uniq h hk' hm hki
              subst this
              rw [hmp] at hkp
              exact desc_top h x1 rfl (by rw [x3]; exact hkp)
        have hst : extStep d en (extP d time en f) y.id (d.notes.map (mrk en time (Pre d en y M us))) t = d.notes.map (mrk en time (Pre d en y M (us ++ [t]))) := by
          unfold extStep
          rw [kids_marked hunm]
          by_cases hc : kindI d t = 1 ∧ kidsN d y.id t ≠ []
          · rw [if_pos hc]
            obtain ⟨x1, x2, x3⟩ := chn_pick (en := en) htm hc.2
            have hxt := note_of h.good x1
            have hup := kind_up h t.toNat (by omega) (by rw [show ((t.toNat : Nat) : Int) = t by omega]; exact hc.1) y.tier htT.2.2.1
            have hrec := extP_map h time en f _ x1 (by have := hok.t0; rw [x2]; omega) (Pre d en y M us) (by
              rintro m hm hd (e2 | e2 | ⟨u, hu, hku, hnu, hcu⟩)
              · exact hM m hm (dsc_trans (.kid _ x1 (by rw [x3]; exact .self)) hd) e2
              · rw [e2] at hd; exact desc_top h x1 rfl (by rw [x3]; exact hd)
              · obtain ⟨huT, hut⟩ := hus u hu
                obtain ⟨z1, z2, z3⟩ := chn_pick (en := en) huT hnu
                refine dsc_fork h x1 z1 (by rw [x3, z3]) (fun e3 => hut ?_) hd (chn_dsc hcu)
                rw [← z2, ← e3, x2])
            rw [hrec]
            refine mrk_congr fun m _ => ?_
            unfold Pre
            constructor
            · rintro ((e2 | e2 | ⟨u, hu, hh⟩) | e2)
              · exact .inl e2
              · exact .inr (.inl e2)
              · exact .inr (.inr ⟨u, by simp [hu], hh⟩)
              · exact .inr (.inr ⟨t, by simp, hc.1, hc.2, e2⟩)
            · rintro (e2 | e2 | ⟨u, hu, hh⟩)
              · exact .inl (.inl e2)
              · exact .inl (.inr (.inl e2))
              · rcases List.mem_append.1 hu with hu | hu
                · exact .inl (.inr (.inr ⟨u, hu, hh⟩))
                · rw [List.mem_singleton] at hu; subst hu; exact .inr hh.2.2
          · rw [if_neg hc]
            refine mrk_congr fun m _ => ?_
            unfold Pre
            constructor
            · rintro (e2 | e2 | ⟨u, hu, hh⟩)
              · exact .inl e2
              · exact .inr (.inl e2)
              · exact .inr (.inr ⟨u, by simp [hu], hh⟩)
            · rintro (e2 | e2 | ⟨u, hu, hh⟩)
              · exact .inl e2
              · exact .inr (.inl e2)
              · rcases List.mem_append.1 hu with hu | hu
                · exact .inr (.inr ⟨u, hu, hh⟩)
                · rw [List.mem_singleton] at hu; subst hu; exact absurd ⟨hh.1, hh.2.1⟩ hc
        rw [hst]
        exact ih (us ++ [t]) (by rw [← e]; simp)
    rw [key (kidsT d.tiers y.tier) [] rfl]
    refine mrk_congr fun m _ => ?_
    unfold Pre
    rw [chn_head]
theorem extP_all {d : Dc} (h : Rgt d) (time : Int) (en : Bool) {y : Nt} (hy : y ∈ d.notes) : extP d time en d.tiers.length d.notes y.id = d.notes.map (mrk en time (Chn d en y)) := by
  have := extP_map h time en d.tiers.length y hy (by omega) (fun _ => False) (fun _ _ _ e => e)
  have e1 : d.notes.map (mrk en time fun _ => False) = d.notes := by
    conv => rhs; rw [← List.map_id d.notes]
    exact List.map_congr_left fun m _ => mrk_no (fun e => e)
  rw [e1] at this
  rw [this]
  exact mrk_congr fun m _ => ⟨fun e => e.elim False.elim (fun e => e), .inr⟩
end Go.V
namespace Go.V
open Go Go.Proofs
theorem parts_of {d : Dc} (h : Rgt d) {n : Nt} (hn : n ∈ d.notes) {t : Nat} (ht : t < d.tiers.length) (hkd : (tirAt d t).kind = 1) (hl : kidsN d n.id t ≠ []) :
    (∀ (k : Nat) (hk : k < (kidsN d n.id t).length), (kidsN d n.id t)[k].fr = if k = 0 then n.fr else (gN (kidsN d n.id t) (k - 1)).tO) ∧ (gN (kidsN d n.id t) ((kidsN d n.id t).length - 1)).tO = n.tO := by
  have hal : alK (tirAt d t).kind = true := by rw [hkd]; rfl
  have hm : ∀ m ∈ kidsN d n.id t, inT d t m ∧ m.par = n.id := fun m hm => (kid_mem ht).1 hm
  have hup : ∀ m ∈ kidsN d n.id t, upN d m = n := fun m hx => by unfold upN; rw [(hm m hx).2, getN_of h hn]
  refine parts_first (fun m hx => ?_) ?_ ?_ hl
  · have := h.inside (hm m hx).1 hal
    have h2 := this.2.2.2 (by rw [hkd]; decide)
    rw [hup m hx] at h2
    exact ⟨h2.1, this.2.1, h2.2⟩
  · exact (kid_sorted h.w ht).imp_of_mem fun {a b} ha hb hab => bef_apart h t ht hal a b (hm a ha).1 (hm b hb).1 hab
  · intro v h1 h2
    obtain ⟨m, r, er⟩ : ∃ m r, kidsN d n.id t = m :: r := List.exists_cons_of_ne_nil hl
    have hx : m ∈ kidsN d n.id t := by rw [er]; simp
    obtain ⟨c, hc, c1, c2, c3, c4⟩ := h.cover (hm m hx).1.1 hn (hm m hx).2.symm (by rw [(hm m hx).1.2]; exact hkd) h1 h2
    exact ⟨c, (kid_mem ht).2 ⟨⟨hc, by rw [c1]; exact (hm m hx).1.2⟩, by rw [c2, (hm m hx).2]⟩, c3, c4⟩
theorem kid_kidsT {d : Dc} (h : Rgt d) {m p : Nt} (hm : m ∈ d.notes) (hp : p ∈ d.notes) (e : p.id = m.par) (hk : (tirAt d m.tier).kind ≠ 0) : m.tier ∈ kidsT d.tiers p.tier := by
  obtain ⟨t, htl, et⟩ := h.tt hm
  rw [et] at hk ⊢
  obtain ⟨h1, h2⟩ := h.parent ⟨hm, et⟩ htl hk
  have h3 := ids_uniq h h1.1 hp (by rw [h2, e])
  have h4 := h1.2
  rw [h3] at h4
  have h5 := h.up htl hk
  have h6 : (tirAt d (t : Int)).par = (d.tiers[t]?.getD default).par := by unfold tirAt; rw [Int.toNat_natCast]
  exact kidsT_of ⟨by omega, by omega⟩ ⟨by omega, by omega⟩ (by rw [Int.toNat_natCast, ← h6]; omega)
theorem kind_at {d : Dc} {t : Int} (h0 : 0 ≤ t) (h1 : t < d.tiers.length) : kindI d t = (tirAt d t).kind := by
  obtain ⟨v, rfl⟩ : ∃ v : Nat, t = v := ⟨t.toNat, by omega⟩
  exact kindI_at (by omega)
theorem chn_kind {d : Dc} {en : Bool} {y m : Nt} (hy : (tirAt d y.tier).kind = 1) (h : Chn d en y m) : (tirAt d m.tier).kind = 1 := by
  rcases chn_inv h with rfl | ⟨p, t, hp, ht, hk, hne, rfl⟩
  · exact hy
  · have hm := kidsT_mem ht
    rw [(chn_pick ht hne).2.1, ← kind_at hm.1 hm.2.1]
    exact hk
theorem chn_adj {d : Dc} (h : Rgt d) {en : Bool} {y m : Nt} (hy : y ∈ d.notes) (hc : Chn d en y m) : if en = true then m.tO = y.tO else m.fr = y.fr := by
  induction hc with
  | top => split <;> rfl
  | kid p t hp ht hk hne ih =>
    have hm := kidsT_mem ht
    obtain ⟨v, rfl⟩ : ∃ v : Nat, t = v := ⟨t.toNat, by omega⟩
    have hpm := chn_mem hy hp
    have hkp := parts_of h hpm (t := v) (by omega) (by rw [← kind_at hm.1 hm.2.1]; exact hk) hne
    have hl := List.length_pos_iff.2 hne
    unfold extPick
    by_cases e : en = true
    · rw [if_pos e] at ih ⊢
      rw [if_pos e, ← ih]
      exact hkp.2
    · rw [if_neg e] at ih ⊢
      rw [if_neg e, ← ih, List.getElem?_eq_getElem hl, Option.getD_some, hkp.1 0 hl, if_pos rfl]
theorem chn_sibs {d : Dc} (h : Rgt d) {en : Bool} {y a b : Nt} (hy : y ∈ d.notes) (ha : Chn d en y a) (hb : Chn d en y b) (ht : a.tier = b.tier) (hp : a.par = b.par) : a = b := by
  rcases chn_inv ha with rfl | ⟨p, t, hpc, htm, hk, hne, rfl⟩
  · rcases chn_inv hb with rfl | ⟨p, t, hpc, htm, hk, hne, rfl⟩
    · rfl
    · rw [(chn_pick htm hne).2.2] at hp
      exact absurd (by rw [hp]; exact chn_dsc hpc) (desc_top h hy rfl)
  · obtain ⟨x1, x2, x3⟩ := chn_pick (en := en) htm hne
    rcases chn_inv hb with rfl | ⟨q, u, hqc, hum, hku, hnu, rfl⟩
    · rw [x3] at hp
      exact absurd (by rw [← hp]; exact chn_dsc hpc) (desc_top h hy rfl)
    · obtain ⟨z1, z2, z3⟩ := chn_pick (en := en) hum hnu
      rw [x2, z2] at ht
      rw [x3, z3] at hp
      have := ids_uniq h (chn_mem hy hpc) (chn_mem hy hqc) hp
      rw [this, ht]
theorem mrk_fr {en : Bool} {T : Int} {P : Nt → Prop} {m : Nt} (h : P m) : (mrk en T P m).fr = (if en = true then m.fr else T) ∧ (mrk en T P m).tO = (if en = true then T else m.tO) := by
  rw [mrk_yes h]; unfold setTm; split <;> exact ⟨rfl, rfl⟩
theorem left_ext {d : Dc} (h : Rgt d) {n y : Nt} (hn : n ∈ d.notes) (hy : y ∈ d.notes) (hyn : y ≠ n) (hyt : y.tier = n.tier) (hyp : y.par = n.par) (hk1 : (tirAt d n.tier).kind = 1) (en : Bool)
    (hadj : if en = true then y.tO = n.fr else y.fr = n.tO) : Left d (subIds d n.id) (mrk en (if en = true then n.tO else n.fr) (Chn d en y)) := by
  have hyk : (tirAt d y.tier).kind = 1 := by rw [hyt]; exact hk1
  have hal1 : ∀ m : Nt, (tirAt d m.tier).kind = 1 → alK (tirAt d m.tier).kind = true := fun m e => by rw [e]; rfl
  have hns := (h.span hn (hal1 n hk1))
  have hnr : 0 ≤ n.fr ∧ n.fr < n.tO ∧ n.tO ≤ 86400000 := by
    have := hns.1
    simp only [rightS, Bool.and_eq_true, decide_eq_true_eq] at this
    exact ⟨this.1.1, this.1.2, this.2⟩
  have hrs : ∀ m ∈ d.notes, alK (tirAt d m.tier).kind = true → 0 ≤ m.fr ∧ m.fr < m.tO ∧ m.tO ≤ 86400000 := fun m hm hal => by
    have := (h.span hm hal).1
    simp only [rightS, Bool.and_eq_true, decide_eq_true_eq] at this
    exact ⟨this.1.1, this.1.2, this.2⟩
  generalize hF : mrk en (if en = true then n.tO else n.fr) (Chn d en y) = F
  have hFs : ∀ m, skel (F m) = skel m := fun m => by rw [← hF]; exact mrk_skel _ _ _ _
  have hkeep : ∀ m, (F m).id = m.id ∧ (F m).tier = m.tier ∧ (F m).par = m.par ∧ (F m).text = m.text := fun m => by
    have := hFs m
    simp only [skel, Prod.mk.injEq] at this
    exact ⟨this.1, this.2.1, this.2.2.1, this.2.2.2.2⟩
  have hrank : ∀ m, (F m).rank = m.rank := fun m => by
    have := hFs m
    simp only [skel, Prod.mk.injEq] at this
    exact this.2.2.2.1
  have hno : ∀ m, ¬ Chn d en y m → F m = m := fun m e => by rw [← hF]; exact mrk_no e
  have hyes : ∀ m, Chn d en y m → (m.tO = n.fr ∧ (F m).fr = m.fr ∧ (F m).tO = n.tO) ∨ (m.fr = n.tO ∧ (F m).fr = n.fr ∧ (F m).tO = m.tO) := fun m e => by
    have h1 := chn_adj h hy e
    have h2 := mrk_fr (en := en) (T := if en = true then n.tO else n.fr) e
    rw [hF] at h2
    by_cases e2 : en = true
    · simp only [e2, if_true] at h1 h2 hadj
      exact .inl ⟨by rw [h1, hadj], h2.1, h2.2⟩
    · simp only [e2, if_false] at h1 h2 hadj
      exact .inr ⟨by rw [h1, hadj], h2.1, h2.2⟩
  have hin : ∀ m, alK (tirAt d m.tier).kind = true → m ∈ d.notes → (F m).fr ≤ m.fr ∧ m.tO ≤ (F m).tO := fun m hal hm => by
    by_cases e : Chn d en y m
    · have := hyes m e
      have := hrs m hm hal
      omega
    · rw [hno m e]; omega
  have hck : ∀ {m}, Chn d en y m → (tirAt d m.tier).kind = 1 := fun e => chn_kind hyk e
  have hcn : ∀ {m}, Chn d en y m → m ≠ n := fun {m} e e2 => by
    have := chn_dsc e
    rw [e2] at this
    rcases dsc_inv this with e3 | ⟨k, hk, hki, hkp⟩
    · exact hyn (ids_uniq h hy hn e3.symm)
    · have := ids_uniq h hk hn hki
      rw [this, ← hyp] at hkp
      exact desc_top h hy rfl hkp
  -- the parent of an extended note holds the note's span when it is extended
  have hpar : ∀ m p, Chn d en y m → p ∈ d.notes → p.id = m.par → (p.fr ≤ n.fr ∧ n.tO ≤ p.tO) ∨ Chn d en y p := fun m p hc hp e => by
    rcases chn_inv hc with rfl | ⟨q, t, hqc, htm, hk, hne, rfl⟩
    · exact .inl (hns.2.2 (by rw [hk1]; decide) p hp (by rw [e, hyp]))
    · rw [(chn_pick htm hne).2.2] at e
      rw [ids_uniq h hp (chn_mem hy hqc) e]
      exact .inr hqc
  have hpin : ∀ m p, m ∈ d.notes → (tirAt d m.tier).kind = 1 → p ∈ d.notes → p.id = m.par → p.fr ≤ m.fr ∧ m.tO ≤ p.tO := fun m p hm hk hp e => (h.span hm (hal1 m hk)).2.2 (by rw [hk]; decide) p hp e
  refine ⟨hkeep, fun m hm p hp e => sub_up hm.1 hp e hm.2, fun m hm hal => ?_, fun m hm hal => ?_, fun m hm => by rw [hrank m]; exact place_rank (note_of h.good hm.1).place, fun a b ha hb hne ht hp hal => ?_, fun m p hm hp e k1 v v1 v2 => ?_, fun m hm k3 j hj => ?_⟩
  · obtain ⟨a1, a2, a3⟩ := h.span hm.1 hal
    have b1 := hrs m hm.1 hal
    by_cases hc : Chn d en y m
    · have b2 := hyes m hc
      refine ⟨?_, fun k0 => ?_, fun k p hp e => ?_⟩
      · simp only [rightS, Bool.and_eq_true, decide_eq_true_eq]; omega
      · rw [hck hc] at k0; cases k0
      · have b3 := hpin m p hm.1 (hck hc) hp.1 e
        have b4 := hpar m p hc hp.1 e
        by_cases hcp : Chn d en y p
        · have b5 := hyes p hcp
          have b6 := hrs p hp.1 (hal1 p (hck hcp))
          omega
        · rw [hno p hcp]
          have := b4.resolve_right hcp
          omega
    · rw [hno m hc]
      refine ⟨a1, a2, fun k p hp e => ?_⟩
      have b3 := a3 k p hp.1 e
      by_cases hcp : Chn d en y p
      · have := hin p (hal1 p (hck hcp)) hp.1
        omega
      · rw [hno p hcp]; exact b3
  · have hc : ¬ Chn d en y m := fun e => by rw [hal1 m (hck e)] at hal; cases hal
    rw [hno m hc]
    exact flat_of (note_of h.good hm.1) hal
  · have b1 := h.nm ha.1 hb.1 hne ht hp hal
    have a1 := hrs a ha.1 hal
    have a2 := hrs b hb.1 (by rw [← ht]; exact hal)
    have hnS : ∀ c, Kp d (subIds d n.id) c → c ≠ n := fun c hc e => hc.2 (by rw [e]; exact sub_mem.2 ⟨.self, n, hn, rfl⟩)
    -- a sibling of an extended note lies apart from the note
    have key : ∀ c e : Nt, Chn d en y c → Kp d (subIds d n.id) c → Kp d (subIds d n.id) e → c ≠ e → c.tier = e.tier → c.par = e.par → e.tO ≤ n.fr ∨ n.tO ≤ e.fr := by
      intro c e hc hck1 hek hce hct hcp
      rcases chn_inv hc with rfl | ⟨q, t, hqc, htm, hk, hne, rfl⟩
      · exact h.nm hek.1 hn (hnS e hek) (by rw [← hct, hyt]) (by rw [← hcp, hyp]) (by rw [← hct, hyk]; rfl)
      · obtain ⟨x1, x2, x3⟩ := chn_pick (en := en) htm hne
        have := hpin e q hek.1 (by rw [← hct]; exact hck hc) (chn_mem hy hqc) (by rw [← hcp, x3])
        have := hyes q hqc
        omega
    unfold NM
    by_cases hca : Chn d en y a
    · by_cases hcb : Chn d en y b
      · exact absurd (chn_sibs h hy hca hcb ht hp) hne
      · rw [hno b hcb]
        have := key a b hca ha hb hne ht hp
        have := hyes a hca
        omega
    · rw [hno a hca]
      by_cases hcb : Chn d en y b
      · have := key b a hcb hb ha (Ne.symm hne) ht.symm hp.symm
        have := hyes b hcb
        omega
      · rw [hno b hcb]; omega
  · by_cases hv : p.fr ≤ v ∧ v < p.tO
    · obtain ⟨c, hc, c1, c2, c3, c4⟩ := h.cover hm.1 hp.1 e k1 hv.1 hv.2
      by_cases hcn2 : c = n
      · refine ⟨y, ⟨hy, sub_only h hn hm.1 hm.2 hy (by rw [hyp, ← hcn2, c2]) hyn⟩, by rw [hyt, ← hcn2, c1], by rw [hyp, ← hcn2, c2], ?_⟩
        have b1 := hyes y .top
        have b2 := hrs y hy (hal1 y hyk)
        rw [hcn2] at c3 c4
        omega
      · refine ⟨c, ⟨hc, sub_only h hn hm.1 hm.2 hc c2 hcn2⟩, c1, c2, ?_⟩
        have := hin c (hal1 c (by rw [c1]; exact k1)) hc
        omega
    · have hcp : Chn d en y p := Classical.byContradiction fun e2 => by rw [hno p e2] at v1 v2; exact hv ⟨v1, v2⟩
      have b1 := hyes p hcp
      have hmT := kid_kidsT h hm.1 hp.1 e (by rw [k1]; decide)
      have hmm := kidsT_mem hmT
      obtain ⟨t, htl, et⟩ := h.tt hm.1
      have hne : kidsN d p.id m.tier ≠ [] := fun e2 => by
        have : m ∈ kidsN d p.id m.tier := by rw [et]; exact (kid_mem htl).2 ⟨⟨hm.1, et⟩, e.symm⟩
        rw [e2] at this; cases this
      have hcc : Chn d en y (extPick en (kidsN d p.id m.tier)) := .kid p _ hcp hmT (by rw [kind_at hmm.1 hmm.2.1]; exact k1) hne
      obtain ⟨x1, x2, x3⟩ := chn_pick (en := en) hmT hne
      refine ⟨_, ⟨x1, sub_only h hn hm.1 hm.2 x1 (by rw [x3, e]) (hcn hcc)⟩, x2, by rw [x3, e], ?_⟩
      have b2 := hyes _ hcc
      have b3 := hrs _ x1 (hal1 _ (hck hcc))
      have b4 := hpin _ p x1 (hck hcc) hp.1 x3.symm
      have b5 := hrs p hp.1 (hal1 p (hck hcp))
      omega
  · rw [sibs_left d _ hkeep] at hj
    obtain ⟨c, hc, c1, c2, c3⟩ := ser_other h hn hm k3 (fun e => by rw [e.1, hk1] at k3; cases k3) hj
    exact ⟨c, hc, c1, c2, by rw [hrank c]; exact c3⟩
end Go.V
namespace Go.V
open Go Go.Proofs
theorem idsOf_at {ks : List Nt} {j : Nat} (hj : j < ks.length) : (idsOf ks)[j]?.getD 0 = ks[j].id := by
  unfold idsOf
  rw [List.getElem?_map, List.getElem?_eq_getElem hj]; rfl
theorem drop_right {d : Dc} (h : Rgt d) {n : Nt} (hn : n ∈ d.notes) : Rgt { d with notes := woN (subIds d n.id) (dropL d n) } := by
  obtain ⟨t, htl, et⟩ := h.tt hn
  have hkd : kindI d n.tier = (tirAt d n.tier).kind := by rw [et]; exact kindI_at htl
  unfold dropL
  by_cases h3 : kindI d n.tier = 3
  · rw [if_pos h3]
    exact (left_sh h hn (by rw [← hkd]; exact h3)).right h
  rw [if_neg h3]
  have hsame : (∀ m, Kp d (subIds d n.id) m → (tirAt d m.tier).kind = 1 → ¬ (m.tier = n.tier ∧ m.par = n.par)) → Rgt { d with notes := woN (subIds d n.id) d.notes } := fun hg => by
    have := (left_id h hn (by rw [← hkd]; exact h3) hg).right h
    unfold leftD at this
    rwa [List.map_id] at this
  by_cases h1 : kindI d n.tier = 1
  case neg =>
    rw [if_neg h1]
    exact hsame fun m hm k1 e => h1 (by rw [hkd, ← e.1]; exact k1)
  rw [if_pos h1]
  have hk1 : (tirAt d n.tier).kind = 1 := by rw [← hkd]; exact h1
  have hkm : ∀ x ∈ kidsN d n.par n.tier, x ∈ d.notes ∧ x.tier = n.tier ∧ x.par = n.par := fun x hx => by
    rw [et] at hx
    have := (kid_mem htl).1 hx
    exact ⟨this.1.1, by rw [et]; exact this.1.2, this.2⟩
  have hmk : ∀ m ∈ d.notes, m.tier = n.tier → m.par = n.par → m ∈ kidsN d n.par n.tier := fun m hm e1 e2 => by
    rw [et]
    exact (kid_mem htl).2 ⟨⟨hm, by rw [e1]; exact et⟩, e2⟩
  have hnd := nodup_ids h (id := n.par) htl
  rw [← et] at hnd
  -- the parent
  obtain ⟨p1, p2⟩ := h.parent ⟨hn, et⟩ htl (by rw [← et, hk1]; decide)
  have hne : kidsN d (upN d n).id n.tier ≠ [] := fun e => by
    have := hmk n hn rfl rfl
    rw [← p2, e] at this; cases this
  have hpt := (parts_of h p1.1 (t := t) htl (by rw [← et]; exact hk1) (by rw [← et]; exact hne)).1
  rw [← et, p2] at hpt
  have hmn := hmk n hn rfl rfl
  generalize kidsN d n.par n.tier = ks at hkm hmk hnd hpt hmn ⊢
  obtain ⟨j, hj, ej⟩ := List.mem_iff_getElem.1 hmn
  have hidx := idxI_at hnd (i := j) (a := n.id) (by unfold idsOf; rw [List.getElem?_map, List.getElem?_eq_getElem hj, ej]; rfl)
  have hdist : ∀ i, (hi : i < ks.length) → i ≠ j → ks[i] ≠ n := fun i hi hij e => by
    have h1 : (idsOf ks)[i]'(by rw [idsOf_len]; exact hi) = (idsOf ks)[j]'(by rw [idsOf_len]; exact hj) := by
      simp only [idsOf, List.getElem_map, e, ej]
    have hp := List.pairwise_iff_getElem.1 hnd
    rcases Nat.lt_trichotomy i j with q | q | q
    · exact hp i j _ _ q h1
    · exact hij q
    · exact hp j i _ _ q h1.symm
  rw [hidx]
  by_cases hj0 : (0 : Int) < j
  · rw [if_pos hj0]
    have hi : j - 1 < ks.length := by omega
    rw [show ((j : Int) - 1).toNat = j - 1 by omega, idsOf_at hi]
    obtain ⟨z1, z2, z3⟩ := hkm _ (List.getElem_mem hi)
    rw [extP_all h n.tO true z1]
    have hz := hpt j hj
    rw [if_neg (by omega), ej, gN_eq hi] at hz
    have := (left_ext h hn z1 (hdist _ hi (by omega)) z2 z3 hk1 true (by rw [if_pos rfl]; exact hz.symm)).right h
    exact this
  · rw [if_neg hj0]
    have hj00 : j = 0 := by omega
    subst hj00
    by_cases hl : 1 < (idsOf ks).length
    · rw [if_pos hl]
      rw [idsOf_len] at hl
      rw [idsOf_at hl]
      obtain ⟨z1, z2, z3⟩ := hkm _ (List.getElem_mem hl)
      rw [extP_all h n.fr false z1]
      have hz := hpt 1 hl
      rw [if_neg (by omega), gN_eq (by omega)] at hz
      simp only [Nat.sub_self, ej] at hz
      have := (left_ext h hn z1 (hdist _ hl (by omega)) z2 z3 hk1 false (by rw [if_neg (by decide)]; exact hz)).right h
      exact this
    · rw [if_neg hl]
      rw [idsOf_len] at hl
      refine hsame fun m hm k1 e => hm.2 ?_
      have hmm := hmk m hm.1 e.1 e.2
      obtain ⟨i, hi, ei⟩ := List.mem_iff_getElem.1 hmm
      have : i = 0 := by omega
      subst this
      rw [← ei, ej]
      exact sub_mem.2 ⟨.self, n, hn, rfl⟩
theorem dropE_right {d : Dc} (h : Rgt d) (id : Int) (he : (dropE d id).2.2 = 0) : Rgt (dropE d id).1 := by
  unfold dropE at he ⊢
  by_cases e : (getN d.notes id).2 = false
  · rw [if_pos e] at he; cases he
  · rw [if_neg e]
    have hm := getN_mem (l := d.notes) (id := id) (by simpa using e)
    have := drop_right h hm.1
    rw [hm.2] at this
    exact this
end Go.V
namespace Go.V
open Go Go.Proofs
structure Edited (d a : Dc) : Prop where
  rgt : Rgt a
  eq : ({ a with notes := d.notes } : Dc) = d
theorem edited_chk {d : Dc} {l : List Nt} {r : Dc} (h : chk { d with notes := l } = (r, 0)) : Edited d r := by
  obtain ⟨c0, c1⟩ := chk_some h
  subst c1
  exact ⟨right_iff.1 c0, rfl⟩
theorem edited_chg {d : Dc} {id : Int} {f : Nt → Nt} {r : Dc} (h : chgE d id f = (r, 0)) : Edited d r := by
  unfold chgE at h
  split at h
  · exact edited_chk h
  · exact absurd (congrArg Prod.snd h) (by simp)
theorem edited_add {d : Dc} (h : Rgt d) {n : Nt} {r : Dc} (hc : addE d n = (r, 0)) : Edited d r := by
  obtain ⟨L, a⟩ := added h hc
  exact ⟨a.rgt, a.eq⟩
theorem edited_cut {d : Dc} {id t nx : Int} {r : Dc} (h : cutE d id t nx = (r, 0)) : Edited d r := by
  unfold cutE at h
  repeat' split at h
  all_goals first
    | exact edited_chk h
    | exact absurd (congrArg Prod.snd h) (by simp)
theorem edited_glue {d : Dc} {a b : Int} {r : Dc} (h : glueE d a b = (r, 0)) : Edited d r := by
  unfold glueE at h
  repeat' split at h
  all_goals first
    | exact edited_chk h
    | exact absurd (congrArg Prod.snd h) (by simp)
theorem edited_drop {d : Dc} (h : Rgt d) {id : Int} (he : (dropE d id).2.2 = 0) : Edited d (dropE d id).1 := by
  refine ⟨dropE_right h id he, ?_⟩
  unfold dropE at he ⊢
  by_cases e : (getN d.notes id).2 = false
  · rw [if_pos e] at he; cases he
  · rw [if_neg e]
theorem Edited.tiers {d a : Dc} (h : Edited d a) : a.tiers = d.tiers := by
  show ({ a with notes := d.notes } : Dc).tiers = d.tiers
  rw [h.eq]
theorem edited_check {d a : Dc} (hf : d.tiers.length < 2^40) (hs : ∀ t ∈ d.tiers, t.name.size ≤ 9223372036854775807) (h : Edited d a) : PureR Tryz.prog 32 [docD a] (int 0) := by
  have h2 := h.rgt.texts
  have h3 := h.rgt.few
  have hc := right_iff.2 h.rgt
  rw [check_eq] at hc
  have := refCheck_ok a (by rw [h.tiers]; exact hf) (by omega) (by rw [h.tiers]; exact hs) (fun n hn => by have := h2 n hn; omega)
  rwa [hc] at this
structure All13 where
  note : Nt
  chg : Chg
  plc : Plc
  behind : Int
def All13.row (x : All13) : List D := x.note.row ++ [int x.chg.id, .str x.chg.text, int x.chg.fr, int x.chg.tt] ++ [int x.plc.id, int x.plc.time, int x.plc.next, int x.behind]
def al13D (x : All13) : D := .agg x.row
structure All13.ok (x : All13) : Prop where
  note : x.note.ok
  chg : x.chg.ok
  plc : x.plc.ok
  behind : IntOk x.behind
abbrev all13Sh : List Sh := noteSh ++ chgSh ++ placeSh ++ [.int .i64]
theorem FitDs.split : ∀ {a b : List Sh} {l : List D}, FitDs l (a ++ b) → ∃ l1 l2, l = l1 ++ l2 ∧ FitDs l1 a ∧ FitDs l2 b
  | [], b, l, h => ⟨[], l, rfl, by simp [FitDs], h⟩
  | s :: a, b, l, h => by
    rw [List.cons_append] at h
    obtain ⟨x, r, rfl, g, h2⟩ := h.cons_decode
    obtain ⟨l1, l2, rfl, g1, g2⟩ := FitDs.split h2
    exact ⟨x :: l1, l2, rfl, by simp only [FitDs]; exact ⟨_, _, rfl, g, g1⟩, g2⟩
theorem all13_decode {l : List D} (h : FitDs l all13Sh) : ∃ x : All13, D.agg l = al13D x ∧ x.ok := by
  obtain ⟨l123, l4, rfl, h123, h4⟩ := FitDs.split h
  obtain ⟨l12, l3, rfl, h12, h3⟩ := FitDs.split h123
  obtain ⟨l1, l2, rfl, h1, h2⟩ := FitDs.split h12
  obtain ⟨n, e1, on⟩ := note_decode h1
  obtain ⟨c, e2, oc⟩ := chg_decode h2
  obtain ⟨p, e3, op⟩ := place_decode h3
  obtain ⟨_, _, rfl, g4, r4⟩ := h4.cons_decode
  obtain rfl := r4.nil_decode
  obtain ⟨b, rfl, ob⟩ := g4.int_decode
  cases e1
  unfold chgD at e2
  unfold plcD at e3
  cases e2
  cases e3
  exact ⟨⟨n, c, p, b⟩, rfl, on, oc, op, ob⟩
end Go.V
namespace Go.V
open Go Go.Proofs
section
variable {P : Program} {st : St} {Q : DE → St → Prop}
theorem pure_of_bodyT {f : Nat} {fn : Func} {c : Code} (hf : P.funcs[f]? = some fn) (hb : fn.body = some c) (hcall : callable P f = true) {args : List D} {r : D}
    (h : Triple P c (atRet (resIs P fn.results.toList r)) (initSt fn.ntmps args)) : PureR P f args r := by
  refine ⟨hcall, fun w E vs hE hr => ?_⟩
  refine calls_of_wp hf hb ?_
  refine wp_mono (h E (.of w) _ _ w (Mods.init hE hr)) ?_
  rintro e a' w' ⟨de, st', β', he, hq, hm'⟩
  cases e <;> cases de <;> simp only [exM] at he
  · obtain ⟨v, h1, h2⟩ := res_sound hm' hq
    exact ⟨hm'.defers, v, h1, v, rfl, hm'.below.below, h2⟩
  · exact hq.elim
  · obtain ⟨v, h1, h2⟩ := res_sound hm' hq
    exact ⟨hm'.defers, v, h1, v, rfl, hm'.below.below, h2⟩
def cutF {α : Type} (S : α → St) (inv : α → Prop) (Q : DE → St → Prop) : DE → St → Prop
  | .normal, st => ∃ x, inv x ∧ Weak st (S x)
  | e, st => Q e st
theorem triple_seqF {α : Type} {x y : Code} (S : α → St) (inv : α → Prop) (h : Triple P x (cutF S inv Q) st) (h2 : ∀ z, inv z → Triple P y Q (S z)) : Triple P (.seq x y) Q st := by
  intro X w0 β a w hm
  refine wp_seq (wp_mono (h X w0 β a w hm) ?_)
  rintro e a' w' ⟨de, st', β', he, hq, hm'⟩
  cases e <;> cases de <;> simp only [exM] at he
  · obtain ⟨z, hz, hw⟩ := hq
    exact h2 z hz X w0 β' a' w' (hm'.weak hw)
  · subst he; exact ⟨.exit _, st', β', rfl, hq, hm'⟩
  · exact ⟨.ret, st', β', trivial, hq, hm'⟩
theorem cutF_normal {α : Type} {S : α → St} {inv : α → Prop} : cutF S inv Q .normal st = ∃ x, inv x ∧ Weak st (S x) := rfl
theorem cutF_exit {α : Type} {S : α → St} {inv : α → Prop} (i : Nat) : cutF S inv Q (.exit i) st = Q (.exit i) st := rfl
theorem cutF_ret {α : Type} {S : α → St} {inv : α → Prop} : cutF S inv Q .ret st = Q .ret st := rfl
end
attribute [local simp] cutF_normal cutF_exit cutF_ret
abbrev al13Cells (x : All13) : List Sym := [.d (int x.note.id), .d (int x.note.tier), .d (int x.note.par), .d (int x.note.fr), .d (int x.note.tO), .d (int x.note.rank), .d (.str x.note.text), .d (int x.chg.id), .d (.str x.chg.text), .d (int x.chg.fr), .d (int x.chg.tt), .d (int x.plc.id), .d (int x.plc.time), .d (int x.plc.next), .d (int x.behind)]
def SR (d : Dc) (x : All13) (l : List Dc) : St :=
  { n := 158, next := 3, slots := [(2, .bp 0 0), (3, .bp 1 0), (4, .d (.bool false)), (5, .ar 2)], own := [(0, .box 28 (docCells d)), (1, .box 62 (al13Cells x)), (2, .arr 28 7 (l.map Dc.row))], moved := [2] }
set_option maxHeartbeats 8000000 in
theorem law_right (d : Dc) (x : All13) (hs : ∀ t ∈ d.tiers, t.name.size ≤ 9223372036854775807) (hx : ∀ n ∈ d.notes, n.text.size ≤ 9223372036854775807) :
    PureR Tryz.prog 12 [docD d, al13D x] (.bool true) := by
  by_cases hl : (lightB d x.note.text && decide (x.chg.text.size ≤ 400)) = true
  case neg =>
    refine pure_of_body mixed Tryz.func12 rfl call_12 ?_
    simp (decide := true) [Tryz.f12, docD, Dc.row, int, Nt.row, al13D, All13.row]
    refine ECall.pure (by rfl) (light13_ok d x.note.text hs hx) (by simp (decide := true) [docD, Dc.row]) ?_
    cases hl1 : lightB d x.note.text
    · simp (decide := true)
      refine ECall.pure (by rfl) awake13_R (by simp) ?_
      simp (decide := true)
    · have h2 : 400 < x.chg.text.size := by
        rw [hl1, Bool.true_and, decide_eq_true_eq] at hl; omega
      have h2' : (400 : Int) < x.chg.text.size := by omega
      simp (decide := true) [int, h2, h2']
      refine ECall.pure (by rfl) awake13_R (by simp) ?_
      simp (decide := true)
  rw [Bool.and_eq_true, decide_eq_true_eq] at hl
  obtain ⟨hl1, hl2⟩ := hl
  have hl2' : ¬ (400 : Int) < x.chg.text.size := by omega
  refine pure_of_bodyT Tryz.func12 rfl call_12 ?_
  refine cut_ev mixed 3 (SR d x []) rfl ?_ ?_
  · have hli := light13_ok d x.note.text hs hx
    rw [hl1] at hli
    simp (decide := true) [Tryz.f12, docD, Dc.row, int, Nt.row, al13D, All13.row]
    refine ECall.pure (by rfl) hli (by simp (decide := true) [docD, Dc.row]) ?_
    simp (decide := true) [int, hl2, hl2', SR]
  simp only [tailC]
  obtain ⟨h0, h1, h2, h3, hr⟩ := lightB_spec hl1
  have hst0 : ([] : List Dc).length ≤ 0 ∧ ∀ a ∈ ([] : List Dc), Edited d a := ⟨Nat.le_refl _, by simp⟩
  generalize ([] : List Dc) = l at hst0
  obtain ⟨hll, hle⟩ := hst0
  refine triple_seqF (SR d x) (fun l => l.length ≤ 1 ∧ ∀ a ∈ l, Edited d a) (ev_sound mixed ?_) ?_
  · have w := add_ok d x.note (by omega) (by omega) hr.rank
    have hE : ∀ r, addE d x.note = (r, 0) → Edited d r := fun r => edited_add hr
    generalize addE d x.note = r1 at w hE
    obtain ⟨r, e⟩ := r1
    simp (decide := true) [SR, int]
    refine ECall.pure (by rfl) w (by simp (decide := true) [docD, Dc.row, int, Nt.row]) ?_
    by_cases he : e = 0
    · subst he
      have hE1 := hE r rfl
      simp (decide := true) [resD, docD, Dc.row, int, ints]
      refine ⟨by omega, by unfold maxLen; omega, l ++ [r], ⟨by rw [List.length_append, List.length_singleton]; omega, fun a ha => ?_⟩, by simp (decide := true) [SR, docD, Dc.row, int, ints]⟩
      rcases List.mem_append.1 ha with h | h
      · exact hle a h
      · rw [List.mem_singleton] at h; rw [h]; exact hE1
    · simp (decide := true) [resD, docD, Dc.row, int, ints, he]
      exact ⟨l, ⟨by omega, hle⟩, by simp (decide := true) [SR, docD, Dc.row, int, ints]⟩
  clear hll hle l
  rintro l ⟨hll, hle⟩
  refine triple_seqF (SR d x) (fun l => l.length ≤ 2 ∧ ∀ a ∈ l, Edited d a) (ev_sound mixed ?_) ?_
  · have w := drop_ok d hr (by omega) x.chg.id
    have hE : ∀ r o, dropE d x.chg.id = (r, o, 0) → Edited d r := fun r o e => by
      have := edited_drop hr (id := x.chg.id) (by rw [e])
      rwa [e] at this
    generalize dropE d x.chg.id = r1 at w hE
    obtain ⟨r, o, e⟩ := r1
    simp (decide := true) [SR, int]
    refine ECall.pure (by rfl) w (by simp (decide := true) [docD, Dc.row, int, Nt.row]) ?_
    by_cases he : e = 0
    · subst he
      have hE1 := hE r o rfl
      simp (decide := true) [resL, docD, Dc.row, int, ints]
      refine ⟨by omega, by unfold maxLen; omega, l ++ [r], ⟨by rw [List.length_append, List.length_singleton]; omega, fun a ha => ?_⟩, by simp (decide := true) [SR, docD, Dc.row, int, ints]⟩
      rcases List.mem_append.1 ha with h | h
      · exact hle a h
      · rw [List.mem_singleton] at h; rw [h]; exact hE1
    · simp (decide := true) [resL, docD, Dc.row, int, ints, he]
      exact ⟨l, ⟨by omega, hle⟩, by simp (decide := true) [SR, docD, Dc.row, int, ints]⟩
  clear hll hle l
  rintro l ⟨hll, hle⟩
  refine triple_seqF (SR d x) (fun l => l.length ≤ 3 ∧ ∀ a ∈ l, Edited d a) (ev_sound mixed ?_) ?_
  · have w := write_ok d x.chg.id x.chg.text (by omega) (by omega)
    have hE : ∀ r, chgE d x.chg.id (fun n => { n with text := x.chg.text }) = (r, 0) → Edited d r := fun r => edited_chg
    generalize chgE d x.chg.id (fun n => { n with text := x.chg.text }) = r1 at w hE
    obtain ⟨r, e⟩ := r1
    simp (decide := true) [SR, int]
    refine ECall.pure (by rfl) w (by simp (decide := true) [docD, Dc.row, int, Nt.row]) ?_
    by_cases he : e = 0
    · subst he
      have hE1 := hE r rfl
      simp (decide := true) [resD, docD, Dc.row, int, ints]
      refine ⟨by omega, by unfold maxLen; omega, l ++ [r], ⟨by rw [List.length_append, List.length_singleton]; omega, fun a ha => ?_⟩, by simp (decide := true) [SR, docD, Dc.row, int, ints]⟩
      rcases List.mem_append.1 ha with h | h
      · exact hle a h
      · rw [List.mem_singleton] at h; rw [h]; exact hE1
    · simp (decide := true) [resD, docD, Dc.row, int, ints, he]
      exact ⟨l, ⟨by omega, hle⟩, by simp (decide := true) [SR, docD, Dc.row, int, ints]⟩
  clear hll hle l
  rintro l ⟨hll, hle⟩
  refine triple_seqF (SR d x) (fun l => l.length ≤ 4 ∧ ∀ a ∈ l, Edited d a) (ev_sound mixed ?_) ?_
  · have w := move_ok d x.chg.id x.chg.fr x.chg.tt (by omega) (by omega)
    have hE : ∀ r, chgE d x.chg.id (fun n => { n with fr := x.chg.fr, tO := x.chg.tt }) = (r, 0) → Edited d r := fun r => edited_chg
    generalize chgE d x.chg.id (fun n => { n with fr := x.chg.fr, tO := x.chg.tt }) = r1 at w hE
    obtain ⟨r, e⟩ := r1
    simp (decide := true) [SR, int]
    refine ECall.pure (by rfl) w (by simp (decide := true) [docD, Dc.row, int, Nt.row]) ?_
    by_cases he : e = 0
    · subst he
      have hE1 := hE r rfl
      simp (decide := true) [resD, docD, Dc.row, int, ints]
      refine ⟨by omega, by unfold maxLen; omega, l ++ [r], ⟨by rw [List.length_append, List.length_singleton]; omega, fun a ha => ?_⟩, by simp (decide := true) [SR, docD, Dc.row, int, ints]⟩
      rcases List.mem_append.1 ha with h | h
      · exact hle a h
      · rw [List.mem_singleton] at h; rw [h]; exact hE1
    · simp (decide := true) [resD, docD, Dc.row, int, ints, he]
      exact ⟨l, ⟨by omega, hle⟩, by simp (decide := true) [SR, docD, Dc.row, int, ints]⟩
  clear hll hle l
  rintro l ⟨hll, hle⟩
  refine triple_seqF (SR d x) (fun l => l.length ≤ 5 ∧ ∀ a ∈ l, Edited d a) (ev_sound mixed ?_) ?_
  · have w := cut_ok d x.plc.id x.plc.time x.plc.next (by omega) (by omega)
    have hE : ∀ r, cutE d x.plc.id x.plc.time x.plc.next = (r, 0) → Edited d r := fun r => edited_cut
    generalize cutE d x.plc.id x.plc.time x.plc.next = r1 at w hE
    obtain ⟨r, e⟩ := r1
    simp (decide := true) [SR, int]
    refine ECall.pure (by rfl) w (by simp (decide := true) [docD, Dc.row, int, Nt.row]) ?_
    by_cases he : e = 0
    · subst he
      have hE1 := hE r rfl
      simp (decide := true) [resD, docD, Dc.row, int, ints]
      refine ⟨by omega, by unfold maxLen; omega, l ++ [r], ⟨by rw [List.length_append, List.length_singleton]; omega, fun a ha => ?_⟩, by simp (decide := true) [SR, docD, Dc.row, int, ints]⟩
      rcases List.mem_append.1 ha with h | h
      · exact hle a h
      · rw [List.mem_singleton] at h; rw [h]; exact hE1
    · simp (decide := true) [resD, docD, Dc.row, int, ints, he]
      exact ⟨l, ⟨by omega, hle⟩, by simp (decide := true) [SR, docD, Dc.row, int, ints]⟩
  clear hll hle l
  rintro l ⟨hll, hle⟩
  refine triple_seqF (SR d x) (fun l => l.length ≤ 6 ∧ ∀ a ∈ l, Edited d a) (ev_sound mixed ?_) ?_
  · have w := glue_ok d x.plc.id x.behind (by omega) (by omega) hr.rank300 hr.texts
    have hE : ∀ r, glueE d x.plc.id x.behind = (r, 0) → Edited d r := fun r => edited_glue
    generalize glueE d x.plc.id x.behind = r1 at w hE
    obtain ⟨r, e⟩ := r1
    simp (decide := true) [SR, int]
    refine ECall.pure (by rfl) w (by simp (decide := true) [docD, Dc.row, int, Nt.row]) ?_
    by_cases he : e = 0
    · subst he
      have hE1 := hE r rfl
      simp (decide := true) [resD, docD, Dc.row, int, ints]
      refine ⟨by omega, by unfold maxLen; omega, l ++ [r], ⟨by rw [List.length_append, List.length_singleton]; omega, fun a ha => ?_⟩, by simp (decide := true) [SR, docD, Dc.row, int, ints]⟩
      rcases List.mem_append.1 ha with h | h
      · exact hle a h
      · rw [List.mem_singleton] at h; rw [h]; exact hE1
    · simp (decide := true) [resD, docD, Dc.row, int, ints, he]
      exact ⟨l, ⟨by omega, hle⟩, by simp (decide := true) [SR, docD, Dc.row, int, ints]⟩
  clear hll hle l
  rintro l ⟨hll, hle⟩
  have hfit : d.fit := ⟨by omega, by omega, by omega⟩
  have hsm := refSame_ok d d hfit
  rw [decide_eq_true rfl] at hsm
  refine ev_sound mixed ?_
  simp (decide := true) [SR, int]
  refine loop_rule mixed (fun k : Nat => { n := 158, next := 3, slots := [(2, .bp 0 0), (4, .d (.bool false)), (5, .ar 2), (133, .d (int l.length)), (134, .d (int k))], own := [(0, .box 28 (docCells d)), (2, .arr 28 7 ((List.replicate k d ++ l.drop k).map Dc.row))], moved := [2] })
    (fun k => k ≤ l.length) (fun k => l.length - k) 0 (by simp) (by simp (decide := true) [int]) ?_
  intro k hk
  by_cases hlt : k < l.length
  · have hlt' : (k : Int) < l.length := by omega
    obtain ⟨a, ea⟩ : ∃ a, l[k] = a := ⟨_, rfl⟩
    have hE := hle _ (List.getElem_mem hlt)
    rw [ea] at hE
    have hck := edited_check (by omega) hs hE
    have ha : a = { d with notes := a.notes } := by rw [← hE.eq]
    generalize a.notes = ns at ha
    subst ha
    have hcl : (List.replicate k d ++ l.drop k).length = l.length := by rw [List.length_append, List.length_replicate, List.length_drop]; omega
    have hge : (List.replicate k d ++ l.drop k)[k]? = some { d with notes := ns } := by
      rw [List.getElem?_append_right (by simp), List.length_replicate, Nat.sub_self, List.getElem?_drop, Nat.add_zero, List.getElem?_eq_getElem hlt, ea]
    have hst : (List.replicate k d ++ l.drop k).set k d = List.replicate (k + 1) d ++ l.drop (k + 1) := by
      rw [List.set_append_right _ _ (by simp), List.length_replicate, Nat.sub_self, List.drop_eq_getElem_cons hlt, List.set_cons_zero, List.replicate_succ', List.append_assoc]; rfl
    generalize List.replicate k d ++ l.drop k = c at hge hst hcl
    have kc : k < c.length := by omega
    have kc' : (k : Int) < c.length := by omega
    have gc : c[k] = { d with notes := ns } := by rw [List.getElem?_eq_getElem kc] at hge; exact Option.some.inj hge
    simp (decide := true) [int, Dc.row, hlt', kc, kc', hge, gc, I64]
    refine ECall.pure (by rfl) hck (by simp (decide := true) [docD, Dc.row, int]) ?_
    simp (decide := true) [int, Dc.row, notesD, tiersD, ints, hlt', kc, kc', hge, gc, I64]
    refine scall_pure (by rfl) (by rfl) hsm (by simp (decide := true) [docD, Dc.row, int, notesD, tiersD, ints]) ?_
    simp (decide := true) [int, Dc.row, notesD, tiersD, ints, I64]
    refine ⟨⟨by omega, by omega⟩, k + 1, hlt, by omega, by omega, ?_⟩
    have := congrArg (List.map Dc.row) hst
    rw [List.map_set, List.map_append, List.map_replicate, List.map_drop] at this
    exact this
  · have : k = l.length := by omega
    subst this
    simp (decide := true) [int]
    refine ECall.pure (by rfl) awake13_R (by simp) ?_
    simp (decide := true)
end Go.V
