/- Contracts and plain laws of this seat: part M8. It needs no conditions. -/
import Derived.Test.YtpdfjfieimkplaaGreatDoorM2
import Derived.Test.YtpdfjfieimkplaaGreatDoorM7
import Derived.Test.YtpdfjfieimkplaaGreatDoorM6
set_option linter.unusedVariables false
set_option linter.unusedSimpArgs false
set_option linter.unusedSectionVars false
set_option maxRecDepth 100000
/- The examples of chapter 46, awake(), are true: reckoned by the kernel. -/
namespace Go.V
open Go Go.Proofs
noncomputable def mkGm : XG := { mkGs with mf := fun f => Nat.beq f 30 }
theorem mkGm_good : XGood Tryz.prog mkGm := by
  have g := mkGs_good
  exact ⟨g.ti, g.zf, g.ek, g.fn, g.kn, g.kc⟩
theorem pure_of_isTm {f k : Nat} (h : isT (xcall mkGm (xdraw mkGm) k f [] [] 0) = true) : PureR Tryz.prog f [] (.bool true) := by
  have hg := run_sound mixed_X mkGm_good k
  unfold isT at h
  split at h
  · rename_i nx own mv hr
    have := hg _ _ _ _ _ hr (by simp [Sym.los])
    exact pureR_of_callC (ds := []) this
  · cases h
theorem awake46_run : isT (xcall mkGm (xdraw mkGm) 60 5 [] [] 0) = true := by kernel_rfl
theorem awake46_R : PureR Tryz.prog 5 [] (.bool true) := pure_of_isTm awake46_run
end Go.V

/- Plain law: where the notes of an aligned tier lie. -/
namespace Go.V
open Go Go.Proofs

section
variable {d : Dc}
theorem Rgt.inside (h : Rgt d) {t : Nat} {n : Nt} (hn : inT d t n) (hal : alK (tirAt d t).kind = true) :
    0 ≤ n.fr ∧ n.fr < n.tO ∧ ((tirAt d t).kind = 0 → n.tO ≤ d.len) ∧ ((tirAt d t).kind ≠ 0 → (upN d n).fr ≤ n.fr ∧ n.tO ≤ (upN d n).tO) := by
  have hk := note_of h.good hn.1
  have hw := (place_iff hk.place).2.2
  unfold withinP at hw
  rw [if_pos (by rw [alT_at hk.t0 hk.t1, hn.2]; exact hal), Bool.and_eq_true, hn.2] at hw
  obtain ⟨h1, h2⟩ := hw
  simp only [rightS, Bool.and_eq_true, decide_eq_true_eq] at h1
  refine ⟨h1.1.1, h1.1.2, fun e => ?_, fun e => ?_⟩
  · rw [if_pos e, Bool.and_eq_true, decide_eq_true_eq, decide_eq_true_eq] at h2
    exact h2.2
  · rw [if_neg e, Bool.and_eq_true, decide_eq_true_eq, decide_eq_true_eq] at h2
    exact h2
theorem Rgt.upal (h : Rgt d) {t : Nat} (ht : t < d.tiers.length) (hk : (tirAt d t).kind ≠ 0) (hal : alK (tirAt d t).kind = true) : alK (tirAt d (tirAt d t).par.toNat).kind = true := by
  have hu := h.up ht hk
  rw [tirAt_nat d ht] at hk hal hu ⊢
  have := (oneE_parent (h.good.tiers t ht) hk).2.2 hal
  rw [List.getElem?_take, if_pos hu.2] at this
  unfold tirAt
  rw [Int.toNat_natCast]
  exact this
theorem Rgt.sibs_apart (h : Rgt d) {t : Nat} (ht : t < d.tiers.length) (hal : alK (tirAt d t).kind = true) {a b : Nt} (ha : inT d t a) (hb : inT d t b) (hp : a.par = b.par) (hlt : a.fr < b.fr) : a.tO ≤ b.fr := by
  have hov := (ter_iff.1 (h.ter t ht)).1 a (inT_iff.2 ha)
  have hma : a ∈ sibs d.notes t a.par := by unfold sibs; rw [List.mem_filter]; exact ⟨ha.1, by simp [ha.2]⟩
  have hmb : b ∈ sibs d.notes t a.par := by unfold sibs; rw [List.mem_filter]; exact ⟨hb.1, by simp [hb.2, hp]⟩
  unfold ovR at hov
  rw [hal, Bool.true_and, over_pair] at hov
  have hra := h.inside ha hal
  have hrb := h.inside hb hal
  have hnm : NM a b := by
    generalize sibs d.notes t a.par = S at hov hma hmb
    obtain ⟨i, hi, rfl⟩ := List.mem_iff_getElem.1 hma
    obtain ⟨j, hj, rfl⟩ := List.mem_iff_getElem.1 hmb
    have hpw := List.pairwise_iff_getElem.1 hov
    rcases Nat.lt_trichotomy i j with h1 | rfl | h1
    · exact hpw i j hi hj h1
    · omega
    · exact (hpw j i hj hi h1).symm
  unfold NM at hnm
  omega
end
end Go.V

/- Plain law: the notes of an aligned tier, in order, lie apart; children that divide a span. -/
namespace Go.V
open Go Go.Proofs

section
variable {d : Dc}
theorem bef_apart (h : Rgt d) : ∀ (t : Nat), t < d.tiers.length → alK (tirAt d t).kind = true → ∀ a b, inT d t a → inT d t b → befT d t a b = true → a.tO ≤ b.fr := by
  intro t
  induction t using Nat.strongRecOn with
  | _ t ih =>
    intro ht hal a b ha hb hab
    by_cases hp : a.par = b.par
    · rw [bef_same hp, decide_eq_true_eq] at hab
      unfold keyT at hab
      rw [if_pos hal, if_pos hal] at hab
      exact h.sibs_apart ht hal ha hb hp hab
    · have hk : (tirAt d t).kind ≠ 0 := fun e => hp (by rw [h.root ha e, h.root hb e])
      have hu := h.up ht hk
      rw [bef_up hp hu.2] at hab
      have := ih _ hu.2 (by omega) (h.upal ht hk hal) _ _ (h.parent ha ht hk).1 (h.parent hb ht hk).1 hab
      have h1 := (h.inside ha hal).2.2.2 hk
      have h2 := (h.inside hb hal).2.2.2 hk
      omega
/-- Children that divide a span: sorted, apart, without gaps. -/
theorem parts_first {l : List Nt} {f u : Int} (hs : ∀ n ∈ l, f ≤ n.fr ∧ n.fr < n.tO ∧ n.tO ≤ u) (hp : l.Pairwise fun a b => a.tO ≤ b.fr) (hc : ∀ v, f ≤ v → v < u → ∃ n ∈ l, n.fr ≤ v ∧ v < n.tO) (hl : l ≠ []) :
    (∀ (k : Nat) (hk : k < l.length), l[k].fr = if k = 0 then f else (gN l (k - 1)).tO) ∧ (gN l (l.length - 1)).tO = u := by
  have hpw := List.pairwise_iff_getElem.1 hp
  have h0 := List.length_pos_iff.2 hl
  have hlast : ∀ j, j < l.length → (gN l j).tO ≤ (gN l (l.length - 1)).tO := by
    intro j hj
    rw [gN_eq hj, gN_eq (by omega)]
    rcases Nat.eq_or_lt_of_le (show j ≤ l.length - 1 by omega) with e | e
    · simp [← e]
    · have := hpw j (l.length - 1) hj (by omega) e
      have := hs l[l.length - 1] (List.getElem_mem _)
      omega
  refine ⟨fun k hk => ?_, ?_⟩
  · have hk' := hs l[k] (List.getElem_mem _)
    rcases Nat.eq_zero_or_pos k with rfl | hk0
    · rw [if_pos rfl]
      obtain ⟨n, hn, n1, n2⟩ := hc f (Int.le_refl _) (by omega)
      obtain ⟨j, hj, rfl⟩ := List.mem_iff_getElem.1 hn
      rcases Nat.eq_zero_or_pos j with rfl | hj0
      · omega
      · have := hpw 0 j hk hj hj0
        omega
    · rw [if_neg (by omega), gN_eq (by omega)]
      have h1 := hpw (k - 1) k (by omega) hk (by omega)
      have hm := hs (l[k - 1]'(by omega)) (List.getElem_mem _)
      apply Classical.byContradiction
      intro hne
      obtain ⟨n, hn, n1, n2⟩ := hc ((l[k - 1]'(by omega)).tO) (by omega) (by omega)
      obtain ⟨j, hj, rfl⟩ := List.mem_iff_getElem.1 hn
      rcases Nat.lt_trichotomy j k with e | rfl | e
      · rcases Nat.eq_or_lt_of_le (show j ≤ k - 1 by omega) with e2 | e2
        · subst e2; omega
        · have := hpw j (k - 1) hj (by omega) e2
          omega
      · omega
      · have := hpw k j hk hj e
        omega
  · have hm := hs (l[l.length - 1]'(by omega)) (List.getElem_mem _)
    have e := gN_eq (s := l) (i := l.length - 1) (by omega)
    rw [e]
    apply Classical.byContradiction
    intro hne
    obtain ⟨n, hn, n1, n2⟩ := hc ((l[l.length - 1]'(by omega)).tO) (by omega) (by omega)
    obtain ⟨j, hj, rfl⟩ := List.mem_iff_getElem.1 hn
    have := hlast j hj
    rw [e, gN_eq hj] at this
    omega
end
end Go.V

/- Plain declarations that a chapter needs of another one: picked by a tool of mine. -/
namespace Go.V
open Go Go.Proofs

theorem Rgt.ranked {d : Dc} (h : Rgt d) {t : Nat} (ht : t < d.tiers.length) (k3 : (tirAt d t).kind = 3) {n : Nt} (hn : inT d t n) : 0 ≤ n.rank ∧ n.rank < (sibs d.notes t n.par).length := by
  have hte := ter_iff.1 (h.ter t ht)
  have hall : ∀ n ∈ ofT d.notes t, rankP (sibs d.notes t n.par) = true := by
    intro n hn
    have := hte.2 n hn
    rw [k3] at this
    simpa [badR] using this
  have hs := srt_of (ofT d.notes t)
  have hperm := sortN_perm (ofT d.notes t)
  have hl : (sortN (ofT d.notes t)).length < 2^40 := by
    rw [sortN_length]
    have : (ofT d.notes t).length ≤ d.notes.length := List.length_filter_le _ _
    have := h.few
    omega
  have hz : ∀ n ∈ sortN (ofT d.notes t), n.fr = 0 := by
    intro n hn
    have hn := inT_iff.1 (hperm.mem_iff.1 hn)
    exact (flat_of (note_of h.good hn.1) (by rw [hn.2, k3]; rfl)).1
  have hrk := (rk_pos hs hl).1 ((rank_all hperm hs hl hz).2 hall)
  obtain ⟨i, hi, ei⟩ := List.mem_iff_getElem.1 (hperm.mem_iff.2 (inT_iff.2 hn))
  rw [← gN_eq hi] at ei
  have r1 := hrk i hi
  have hlt := (List.getElem?_eq_some_iff.1 (pos_at hi)).1
  rw [(sibs_perm hperm _).length_eq, ei] at hlt
  rw [ei] at r1
  omega
theorem place_rank {d : Dc} {n : Nt} (h : placeE d n = 0) : 0 ≤ n.rank ∧ (n.rank = 0 ∨ (tirAt d n.tier).kind = 3) := by
  unfold placeE at h
  by_cases hr : n.rank < 0 ∨ (n.rank ≠ 0 ∧ (tirAt d n.tier).kind ≠ 3)
  · exfalso
    rw [if_pos hr] at h
    repeat' split at h
    all_goals cases h
  · omega
theorem Rgt.rank300 {d : Dc} (h : Rgt d) : ∀ n ∈ d.notes, 0 ≤ n.rank ∧ n.rank ≤ 300 := by
  intro n hn
  have hok := note_of h.good hn
  obtain ⟨t, et⟩ : ∃ t : Nat, n.tier = t := ⟨n.tier.toNat, by have := hok.t0; omega⟩
  have ht : t < d.tiers.length := by have := hok.t1; omega
  have hp := place_rank hok.place
  rcases hp.2 with r0 | k3
  · omega
  · rw [et] at k3
    have := h.ranked ht k3 ⟨hn, et⟩
    have hl := sibs_len d.notes t n.par
    have := h.few
    omega
theorem Rgt.rank {d : Dc} (h : Rgt d) : ∀ n ∈ d.notes, -1099511627776 ≤ n.rank ∧ n.rank ≤ 1099511627776 := by
  intro n hn
  have := h.rank300 n hn
  omega
def IncL (l : List Nt) : Prop := l.Pairwise fun a b => a.id < b.id
theorem IncL.map {l : List Nt} (h : IncL l) {f : Nt → Nt} (hf : ∀ n, (f n).id = n.id) : IncL (l.map f) := by
  unfold IncL; rw [List.pairwise_map]; exact h.imp fun {a b} hab => by rw [hf, hf]; exact hab
theorem tiers20 {d : Dc} (h : Rgt d) : d.tiers.length ≤ 20 := by
  have := h.tiers
  unfold tiersE at this
  split at this
  · cases this
  · omega
theorem inc_uniq {l : List Nt} (h : IncL l) {a b : Nt} (ha : a ∈ l) (hb : b ∈ l) (e : a.id = b.id) : a = b := by
  obtain ⟨i, hi, rfl⟩ := List.mem_iff_getElem.1 ha
  obtain ⟨j, hj, rfl⟩ := List.mem_iff_getElem.1 hb
  have hp := List.pairwise_iff_getElem.1 h
  rcases Nat.lt_trichotomy i j with h1 | rfl | h1
  · have := hp i j hi hj h1; omega
  · rfl
  · have := hp j i hj hi h1; omega
theorem inc_getN {l : List Nt} (h : IncL l) {n : Nt} (hn : n ∈ l) : getN l n.id = (n, true) := by
  unfold getN
  cases hf : l.find? fun m => decide (m.id = n.id) with
  | none => rw [List.find?_eq_none] at hf; exact absurd (hf n hn) (by simp)
  | some m =>
    have h1 := List.mem_of_find?_eq_some hf
    have h2 : m.id = n.id := by simpa using List.find?_some hf
    rw [inc_uniq h h1 hn h2]
theorem place_of {d : Dc} {n : Nt} (h1 : (tirAt d n.tier).kind = 0 → n.par = 0) (h2 : (tirAt d n.tier).kind ≠ 0 → (getN d.notes n.par).2 = true ∧ (getN d.notes n.par).1.tier = (tirAt d n.tier).par)
    (h3 : withinP d n (getN d.notes n.par).1 = true) (h4 : 0 ≤ n.rank ∧ (n.rank = 0 ∨ (tirAt d n.tier).kind = 3)) : placeE d n = 0 := by
  unfold placeE
  rw [if_pos, if_pos h3, if_neg]
  · omega
  · by_cases hk : (tirAt d n.tier).kind = 0
    · rw [if_pos hk]; simpa using h1 hk
    · rw [if_neg hk]; simp [h2 hk]
theorem Rgt.tt {d : Dc} (h : Rgt d) {m : Nt} (hm : m ∈ d.notes) : ∃ t : Nat, t < d.tiers.length ∧ m.tier = t := by
  have hok := note_of h.good hm
  exact ⟨m.tier.toNat, by have := hok.t0; have := hok.t1; omega, by have := hok.t0; omega⟩
theorem Rgt.nm {d : Dc} (h : Rgt d) {a b : Nt} (ha : a ∈ d.notes) (hb : b ∈ d.notes) (hne : a ≠ b) (ht : a.tier = b.tier) (hp : a.par = b.par) (hal : alK (tirAt d a.tier).kind = true) : a.tO ≤ b.fr ∨ b.tO ≤ a.fr := by
  obtain ⟨t, htl, et⟩ := h.tt ha
  rw [et] at hal
  have ia : inT d t a := ⟨ha, et⟩
  have ib : inT d t b := ⟨hb, by rw [← ht]; exact et⟩
  have hk : keyT d t a ≠ keyT d t b := fun e => hne (h.keys htl ia ib hp e)
  unfold keyT at hk
  rw [if_pos hal, if_pos hal] at hk
  rcases Int.lt_or_gt_of_ne hk with h1 | h1
  · exact .inl (h.sibs_apart htl hal ia ib hp h1)
  · exact .inr (h.sibs_apart htl hal ib ia hp.symm h1)
theorem Rgt.upof {d : Dc} (h : Rgt d) {m p : Nt} (hm : m ∈ d.notes) (hp : p ∈ d.notes) (e : p.id = m.par) : upN d m = p := by
  have := getN_of h hp
  rw [e] at this
  unfold upN; rw [this]
theorem Rgt.span {d : Dc} (h : Rgt d) {m : Nt} (hm : m ∈ d.notes) (hal : alK (tirAt d m.tier).kind = true) :
    rightS m.fr m.tO = true ∧ ((tirAt d m.tier).kind = 0 → m.tO ≤ d.len) ∧ ((tirAt d m.tier).kind ≠ 0 → ∀ p ∈ d.notes, p.id = m.par → p.fr ≤ m.fr ∧ m.tO ≤ p.tO) := by
  obtain ⟨t, htl, et⟩ := h.tt hm
  have hr := right_of (note_of h.good hm) hal
  rw [et] at hal ⊢
  have hi := h.inside (t := t) ⟨hm, et⟩ hal
  refine ⟨hr, hi.2.2.1, fun hk p hp e => ?_⟩
  have := hi.2.2.2 hk
  rw [h.upof hm hp e] at this
  exact this
theorem Rgt.cover {d : Dc} (h : Rgt d) {m p : Nt} (hm : m ∈ d.notes) (hp : p ∈ d.notes) (e : p.id = m.par) (hk : (tirAt d m.tier).kind = 1) {v : Int} (v1 : p.fr ≤ v) (v2 : v < p.tO) :
    ∃ c ∈ d.notes, c.tier = m.tier ∧ c.par = m.par ∧ c.fr ≤ v ∧ v < c.tO := by
  obtain ⟨t, htl, et⟩ := h.tt hm
  rw [et] at hk ⊢
  have hbad := (ter_iff.1 (h.ter t htl)).2 m (inT_iff.2 ⟨hm, et⟩)
  rw [hk] at hbad
  simp only [badR, decide_true, Bool.true_and, Bool.or_eq_false_iff, Bool.not_eq_false'] at hbad
  have hcov := coversS_iff.1 hbad.1.1
  have e2 := h.upof hm hp e
  unfold upN at e2
  rw [e2] at hcov
  obtain ⟨y, hy, _, y1, y2⟩ := hcov.2 v v1 v2
  obtain ⟨z, hz, rfl⟩ := List.mem_map.1 hy
  unfold sibs at hz
  rw [List.mem_filter, Bool.and_eq_true, decide_eq_true_eq, decide_eq_true_eq] at hz
  exact ⟨z, hz.1, hz.2.1, hz.2.2, y1, y2⟩
theorem Rgt.series {d : Dc} (h : Rgt d) {m : Nt} (hm : m ∈ d.notes) (hk : (tirAt d m.tier).kind = 3) {j : Nat} (hj : j < (sibs d.notes m.tier m.par).length) : ∃ c ∈ d.notes, c.tier = m.tier ∧ c.par = m.par ∧ c.rank = j := by
  obtain ⟨t, htl, et⟩ := h.tt hm
  rw [et] at hk hj ⊢
  have hbad := (ter_iff.1 (h.ter t htl)).2 m (inT_iff.2 ⟨hm, et⟩)
  rw [hk] at hbad
  have hr : rankP (sibs d.notes t m.par) = true := by simpa [badR] using hbad
  have := rankP_true.1 hr j hj
  rw [List.any_eq_true] at this
  obtain ⟨z, hz, hz2⟩ := this
  unfold sibs at hz
  rw [List.mem_filter, Bool.and_eq_true, decide_eq_true_eq, decide_eq_true_eq] at hz
  exact ⟨z, hz.1, hz.2.1, hz.2.2, by simpa using hz2⟩
end Go.V

/- Plain law of chapter 46: what is asked of the notes that a viewer sees so that what is seen of a document is right. -/
namespace Go.V
open Go Go.Proofs

open Classical in
/-- What a viewer sees of a document: some of the notes, perhaps without their texts. -/
noncomputable def seenD (d : Dc) (S : Nt → Prop) (F : Nt → Nt) : Dc := { d with notes := (d.notes.filter fun m => decide (S m)).map F }
def Kq (d : Dc) (S : Nt → Prop) (m : Nt) : Prop := m ∈ d.notes ∧ S m
structure Viw (d : Dc) (S : Nt → Prop) (F : Nt → Nt) : Prop where
  keep : ∀ m, (F m).id = m.id ∧ (F m).tier = m.tier ∧ (F m).par = m.par
  text : ∀ m, Kq d S m → textE (F m).text = 0
  up : ∀ m, Kq d S m → ∀ p ∈ d.notes, p.id = m.par → S p
  al : ∀ m, Kq d S m → alK (tirAt d m.tier).kind = true → rightS (F m).fr (F m).tO = true ∧ ((tirAt d m.tier).kind = 0 → (F m).tO ≤ d.len) ∧ ((tirAt d m.tier).kind ≠ 0 → ∀ p, Kq d S p → p.id = m.par → (F p).fr ≤ (F m).fr ∧ (F m).tO ≤ (F p).tO)
  flat : ∀ m, Kq d S m → alK (tirAt d m.tier).kind = false → (F m).fr = 0 ∧ (F m).tO = 0
  rank : ∀ m, Kq d S m → 0 ≤ (F m).rank ∧ ((F m).rank = 0 ∨ (tirAt d m.tier).kind = 3)
  ov : ∀ a b, Kq d S a → Kq d S b → a ≠ b → a.tier = b.tier → a.par = b.par → alK (tirAt d a.tier).kind = true → NM (F a) (F b)
  gap : ∀ m p, Kq d S m → Kq d S p → p.id = m.par → (tirAt d m.tier).kind = 1 → ∀ v, (F p).fr ≤ v → v < (F p).tO → ∃ c, Kq d S c ∧ c.tier = m.tier ∧ c.par = m.par ∧ (F c).fr ≤ v ∧ v < (F c).tO
  ser : ∀ m, Kq d S m → (tirAt d m.tier).kind = 3 → ∀ j : Nat, j < (sibs (seenD d S F).notes m.tier m.par).length → ∃ c, Kq d S c ∧ c.tier = m.tier ∧ c.par = m.par ∧ (F c).rank = j
theorem Viw.mem {d : Dc} {S : Nt → Prop} {F : Nt → Nt} {x : Nt} : x ∈ (seenD d S F).notes ↔ ∃ m, Kq d S m ∧ F m = x := by
  unfold seenD
  simp only [List.mem_map, List.mem_filter, decide_eq_true_eq]
  exact Iff.rfl
theorem Viw.inc {d : Dc} (h : Rgt d) {S : Nt → Prop} {F : Nt → Nt} (l : Viw d S F) : IncL (seenD d S F).notes := by
  have : IncL (d.notes.filter fun m => @decide (S m) (Classical.propDecidable _)) := h.inc.sublist List.filter_sublist
  exact IncL.map this fun n => (l.keep n).1
theorem Viw.sib {d : Dc} {S : Nt → Prop} {F : Nt → Nt} (l : Viw d S F) {t p : Int} {x : Nt} : x ∈ sibs (seenD d S F).notes t p ↔ ∃ m, Kq d S m ∧ F m = x ∧ m.tier = t ∧ m.par = p := by
  unfold sibs
  rw [List.mem_filter, Viw.mem]
  constructor
  · rintro ⟨⟨m, hm, rfl⟩, hx⟩
    rw [(l.keep m).2.1, (l.keep m).2.2, Bool.and_eq_true, decide_eq_true_eq, decide_eq_true_eq] at hx
    exact ⟨m, hm, rfl, hx.1, hx.2⟩
  · rintro ⟨m, hm, rfl, h1, h2⟩
    exact ⟨⟨m, hm, rfl⟩, by rw [(l.keep m).2.1, (l.keep m).2.2, h1, h2]; simp⟩
theorem Viw.right {d : Dc} (h : Rgt d) {S : Nt → Prop} {F : Nt → Nt} (l : Viw d S F) : Rgt (seenD d S F) := by
  have hinc := l.inc h
  have hmem := fun x => Viw.mem (d := d) (S := S) (F := F) (x := x)
  have hpar : ∀ m, Kq d S m → (tirAt d m.tier).kind ≠ 0 → ∃ p, Kq d S p ∧ p.id = m.par ∧ p.tier = (tirAt d m.tier).par ∧ getN (seenD d S F).notes m.par = (F p, true) := by
    intro m hm hk
    have hok := note_of h.good hm.1
    have hp := (place_iff hok.place).2.1 hk
    obtain ⟨p1, p2⟩ := getN_mem hp.1
    have hS := l.up m hm _ p1 p2
    refine ⟨_, ⟨p1, hS⟩, p2, hp.2, ?_⟩
    have hFm : F (getN d.notes m.par).1 ∈ (seenD d S F).notes := (hmem _).2 ⟨_, ⟨p1, hS⟩, rfl⟩
    have := inc_getN hinc hFm
    rw [(l.keep _).1, p2] at this
    exact this
  have hnok : ∀ x ∈ (seenD d S F).notes, Nok (seenD d S F) x := by
    intro x hx
    obtain ⟨m, hm, rfl⟩ := (hmem x).1 hx
    have hN := h.nok m hm.1
    obtain ⟨k1, k2, k3⟩ := l.keep m
    have k4 := l.text m hm
    refine ⟨by rw [k1]; exact hN.lo, by rw [k1]; exact hN.hi, by rw [k2]; exact hN.t0, by rw [k2]; exact hN.t1, ?_⟩
    have he := hN.e
    rw [noteE_place] at he ⊢
    rw [if_pos k4]
    have htir : ∀ i, tirAt (seenD d S F) i = tirAt d i := fun _ => rfl
    have hok := note_of h.good hm.1
    refine place_of ?_ ?_ ?_ ?_
    · rw [htir, k2, k3]; exact (place_iff hok.place).1
    · rw [htir, k2, k3]
      intro hk
      obtain ⟨p, hp, hpi, hpt, hg⟩ := hpar m hm hk
      rw [hg]
      exact ⟨rfl, by rw [(l.keep p).2.1]; exact hpt⟩
    · unfold withinP
      rw [htir, k2, k3]
      have halT : alT (seenD d S F).tiers m.tier = alK (tirAt d m.tier).kind := alT_at (d := d) hok.t0 hok.t1
      rw [halT]
      cases hal : alK (tirAt d m.tier).kind with
      | true =>
        rw [if_pos rfl]
        obtain ⟨a1, a2, a3⟩ := l.al m hm hal
        rw [a1, Bool.true_and]
        have a4 : 0 ≤ (F m).fr := by simp only [rightS, Bool.and_eq_true, decide_eq_true_eq] at a1; exact a1.1.1
        by_cases hk : (tirAt d m.tier).kind = 0
        · rw [if_pos hk, decide_eq_true a4, Bool.true_and, decide_eq_true_eq]
          exact a2 hk
        · rw [if_neg hk]
          obtain ⟨p, hp, hpi, hpt, hg⟩ := hpar m hm hk
          rw [hg, Bool.and_eq_true, decide_eq_true_eq, decide_eq_true_eq]
          exact a3 hk p hp hpi
      | false =>
        rw [if_neg Bool.false_ne_true, Bool.and_eq_true, decide_eq_true_eq, decide_eq_true_eq]
        exact l.flat m hm hal
    · rw [htir, k2]; exact l.rank m hm
  refine ⟨h.tiers, h.len, ?_, hnok, hinc, ?_⟩
  · unfold seenD
    simp only [List.length_map]
    exact Nat.le_trans (List.length_filter_le _ _) h.few
  · intro t ht
    have ht' : t < d.tiers.length := ht
    have htir : tirAt (seenD d S F) t = tirAt d t := rfl
    rw [ter_iff, htir]
    refine ⟨fun x hx => ?_, fun x hx => ?_⟩
    · obtain ⟨m, hm, rfl⟩ := (hmem x).1 (inT_iff.1 hx).1
      have hmt : m.tier = t := by have := (inT_iff.1 hx).2; rw [(l.keep m).2.1] at this; exact this
      unfold ovR
      cases hal : alK (tirAt d t).kind with
      | false => rfl
      | true =>
        rw [Bool.true_and, over_pair]
        have hsub : (sibs (seenD d S F).notes t (F m).par).Pairwise fun a b => a.id < b.id := hinc.sublist List.filter_sublist
        refine hsub.imp_of_mem fun {a b} ha hb hab => ?_
        obtain ⟨a0, ha0, rfl, ta, pa⟩ := l.sib.1 ha
        obtain ⟨b0, hb0, rfl, tb, pb⟩ := l.sib.1 hb
        refine l.ov a0 b0 ha0 hb0 (fun e => by rw [e] at hab; omega) (by rw [ta, tb]) (by rw [pa, pb]) (by rw [ta]; exact hal)
    · obtain ⟨m, hm, rfl⟩ := (hmem x).1 (inT_iff.1 hx).1
      have hmt : m.tier = t := by have := (inT_iff.1 hx).2; rw [(l.keep m).2.1] at this; exact this
      have hkm : (tirAt d m.tier).kind = (tirAt d t).kind := by rw [hmt]
      unfold badR
      rw [(l.keep m).2.2]
      have hlab : (tirAt d t).kind = 4 → ¬ 1 < (sibs (seenD d S F).notes t m.par).length := by
        intro k4 hgt
        have hb := (ter_iff.1 (h.ter t ht')).2 m (inT_iff.2 ⟨hm.1, hmt⟩)
        rw [k4] at hb
        simp [badR] at hb
        have hs : (sibs (seenD d S F).notes t m.par).length ≤ (sibs d.notes t m.par).length := by
          have e2 : ∀ L : List Nt, sibs (L.map F) t m.par = (sibs L t m.par).map F := fun L => by
            unfold sibs
            rw [List.filter_map]
            congr 1
            exact List.filter_congr fun y _ => by simp only [Function.comp, (l.keep y).2.1, (l.keep y).2.2]
          unfold seenD
          simp only [e2, List.length_map]
          unfold sibs
          exact (List.Sublist.filter _ List.filter_sublist).length_le
        omega
      by_cases k1 : (tirAt d t).kind = 1
      · obtain ⟨p, hp, hpi, hpt, hg⟩ := hpar m hm (by rw [hkm, k1]; decide)
        have hcov : coversS (spansOf (sibs (seenD d S F).notes t m.par)) ⟨(getN (seenD d S F).notes m.par).1.fr, (getN (seenD d S F).notes m.par).1.tO⟩ = true := by
          rw [hg, coversS_iff]
          have hpk := note_of h.good hp.1
          obtain ⟨u, eu⟩ : ∃ u : Nat, p.tier = u := ⟨p.tier.toNat, by have := hpk.t0; omega⟩
          have hpal : alK (tirAt d p.tier).kind = true := by
            have := h.upal ht' (by rw [k1]; decide) (by rw [k1]; rfl)
            rw [hpt, hmt]
            have h0 := (h.up ht' (by rw [k1]; decide)).1
            rwa [show ((tirAt d ↑t).par.toNat : Int) = (tirAt d ↑t).par by omega] at this
          refine ⟨(l.al p hp hpal).1, fun v v1 v2 => ?_⟩
          obtain ⟨c, hc, c1, c2, c3, c4⟩ := l.gap m p hm hp hpi (by rw [hkm, k1]) v v1 v2
          exact ⟨⟨(F c).fr, (F c).tO⟩, List.mem_map.2 ⟨F c, l.sib.2 ⟨c, hc, rfl, by rw [c1, hmt], c2⟩, rfl⟩, (l.al c hc (by rw [c1, hkm, k1]; rfl)).1, c3, c4⟩
        rw [hcov]
        simp [k1]
      · by_cases k3 : (tirAt d t).kind = 3
        · have hrk : rankP (sibs (seenD d S F).notes t m.par) = true := by
            rw [rankP_true]
            intro j hj
            rw [← hmt] at hj
            obtain ⟨c, hc, c1, c2, c3⟩ := l.ser m hm (by rw [hkm, k3]) j hj
            rw [List.any_eq_true]
            exact ⟨F c, l.sib.2 ⟨c, hc, rfl, by rw [c1, hmt], c2⟩, by simpa using c3⟩
          rw [hrk]
          simp [k3]
        · by_cases k4 : (tirAt d t).kind = 4
          · have := hlab k4
            simp [k4]
            omega
          · simp [k1, k3, k4]
end Go.V

/- Plain law of chapter 46: which notes a viewer sees; what is seen of a right document is right, and is seen of itself. -/
namespace Go.V
open Go Go.Proofs

/-- The nearest note with times. -/
def alN (d : Dc) (t : Nat) (n : Nt) : Nt :=
  if alK (tirAt d t).kind = true then n else if h : (tirAt d t).par.toNat < t then alN d (tirAt d t).par.toNat (upN d n) else n
termination_by t
def whereN (d : Dc) (n : Nt) : Sp := ⟨(alN d n.tier.toNat n).fr, (alN d n.tier.toNat n).tO⟩
def seenB (d : Dc) (l : List Sp) (n : Nt) : Bool := coversS l (whereN d n)
theorem where_self {d : Dc} {n : Nt} (h0 : 0 ≤ n.tier) (hal : alK (tirAt d n.tier).kind = true) : whereN d n = ⟨n.fr, n.tO⟩ := by
  have e : ((n.tier.toNat : Nat) : Int) = n.tier := by omega
  unfold whereN
  rw [alN, e, if_pos hal]
theorem where_up {d : Dc} (h : Rgt d) {n p : Nt} (hn : n ∈ d.notes) (hp : p ∈ d.notes) (e : p.id = n.par) (hal : alK (tirAt d n.tier).kind = false) : whereN d n = whereN d p := by
  obtain ⟨t, htl, et⟩ := h.tt hn
  rw [et] at hal
  have hk : (tirAt d t).kind ≠ 0 := fun e => by rw [e] at hal; cases hal
  have hu := h.up htl hk
  obtain ⟨p1, p2⟩ := h.parent ⟨hn, et⟩ htl hk
  have hup := h.upof hn hp e
  rw [hup] at p1
  have hpt : p.tier.toNat = (tirAt d t).par.toNat := by have := p1.2; omega
  unfold whereN
  rw [et, Int.toNat_natCast, alN, if_neg (by rw [hal]; decide), dif_pos hu.2, hup, hpt]
/-- The notes that are kept. -/
inductive KeptP (d : Dc) (l : List Sp) : Nt → Prop
  | seen (n : Nt) : n ∈ d.notes → seenB d l n = true → KeptP d l n
  | up (m p : Nt) : KeptP d l m → p ∈ d.notes → p.id = m.par → KeptP d l p
  | sib (m c : Nt) : KeptP d l m → c ∈ d.notes → c.tier = m.tier → c.par = m.par → (tirAt d m.tier).kind = 1 → KeptP d l c
theorem KeptP.mem {d : Dc} {l : List Sp} {n : Nt} (h : KeptP d l n) : n ∈ d.notes := by
  cases h with
  | seen _ h1 _ => exact h1
  | up _ _ _ h1 _ => exact h1
  | sib _ _ _ h1 _ _ _ => exact h1
theorem al_up {d : Dc} (h : Rgt d) {m p : Nt} (hm : m ∈ d.notes) (hp : p ∈ d.notes) (e : p.id = m.par) (hk : (tirAt d m.tier).kind ≠ 0) (hal : alK (tirAt d m.tier).kind = true) : alK (tirAt d p.tier).kind = true := by
  obtain ⟨t, htl, et⟩ := h.tt hm
  rw [et] at hk hal
  obtain ⟨p1, p2⟩ := h.parent ⟨hm, et⟩ htl hk
  have hup := h.upof hm hp e
  rw [hup] at p1
  have := h.upal htl hk hal
  rw [p1.2]; exact this
/-- What is kept without times is seen. -/
theorem KeptP.flat {d : Dc} (h : Rgt d) {l : List Sp} {n : Nt} (hk : KeptP d l n) (hal : alK (tirAt d n.tier).kind = false) : seenB d l n = true := by
  induction hk with
  | seen _ _ h2 => exact h2
  | up m p hm hp e ih =>
    have hmm := hm.mem
    by_cases hk0 : (tirAt d m.tier).kind = 0
    · have hz : m.par = 0 := (place_iff (note_of h.good hmm).place).1 hk0
      have := (h.nok p hp).lo
      omega
    · have hmal : alK (tirAt d m.tier).kind = false := by
        cases hc : alK (tirAt d m.tier).kind with
        | false => rfl
        | true => rw [al_up h hmm hp e hk0 hc] at hal; cases hal
      have := ih hmal
      unfold seenB at this ⊢
      rwa [where_up h hmm hp e hmal] at this
  | sib m c hm hc e1 e2 k1 ih => rw [e1, k1] at hal; cases hal
def clr (d : Dc) (l : List Sp) (n : Nt) : Nt := if seenB d l n = true then n else { n with text := ⟨#[]⟩ }
theorem clr_keep (d : Dc) (l : List Sp) (m : Nt) : (clr d l m).id = m.id ∧ (clr d l m).tier = m.tier ∧ (clr d l m).par = m.par ∧ (clr d l m).fr = m.fr ∧ (clr d l m).tO = m.tO ∧ (clr d l m).rank = m.rank := by
  unfold clr; split <;> exact ⟨rfl, rfl, rfl, rfl, rfl, rfl⟩
theorem textE_empty : textE ⟨#[]⟩ = 0 := by decide +kernel
noncomputable def viewE (d : Dc) (l : List Sp) : Dc := seenD d (KeptP d l) (clr d l)
theorem kept_sibs {d : Dc} (h : Rgt d) {l : List Sp} {m c : Nt} (hm : KeptP d l m) (hc : c ∈ d.notes) (e1 : c.tier = m.tier) (e2 : c.par = m.par) (k3 : (tirAt d m.tier).kind = 3) : KeptP d l c := by
  have hmm := hm.mem
  have hal : alK (tirAt d m.tier).kind = false := by rw [k3]; rfl
  have hs := hm.flat h hal
  obtain ⟨t, htl, et⟩ := h.tt hmm
  obtain ⟨p1, p2⟩ := h.parent ⟨hmm, et⟩ htl (by rw [← et, k3]; decide)
  refine .seen c hc ?_
  unfold seenB at hs ⊢
  rw [where_up h hmm p1.1 p2 hal] at hs
  rw [where_up h hc p1.1 (by rw [p2, e2]) (by rw [e1]; exact hal)]
  exact hs
theorem view_viw {d : Dc} (h : Rgt d) (l : List Sp) : Viw d (KeptP d l) (clr d l) where
  keep := fun m => ⟨(clr_keep d l m).1, (clr_keep d l m).2.1, (clr_keep d l m).2.2.1⟩
  text := fun m hm => by
    unfold clr
    split
    · have he := (h.nok m hm.1).e
      rw [noteE_place] at he
      by_cases e : textE m.text = 0
      · exact e
      · rw [if_neg e] at he; exact absurd he e
    · exact textE_empty
  up := fun m hm p hp e => .up m p hm.2 hp e
  al := fun m hm hal => by
    obtain ⟨a1, a2, a3⟩ := h.span hm.1 hal
    have := clr_keep d l m
    rw [this.2.2.2.1, this.2.2.2.2.1]
    exact ⟨a1, a2, fun hk p hp e => by
      have := clr_keep d l p
      rw [this.2.2.2.1, this.2.2.2.2.1]; exact a3 hk p hp.1 e⟩
  flat := fun m hm hal => by
    have := clr_keep d l m
    rw [this.2.2.2.1, this.2.2.2.2.1]; exact flat_of (note_of h.good hm.1) hal
  rank := fun m hm => by
    rw [(clr_keep d l m).2.2.2.2.2]; exact place_rank (note_of h.good hm.1).place
  ov := fun a b ha hb hne ht hp hal => by
    have := h.nm ha.1 hb.1 hne ht hp hal
    have e1 := clr_keep d l a
    have e2 := clr_keep d l b
    unfold NM
    rw [e1.2.2.2.1, e1.2.2.2.2.1, e2.2.2.2.1, e2.2.2.2.2.1]
    omega
  gap := fun m p hm hp e k1 v v1 v2 => by
    have e1 := clr_keep d l p
    rw [e1.2.2.2.1] at v1
    rw [e1.2.2.2.2.1] at v2
    obtain ⟨c, hc, c1, c2, c3, c4⟩ := h.cover hm.1 hp.1 e k1 v1 v2
    have e2 := clr_keep d l c
    exact ⟨c, ⟨hc, .sib m c hm.2 hc c1 c2 k1⟩, c1, c2, by rw [e2.2.2.2.1]; exact c3, by rw [e2.2.2.2.2.1]; exact c4⟩
  ser := fun m hm k3 j hj => by
    have hlen : (sibs (seenD d (KeptP d l) (clr d l)).notes m.tier m.par).length ≤ (sibs d.notes m.tier m.par).length := by
      have e2 : ∀ L : List Nt, sibs (L.map (clr d l)) m.tier m.par = (sibs L m.tier m.par).map (clr d l) := fun L => by
        unfold sibs
        rw [List.filter_map]
        congr 1
        exact List.filter_congr fun y _ => by simp only [Function.comp, (clr_keep d l y).2.1, (clr_keep d l y).2.2.1]
      unfold seenD
      simp only [e2, List.length_map]
      unfold sibs
      exact (List.Sublist.filter _ List.filter_sublist).length_le
    obtain ⟨c, hc, c1, c2, c3⟩ := h.series hm.1 k3 (Nat.lt_of_lt_of_le hj hlen)
    exact ⟨c, ⟨hc, kept_sibs h hm.2 hc c1 c2 k3⟩, c1, c2, by rw [(clr_keep d l c).2.2.2.2.2]; exact c3⟩
theorem view_right {d : Dc} (h : Rgt d) (l : List Sp) : Rgt (viewE d l) := (view_viw h l).right h
end Go.V

/- Plain law of chapter 46: what is seen with fewer times is what is seen of what is seen with more. -/
namespace Go.V
open Go Go.Proofs

def Less (l l' : List Sp) : Prop := ∀ s, coversS l s = true → coversS l' s = true
theorem Less.refl (l : List Sp) : Less l l := fun _ h => h
theorem less_append (l m : List Sp) : Less l (l ++ m) := fun s h => by
  rw [coversS_iff] at h ⊢
  refine ⟨h.1, fun v v1 v2 => ?_⟩
  obtain ⟨y, hy, h2⟩ := h.2 v v1 v2
  exact ⟨y, List.mem_append.2 (.inl hy), h2⟩
theorem KeptP.mono {d : Dc} {l l' : List Sp} (hl : Less l l') {n : Nt} (h : KeptP d l n) : KeptP d l' n := by
  induction h with
  | seen n h1 h2 => exact .seen n h1 (hl _ h2)
  | up m p _ hp e ih => exact .up m p ih hp e
  | sib m c _ hc e1 e2 k ih => exact .sib m c ih hc e1 e2 k
theorem view_mem {d : Dc} {l : List Sp} {x : Nt} : x ∈ (viewE d l).notes ↔ ∃ m, KeptP d l m ∧ clr d l m = x := by
  unfold viewE
  rw [Viw.mem]
  exact ⟨fun ⟨m, hm, e⟩ => ⟨m, hm.2, e⟩, fun ⟨m, hm, e⟩ => ⟨m, ⟨hm.mem, hm⟩, e⟩⟩
theorem view_get {d : Dc} (h : Rgt d) {l : List Sp} {m : Nt} (hm : KeptP d l m) : getN (viewE d l).notes m.id = (clr d l m, true) := by
  have := inc_getN ((view_viw h l).inc h) (view_mem.2 ⟨m, hm, rfl⟩)
  rwa [(clr_keep d l m).1] at this
theorem alN_eq (d : Dc) (t : Nat) (n : Nt) : alN d t n = if alK (tirAt d t).kind = true then n else if h : (tirAt d t).par.toNat < t then alN d (tirAt d t).par.toNat (upN d n) else n := by rw [alN]
theorem alN_view {d : Dc} (h : Rgt d) {l : List Sp} : ∀ (t : Nat) (m : Nt), m.tier = t → KeptP d l m → alN (viewE d l) t (clr d l m) = clr d l (alN d t m) := by
  intro t
  induction t using Nat.strongRecOn with
  | _ t ih =>
    intro m hmt hm
    have hv : alN (viewE d l) t (clr d l m) = if alK (tirAt d t).kind = true then clr d l m else if h : (tirAt d t).par.toNat < t then alN (viewE d l) (tirAt d t).par.toNat (upN (viewE d l) (clr d l m)) else clr d l m := alN_eq _ _ _
    rw [hv, alN_eq d t m]
    by_cases hal : alK (tirAt d t).kind = true
    · rw [if_pos hal, if_pos hal]
    · rw [if_neg hal, if_neg hal]
      have hmm := hm.mem
      have htl : t < d.tiers.length := by
        obtain ⟨u, hu, eu⟩ := h.tt hmm
        omega
      have hk : (tirAt d t).kind ≠ 0 := fun e => hal (by rw [e]; rfl)
      have hu := h.up htl hk
      obtain ⟨p1, p2⟩ := h.parent ⟨hmm, hmt⟩ htl hk
      rw [dif_pos hu.2, dif_pos hu.2]
      have hpk : KeptP d l (upN d m) := .up m _ hm p1.1 p2
      have hup : upN (viewE d l) (clr d l m) = clr d l (upN d m) := by
        have hg := view_get h hpk
        rw [p2] at hg
        show (getN (viewE d l).notes (clr d l m).par).1 = _
        rw [(clr_keep d l m).2.2.1, hg]
      rw [hup]
      exact ih _ hu.2 _ p1.2 hpk
theorem where_view {d : Dc} (h : Rgt d) {l : List Sp} {m : Nt} (hm : KeptP d l m) : whereN (viewE d l) (clr d l m) = whereN d m := by
  obtain ⟨t, htl, et⟩ := h.tt hm.mem
  unfold whereN
  rw [(clr_keep d l m).2.1, et, Int.toNat_natCast, alN_view h t m et hm]
  have := clr_keep d l (alN d t m)
  rw [this.2.2.2.1, this.2.2.2.2.1]
theorem seen_view {d : Dc} (h : Rgt d) {l l' : List Sp} {m : Nt} (hm : KeptP d l' m) : seenB (viewE d l') l (clr d l' m) = seenB d l m := by
  unfold seenB
  rw [where_view h hm]
theorem kept_view {d : Dc} (h : Rgt d) {l l' : List Sp} (hl : Less l l') {m : Nt} (hm : KeptP d l m) : KeptP (viewE d l') l (clr d l' m) := by
  induction hm with
  | seen n h1 h2 =>
    have hk : KeptP d l' n := .seen n h1 (hl _ h2)
    exact .seen _ (view_mem.2 ⟨n, hk, rfl⟩) (by rw [seen_view h hk]; exact h2)
  | up m p hm hp e ih =>
    have hk : KeptP d l' p := .up m p (hm.mono hl) hp e
    exact .up _ _ ih (view_mem.2 ⟨p, hk, rfl⟩) (by rw [(clr_keep d l' p).1, (clr_keep d l' m).2.2.1]; exact e)
  | sib m c hm hc e1 e2 k ih =>
    have hk : KeptP d l' c := .sib m c (hm.mono hl) hc e1 e2 k
    refine .sib _ _ ih (view_mem.2 ⟨c, hk, rfl⟩) ?_ ?_ ?_
    · rw [(clr_keep d l' c).2.1, (clr_keep d l' m).2.1]; exact e1
    · rw [(clr_keep d l' c).2.2.1, (clr_keep d l' m).2.2.1]; exact e2
    · rw [(clr_keep d l' m).2.1]; exact k
theorem view_kept {d : Dc} (h : Rgt d) {l l' : List Sp} {x : Nt} (hx : KeptP (viewE d l') l x) : ∃ m, KeptP d l m ∧ clr d l' m = x := by
  induction hx with
  | seen x h1 h2 =>
    obtain ⟨m, hm, rfl⟩ := view_mem.1 h1
    rw [seen_view h hm] at h2
    exact ⟨m, .seen m hm.mem h2, rfl⟩
  | up x y _ hy e ih =>
    obtain ⟨m, hm, rfl⟩ := ih
    obtain ⟨p, hp, rfl⟩ := view_mem.1 hy
    rw [(clr_keep d l' p).1, (clr_keep d l' m).2.2.1] at e
    exact ⟨p, .up m p hm hp.mem e, rfl⟩
  | sib x y _ hy e1 e2 k ih =>
    obtain ⟨m, hm, rfl⟩ := ih
    obtain ⟨c, hc, rfl⟩ := view_mem.1 hy
    rw [(clr_keep d l' c).2.1, (clr_keep d l' m).2.1] at e1
    rw [(clr_keep d l' c).2.2.1, (clr_keep d l' m).2.2.1] at e2
    rw [(clr_keep d l' m).2.1] at k
    exact ⟨c, .sib m c hm hc.mem e1 e2 k, rfl⟩
theorem view_view {d : Dc} (h : Rgt d) {l l' : List Sp} (hl : Less l l') : viewE (viewE d l') l = viewE d l := by
  have hn : ((viewE d l').notes.filter fun m => @decide (KeptP (viewE d l') l m) (Classical.propDecidable _)).map (clr (viewE d l') l) = (d.notes.filter fun m => @decide (KeptP d l m) (Classical.propDecidable _)).map (clr d l) := by
    have e1 : (viewE d l').notes = (d.notes.filter fun m => @decide (KeptP d l' m) (Classical.propDecidable _)).map (clr d l') := rfl
    rw [e1, List.filter_map, List.map_map, List.filter_filter]
    have e2 : (d.notes.filter fun m => ((fun m => @decide (KeptP (viewE d l') l m) (Classical.propDecidable _)) ∘ clr d l') m && @decide (KeptP d l' m) (Classical.propDecidable _)) = d.notes.filter fun m => @decide (KeptP d l m) (Classical.propDecidable _) := by
      refine List.filter_congr fun m hm => ?_
      rw [Bool.eq_iff_iff]
      simp only [Function.comp, Bool.and_eq_true, decide_eq_true_eq]
      constructor
      · rintro ⟨h1, h2⟩
        obtain ⟨m', hm', e⟩ := view_kept h h1
        have : m' = m := ids_uniq h hm'.mem hm (by rw [← (clr_keep d l' m').1, ← (clr_keep d l' m).1, e])
        rw [← this]; exact hm'
      · intro hk
        exact ⟨kept_view h hl hk, hk.mono hl⟩
    rw [e2]
    refine List.map_congr_left fun m hm => ?_
    have hk : KeptP d l m := @of_decide_eq_true _ (Classical.propDecidable _) (List.mem_filter.1 hm).2
    simp only [Function.comp]
    have hs := seen_view (l := l) h (hk.mono hl)
    show (if seenB (viewE d l') l (clr d l' m) = true then clr d l' m else { clr d l' m with text := ⟨#[]⟩ }) = if seenB d l m = true then m else { m with text := ⟨#[]⟩ }
    rw [hs]
    by_cases e : seenB d l m = true
    · rw [if_pos e, if_pos e]
      unfold clr
      rw [if_pos (show seenB d l' m = true from hl _ e)]
    · rw [if_neg e, if_neg e]
      unfold clr
      split <;> rfl
  show ({ viewE d l' with notes := _ } : Dc) = { d with notes := _ }
  rw [hn]
  rfl
/-- What is seen is clean. -/
theorem view_clean {d : Dc} (h : Rgt d) (l : List Sp) : ∀ x ∈ (viewE d l).notes, x.text ≠ ⟨#[]⟩ → seenB (viewE d l) l x = true := by
  intro x hx ht
  obtain ⟨m, hm, rfl⟩ := view_mem.1 hx
  rw [seen_view h hm]
  unfold clr at ht
  split at ht
  · rename_i e; exact e
  · exact absurd rfl ht
end Go.V

/- Plain law of chapter 46: what is seen with no times and with all; the texts that are seen. -/
namespace Go.V
open Go Go.Proofs

theorem in_len {d : Dc} (h : Rgt d) : ∀ (t : Nat), t < d.tiers.length → alK (tirAt d t).kind = true → ∀ a, inT d t a → a.tO ≤ d.len := by
  intro t
  induction t using Nat.strongRecOn with
  | _ t ih =>
    intro ht hal a ha
    have hi := h.inside ha hal
    by_cases hk : (tirAt d t).kind = 0
    · exact hi.2.2.1 hk
    · have hu := h.up ht hk
      have := ih _ hu.2 (by omega) (h.upal ht hk hal) _ (h.parent ha ht hk).1
      have := hi.2.2.2 hk
      omega
theorem alN_in {d : Dc} (h : Rgt d) : ∀ (t : Nat) (m : Nt), inT d t m → ∃ u : Nat, u < d.tiers.length ∧ alK (tirAt d u).kind = true ∧ inT d u (alN d t m) := by
  intro t
  induction t using Nat.strongRecOn with
  | _ t ih =>
    intro m hm
    have htl : t < d.tiers.length := by
      obtain ⟨u, hu, eu⟩ := h.tt hm.1
      have := hm.2
      omega
    rw [alN_eq]
    by_cases hal : alK (tirAt d t).kind = true
    · rw [if_pos hal]; exact ⟨t, htl, hal, hm⟩
    · have hk : (tirAt d t).kind ≠ 0 := fun e => hal (by rw [e]; rfl)
      have hu := h.up htl hk
      rw [if_neg hal, dif_pos hu.2]
      exact ih _ hu.2 _ (h.parent hm htl hk).1
/-- Where a note is, is a right span within the recording. -/
theorem where_right {d : Dc} (h : Rgt d) {m : Nt} (hm : m ∈ d.notes) : 0 ≤ (whereN d m).fr ∧ (whereN d m).fr < (whereN d m).tO ∧ (whereN d m).tO ≤ 86400000 ∧ (whereN d m).tO ≤ d.len := by
  obtain ⟨t, htl, et⟩ := h.tt hm
  obtain ⟨u, hu, hal, hin⟩ := alN_in h t m ⟨hm, et⟩
  have h1 := h.inside hin hal
  have h2 := in_len h u hu hal _ hin
  have h3 := (h.span hin.1 (by rw [hin.2]; exact hal)).1
  simp only [rightS, Bool.and_eq_true, decide_eq_true_eq] at h3
  unfold whereN
  rw [et, Int.toNat_natCast]
  exact ⟨h1.1, h1.2.1, h3.2, h2⟩
theorem view_none {d : Dc} (h : Rgt d) : viewE d [] = { d with notes := [] } := by
  have hno : ∀ n, ¬ KeptP d [] n := by
    intro n hk
    induction hk with
    | seen n h1 h2 =>
      have hw := where_right h h1
      unfold seenB at h2
      rw [coversS_iff] at h2
      obtain ⟨y, hy, _⟩ := h2.2 (whereN d n).fr (Int.le_refl _) (by omega)
      cases hy
    | up m p _ _ _ ih => exact ih
    | sib m c _ _ _ _ _ ih => exact ih
  show ({ d with notes := _ } : Dc) = { d with notes := [] }
  have : (d.notes.filter fun m => @decide (KeptP d [] m) (Classical.propDecidable _)) = [] := by
    rw [List.filter_eq_nil_iff]
    intro m _
    simp only [decide_eq_true_eq]
    exact hno m
  rw [this]; rfl
theorem view_whole {d : Dc} (h : Rgt d) {l : List Sp} (hc : coversS l ⟨0, d.len⟩ = true) : viewE d l = d := by
  rw [coversS_iff] at hc
  have hs : ∀ m ∈ d.notes, seenB d l m = true := fun m hm => by
    have hw := where_right h hm
    unfold seenB
    rw [coversS_iff]
    refine ⟨?_, fun v v1 v2 => hc.2 v (by show (0 : Int) ≤ v; omega) (by show v < d.len; omega)⟩
    simp only [Sp.rt, rightS, Bool.and_eq_true, decide_eq_true_eq]
    omega
  have e1 : (d.notes.filter fun m => @decide (KeptP d l m) (Classical.propDecidable _)) = d.notes := by
    rw [List.filter_eq_self]
    intro m hm
    simp only [decide_eq_true_eq]
    exact .seen m hm (hs m hm)
  have e2 : d.notes.map (clr d l) = d.notes := by
    conv => rhs; rw [← List.map_id d.notes]
    refine List.map_congr_left fun m hm => ?_
    unfold clr
    rw [if_pos (hs m hm)]; rfl
  show ({ d with notes := _ } : Dc) = d
  rw [e1, e2]
theorem view_seen {d : Dc} (h : Rgt d) {l : List Sp} {n : Nt} (hn : n ∈ d.notes) (hs : seenB d l n = true) : getN (viewE d l).notes n.id = (n, true) := by
  have := view_get h (.seen n hn hs : KeptP d l n)
  rwa [show clr d l n = n by unfold clr; rw [if_pos hs]] at this
theorem view_text {d : Dc} (h : Rgt d) {l : List Sp} {n : Nt} (hn : n ∈ d.notes) (hs : seenB d l n = false) : (getN (viewE d l).notes n.id).1.text = ⟨#[]⟩ := by
  cases hg : (getN (viewE d l).notes n.id).2 with
  | true =>
    obtain ⟨g1, g2⟩ := getN_mem hg
    obtain ⟨m, hm, e⟩ := view_mem.1 g1
    have : m = n := ids_uniq h hm.mem hn (by rw [← (clr_keep d l m).1, e, g2])
    subst this
    rw [← e]
    unfold clr
    rw [if_neg (by rw [hs]; decide)]
  | false =>
    unfold getN at hg ⊢
    split at hg
    · cases hg
    · rfl
/-- What is above a kept note is kept. -/
theorem kept_chain {d : Dc} {l : List Sp} {n p : Nt} (hk : KeptP d l n) (hp : p ∈ d.notes) (e : p.id = n.par) : KeptP d l p := .up n p hk hp e
theorem view_few {d : Dc} {l : List Sp} : (viewE d l).notes.length ≤ d.notes.length := by
  show (((d.notes.filter fun m => @decide (KeptP d l m) (Classical.propDecidable _)).map (clr d l))).length ≤ _
  rw [List.length_map]
  exact List.length_filter_le _ _
end Go.V

/- Plain law of chapter 9: a list of spans, sorted and joined, covers a span if one of its spans does. -/
namespace Go.V
open Go Go.Proofs

/-- Spans that touch are joined. -/
def unU : Sp → List Sp → List Sp
  | c, [] => [c]
  | c, s :: r => if s.fr ≤ c.tO then unU ⟨c.fr, max c.tO s.tO⟩ r else c :: unU s r
def unionP : List Sp → List Sp
  | [] => []
  | s :: r => unU s r
/-- As a loop does it. -/
def stepU (out : List Sp) (s : Sp) : List Sp :=
  match out.getLast? with
  | some x => if s.fr ≤ x.tO then out.set (out.length - 1) ⟨x.fr, max x.tO s.tO⟩ else out ++ [s]
  | none => out ++ [s]
theorem stepU_last (pre : List Sp) (c s : Sp) : stepU (pre ++ [c]) s = if s.fr ≤ c.tO then pre ++ [⟨c.fr, max c.tO s.tO⟩] else pre ++ [c] ++ [s] := by
  unfold stepU
  have e : (pre ++ [c]).getLast? = some c := by simp
  rw [e]
  simp only
  by_cases h : s.fr ≤ c.tO
  · rw [if_pos h, if_pos h, List.length_append, List.length_singleton, Nat.add_sub_cancel, List.set_append_right _ _ (Nat.le_refl _), Nat.sub_self]; rfl
  · rw [if_neg h, if_neg h]
theorem foldU : ∀ (L : List Sp) (pre : List Sp) (c : Sp), L.foldl stepU (pre ++ [c]) = pre ++ unU c L
  | [], pre, c => by simp [unU]
  | s :: r, pre, c => by
    rw [List.foldl_cons, stepU_last, unU]
    by_cases h : s.fr ≤ c.tO
    · rw [if_pos h, if_pos h, foldU r]
    · rw [if_neg h, if_neg h, foldU r, List.append_assoc]; rfl
theorem foldU_nil (L : List Sp) : L.foldl stepU [] = unionP L := by
  cases L with
  | nil => rfl
  | cons s r =>
    rw [List.foldl_cons]
    have : stepU [] s = [] ++ [s] := rfl
    rw [this, foldU]; rfl
theorem unU_in : ∀ (L : List Sp) (c : Sp), ∀ x ∈ unU c L, ∀ v, x.fr ≤ v → v < x.tO → ∃ y ∈ c :: L, y.fr ≤ v ∧ v < y.tO
  | [], c, x, hx, v, v1, v2 => by
    rw [unU, List.mem_singleton] at hx
    exact ⟨c, by simp, by rw [← hx]; exact ⟨v1, v2⟩⟩
  | s :: r, c, x, hx, v, v1, v2 => by
    rw [unU] at hx
    by_cases h : s.fr ≤ c.tO
    · rw [if_pos h] at hx
      obtain ⟨y, hy, y1, y2⟩ := unU_in r _ x hx v v1 v2
      rcases List.mem_cons.1 hy with rfl | hy
      · simp only at y1 y2
        by_cases hv : v < c.tO
        · exact ⟨c, by simp, y1, hv⟩
        · exact ⟨s, by simp, by omega, by omega⟩
      · exact ⟨y, by simp [hy], y1, y2⟩
    · rw [if_neg h] at hx
      rcases List.mem_cons.1 hx with rfl | hx
      · exact ⟨x, by simp, v1, v2⟩
      · obtain ⟨y, hy, y1, y2⟩ := unU_in r s x hx v v1 v2
        exact ⟨y, List.mem_cons_of_mem _ hy, y1, y2⟩
theorem unU_of : ∀ (L : List Sp) (c : Sp) (a b : Int), a < b → (c :: L).Pairwise (fun x y => x.fr ≤ y.fr) → (∀ v, a ≤ v → v < b → ∃ y ∈ c :: L, y.fr ≤ v ∧ v < y.tO) → ∃ x ∈ unU c L, x.fr ≤ a ∧ b ≤ x.tO
  | [], c, a, b, hab, hs, hc => by
    obtain ⟨y, hy, y1, y2⟩ := hc a (Int.le_refl _) hab
    obtain ⟨z, hz, z1, z2⟩ := hc (b - 1) (by omega) (by omega)
    rw [List.mem_singleton] at hy hz
    subst hy; subst hz
    exact ⟨z, by simp [unU], y1, by omega⟩
  | s :: r, c, a, b, hab, hs, hc => by
    rw [unU]
    have hs1 := List.pairwise_cons.1 hs
    have hs2 := List.pairwise_cons.1 hs1.2
    have hcs := hs1.1 s (by simp)
    by_cases h : s.fr ≤ c.tO
    · rw [if_pos h]
      refine unU_of r _ a b hab (List.pairwise_cons.2 ⟨fun y hy => hs1.1 y (by simp [hy]), hs2.2⟩) fun v v1 v2 => ?_
      obtain ⟨y, hy, y1, y2⟩ := hc v v1 v2
      rcases List.mem_cons.1 hy with rfl | hy
      · exact ⟨⟨y.fr, max y.tO s.tO⟩, by simp, y1, by simp only; omega⟩
      · rcases List.mem_cons.1 hy with rfl | hy
        · exact ⟨⟨c.fr, max c.tO y.tO⟩, by simp, by simp only; omega, by simp only; omega⟩
        · exact ⟨y, by simp [hy], y1, y2⟩
    · rw [if_neg h]
      have hlate : ∀ y ∈ s :: r, s.fr ≤ y.fr := fun y hy => by
        rcases List.mem_cons.1 hy with rfl | hy
        · exact Int.le_refl _
        · exact hs2.1 y hy
      by_cases ha : a < c.tO
      · obtain ⟨y, hy, y1, y2⟩ := hc a (Int.le_refl _) hab
        have hyc : c.fr ≤ a := by
          rcases List.mem_cons.1 hy with rfl | hy
          · exact y1
          · have := hlate y hy; omega
        refine ⟨c, by simp, hyc, Int.not_lt.1 fun hb => ?_⟩
        obtain ⟨z, hz, z1, z2⟩ := hc c.tO (by omega) hb
        rcases List.mem_cons.1 hz with rfl | hz
        · omega
        · have := hlate z hz; omega
      · obtain ⟨x, hx, x1, x2⟩ := unU_of r s a b hab hs1.2 fun v v1 v2 => by
          obtain ⟨y, hy, y1, y2⟩ := hc v v1 v2
          rcases List.mem_cons.1 hy with rfl | hy
          · omega
          · exact ⟨y, hy, y1, y2⟩
        exact ⟨x, List.mem_cons_of_mem _ hx, x1, x2⟩
/-- Covers, by sorting and joining. -/
theorem covers_union {l L : List Sp} (hp : ∀ y, y ∈ L ↔ y ∈ l ∧ y.rt = true) (hs : L.Pairwise fun x y => x.fr ≤ y.fr) (s : Sp) :
    (s.rt && (unionP L).any fun x => decide (x.fr ≤ s.fr) && decide (s.tO ≤ x.tO)) = coversS l s := by
  rw [Bool.eq_iff_iff, coversS_iff, Bool.and_eq_true]
  refine and_congr_right fun hr => ?_
  have hlt : s.fr < s.tO := by
    simp only [Sp.rt, rightS, Bool.and_eq_true, decide_eq_true_eq] at hr; omega
  rw [List.any_eq_true]
  constructor
  · rintro ⟨x, hx, hx2⟩ v v1 v2
    rw [Bool.and_eq_true, decide_eq_true_eq, decide_eq_true_eq] at hx2
    cases L with
    | nil => cases hx
    | cons c r =>
      obtain ⟨y, hy, y1, y2⟩ := unU_in r c x hx v (by omega) (by omega)
      have := (hp y).1 hy
      exact ⟨y, this.1, this.2, y1, y2⟩
  · intro hc
    cases L with
    | nil =>
      obtain ⟨y, hy, hyr, _⟩ := hc s.fr (Int.le_refl _) hlt
      have := (hp y).2 ⟨hy, hyr⟩
      cases this
    | cons c r =>
      obtain ⟨x, hx, x1, x2⟩ := unU_of r c s.fr s.tO hlt hs fun v v1 v2 => by
        obtain ⟨y, hy, hyr, y1, y2⟩ := hc v v1 v2
        exact ⟨y, (hp y).2 ⟨hy, hyr⟩, y1, y2⟩
      exact ⟨x, hx, by rw [Bool.and_eq_true, decide_eq_true_eq, decide_eq_true_eq]; exact ⟨x1, x2⟩⟩
end Go.V

/- Contracts of chapter 14: where a note is, by the program and by the reference. -/
namespace Go.V
open Go Go.Proofs

def whereD (d : Dc) (id : Int) : D := if (getN d.notes id).2 = true then .tup [.agg (whereN d (getN d.notes id).1).row, .bool true] else .tup [.agg [int 0, int 0], .bool false]
theorem up_get {d : Dc} (h : Rgt d) {n : Nt} (hn : n ∈ d.notes) (hal : alK (tirAt d n.tier).kind = false) : ∃ p, p ∈ d.notes ∧ getN d.notes n.par = (p, true) ∧ p.tier < n.tier ∧ whereN d p = whereN d n := by
  obtain ⟨t, htl, et⟩ := h.tt hn
  have hk : (tirAt d t).kind ≠ 0 := fun e => by rw [et, e] at hal; cases hal
  obtain ⟨p1, p2⟩ := h.parent ⟨hn, et⟩ htl hk
  have hu := h.up htl hk
  refine ⟨upN d n, p1.1, ?_, by rw [p1.2, et]; omega, (where_up h hn p1.1 p2 hal).symm⟩
  have := getN_of h p1.1
  rwa [p2] at this
set_option maxHeartbeats 4000000 in
theorem where_ok (d : Dc) (h : Rgt d) (id : Int) : PureR Tryz.prog 26 [docD d, int id] (whereD d id) := by
  have ht := tiers20 h
  have hfew := h.few
  refine pure_of_body mixed Tryz.func26 rfl call_26 ?_
  simp (decide := true) [Tryz.f26, docD, Dc.row, int]
  refine ECall.pure (by rfl) (get_ok d id (by omega)) (by simp (decide := true) [docD, Dc.row, int]) ?_
  have hm := getN_mem (l := d.notes) (id := id)
  unfold whereD
  obtain ⟨⟨n, ok⟩, eg⟩ : ∃ g, getN d.notes id = g := ⟨_, rfl⟩
  rw [eg] at hm ⊢
  cases ok with
  | false =>
    simp (decide := true) [getD', Nt.row, int]
    refine loop_rule mixed (fun x : Nt => { n := 35, next := 3, slots := [(2, .bp 0 0), (4, .bp 1 0), (6, .bp 2 0), (7, .d (.bool false))], own := [(0, .box 28 (docCells d)), (1, .box 39 [.d (int 0), .d (int 0)]), (2, .box 44 (noteCells x))] })
      (fun _ => True) (fun x => x.tier.toNat) n trivial (by simp (decide := true) [int]) ?_
    intro x _
    simp (decide := true) [int]
  | true =>
    have hn := (hm rfl).1
    simp (decide := true) [getD', Nt.row, int]
    refine loop_rule mixed (fun x : Nt => { n := 35, next := 3, slots := [(2, .bp 0 0), (4, .bp 1 0), (6, .bp 2 0), (7, .d (.bool true))], own := [(0, .box 28 (docCells d)), (1, .box 39 [.d (int 0), .d (int 0)]), (2, .box 44 (noteCells x))] })
      (fun x => x ∈ d.notes ∧ whereN d x = whereN d n) (fun x => x.tier.toNat) n ⟨hn, rfl⟩ (by simp (decide := true) [int]) ?_
    rintro x ⟨hx, hw⟩
    have h0 := (h.nok x hx).t0
    have h1 := (h.nok x hx).t1
    have hal := alignedT_ok d.tiers x.tier (by omega)
    rw [alT_at (d := d) h0 h1] at hal
    simp (decide := true) [int]
    refine ECall.pure (by rfl) hal (by simp (decide := true) [docD, Dc.row, int]) ?_
    cases hc : alK (tirAt d x.tier).kind with
    | true =>
      rw [← hw, where_self h0 hc]
      simp (decide := true) [int, Sp.row]
    | false =>
      obtain ⟨p, hp, hg, hlt, hpw⟩ := up_get h hx hc
      have hG := get_ok d x.par (by omega)
      rw [hg] at hG
      simp (decide := true) [int]
      refine ECall.pure (by rfl) hG (by simp (decide := true) [docD, Dc.row, int]) ?_
      simp (decide := true) [getD', Nt.row, int]
      exact ⟨p, ⟨hp, hpw.trans hw⟩, by have := (h.nok p hp).t0; omega, rfl, rfl, rfl, rfl, rfl, rfl, rfl⟩
end Go.V

/- Contracts of chapter 14: the notes above a note. -/
namespace Go.V
open Go Go.Proofs

/-- A note and those above it. -/
def chN (d : Dc) (t : Nat) (n : Nt) : List Nt := n :: (if h : (tirAt d t).kind ≠ 0 ∧ (tirAt d t).par.toNat < t then chN d (tirAt d t).par.toNat (upN d n) else [])
termination_by t
decreasing_by exact h.2
theorem chN_eq (d : Dc) (t : Nat) (n : Nt) : chN d t n = n :: (if h : (tirAt d t).kind ≠ 0 ∧ (tirAt d t).par.toNat < t then chN d (tirAt d t).par.toNat (upN d n) else []) := by rw [chN]
def chainN (d : Dc) (n : Nt) : List Nt := chN d n.tier.toNat n
def chainE (d : Dc) (r : Nt × Bool) : List Nt := if r.2 = true then chainN d r.1 else []
/-- One step up. -/
theorem chain_step {d : Dc} (h : Rgt d) {n : Nt} (hn : n ∈ d.notes) : chainN d n = n :: chainE d (getN d.notes n.par) ∧ ((getN d.notes n.par).2 = true → (getN d.notes n.par).1 ∈ d.notes ∧ (getN d.notes n.par).1.tier < n.tier) := by
  obtain ⟨t, htl, et⟩ := h.tt hn
  unfold chainN
  rw [et, Int.toNat_natCast, chN_eq]
  by_cases hk : (tirAt d t).kind = 0
  · have hz : n.par = 0 := h.root ⟨hn, et⟩ hk
    have hg : (getN d.notes n.par).2 = false := by
      cases hc : (getN d.notes n.par).2 with
      | false => rfl
      | true =>
        obtain ⟨g1, g2⟩ := getN_mem hc
        have := (h.nok _ g1).lo
        omega
    rw [dif_neg (fun e => e.1 hk)]
    refine ⟨?_, fun e => by rw [hg] at e; cases e⟩
    unfold chainE
    rw [hg]; rfl
  · have hu := h.up htl hk
    obtain ⟨p1, p2⟩ := h.parent ⟨hn, et⟩ htl hk
    have hg := getN_of h p1.1
    rw [p2] at hg
    rw [dif_pos ⟨hk, hu.2⟩, hg]
    refine ⟨?_, fun _ => ⟨p1.1, by have := p1.2; rw [this]; omega⟩⟩
    unfold chainE chainN
    rw [if_pos rfl, p1.2, Int.toNat_natCast]
theorem chain_mem {d : Dc} (h : Rgt d) : ∀ (k : Nat) (n : Nt), n ∈ d.notes → n.tier.toNat ≤ k → (∀ m ∈ chainN d n, m ∈ d.notes) ∧ (chainN d n).length ≤ n.tier.toNat + 1 := by
  intro k
  induction k with
  | zero =>
    intro n hn hk
    obtain ⟨h1, h2⟩ := chain_step h hn
    have hf : (getN d.notes n.par).2 = false := by
      cases hc : (getN d.notes n.par).2 with
      | false => rfl
      | true =>
        have := h2 hc
        have := (h.nok _ this.1).t0
        omega
    rw [h1]
    unfold chainE
    rw [hf]
    exact ⟨by simp [hn], by simp⟩
  | succ k ih =>
    intro n hn hk
    obtain ⟨h1, h2⟩ := chain_step h hn
    rw [h1]
    unfold chainE
    cases hc : (getN d.notes n.par).2 with
    | false => exact ⟨by simp [hn], by simp⟩
    | true =>
      obtain ⟨g1, g2⟩ := h2 hc
      have g0 := (h.nok _ g1).t0
      have := ih _ g1 (by omega)
      rw [if_pos rfl]
      refine ⟨fun m hm => ?_, by rw [List.length_cons]; omega⟩
      rcases List.mem_cons.1 hm with rfl | hm
      · exact hn
      · exact this.1 m hm
end Go.V

/- Contract of chapter 14: the notes above a note, by the reference. -/
namespace Go.V
open Go Go.Proofs

end Go.V

/- Contract of chapter 14: where a note is, by the reference. -/
namespace Go.V
open Go Go.Proofs

/-- The first note of a list that has times. -/
theorem chain_split {d : Dc} (h : Rgt d) {n : Nt} (hn : n ∈ d.notes) : chainN d n = n :: chainE d (getN d.notes n.par) := (chain_step h hn).1
end Go.V

/- Contract of chapter 46: whether a note is seen, by the reference. -/
namespace Go.V
open Go Go.Proofs

/-- Whether a note is seen, by its Id. -/
def seenE (d : Dc) (l : List Sp) (id : Int) : Bool := (getN d.notes id).2 && seenB d l (getN d.notes id).1
end Go.V

/- Contracts of chapter 46: the notes that are hidden, and whether a document is clean, by the reference. -/
namespace Go.V
open Go Go.Proofs

def hidN (d : Dc) (l : List Sp) (ns : List Nt) : List Nt := ns.filter fun n => !seenE d l n.id
theorem hidN_len (d : Dc) (l : List Sp) (ns : List Nt) : (hidN d l ns).length ≤ ns.length := List.length_filter_le _ _
theorem hidN_snoc {d : Dc} {l : List Sp} {ns : List Nt} {k : Nat} (h : k < ns.length) : hidN d l (ns.take (k + 1)) = hidN d l (ns.take k) ++ (if seenE d l ns[k].id = true then [] else [ns[k]]) := by
  unfold hidN
  rw [take_snoc' h, List.filter_append]
  by_cases e : seenE d l ns[k].id = true <;> simp [e]
end Go.V

/- Contract of chapter 46: whether a document is clean, by the reference. -/
namespace Go.V
open Go Go.Proofs

def clnE (d : Dc) (l : List Sp) : Bool := (hidN d l d.notes).all fun n => decide (n.text = ⟨#[]⟩)
end Go.V

/- Contract of chapter 46: small right documents and few spans. -/
namespace Go.V
open Go Go.Proofs

def light46 (d : Dc) (l : List Sp) : Bool := decide (l.length ≤ 30) && lightP d
theorem light46_ok (d : Dc) (l : List Sp) (hs : ∀ t ∈ d.tiers, t.name.size ≤ 9223372036854775807) (hx : ∀ n ∈ d.notes, n.text.size ≤ 9223372036854775807) :
    PureR Tryz.prog 4 [docD d, spansD l] (.bool (light46 d l)) := by
  refine pure_of_body mixed Tryz.func4 rfl call_4 ?_
  unfold light46
  by_cases h : l.length ≤ 30
  · have h' : (l.length : Int) ≤ 30 := by omega
    simp (decide := true) [Tryz.f4, docD, Dc.row, int, spansD, h, h']
    refine ECall.pure (by rfl) (light_ok d hs hx) (by simp (decide := true) [docD, Dc.row]) ?_
    simp (decide := true)
  · have h' : ¬ (l.length : Int) ≤ 30 := by omega
    simp (decide := true) [Tryz.f4, docD, Dc.row, int, spansD, h, h']
theorem light46_spec {d : Dc} {l : List Sp} (h : light46 d l = true) : l.length ≤ 30 ∧ d.notes.length ≤ 14 ∧ d.tiers.length ≤ 6 ∧ d.spk.length ≤ 6 ∧ Rgt d := by
  simp only [light46, lightP, Bool.and_eq_true, decide_eq_true_eq] at h
  exact ⟨h.1, h.2.1.1.1, h.2.1.1.2, h.2.1.2, right_iff.1 (by rw [check_eq]; exact h.2.2)⟩
end Go.V

/- Contract of chapter 9: whether spans cover a span, by the program, given the contract of Union. -/
namespace Go.V
open Go Go.Proofs

theorem lends_ds (look : Nat → Option Obj') : ∀ (l : List D), lends look (l.map .d) = some (l, false)
  | [] => rfl
  | d :: r => by simp only [List.map_cons, lends, lend, lends_ds look r]; rfl
def idxI {α : Type} (p : α → Bool) (l : List α) : Int := match l.findIdx? p with
  | some k => k
  | none => -1
theorem idxI_hit {α : Type} {p : α → Bool} {l : List α} {k : Nat} (h : k < l.length) (hp : ∀ e ∈ l.take k, p e = false) (he : p l[k] = true) : l.findIdx? p = some k := by
  rw [List.findIdx?_eq_some_iff_getElem]
  refine ⟨h, he, fun j hj => ?_⟩
  have := hp l[j] (by rw [List.mem_take_iff_getElem]; exact ⟨j, by omega, rfl⟩)
  simpa using this
theorem idxI_miss {α : Type} {p : α → Bool} {l : List α} (hp : ∀ e ∈ l, p e = false) : l.findIdx? p = none := by
  rw [List.findIdx?_eq_none_iff]; exact hp
theorem indexS_ok (l : List Sp) (hl : l.length < 2^62) (f : Nat) (caps : List D) (p : Sp → Bool) (hf : ∀ x ∈ l, PureR Tryz.prog f (.agg x.row :: caps) (.bool (p x))) :
    PureR Tryz.prog 65 [spansD l, .fn f caps] (int (idxI p l)) := by
  refine pure_of_body mixed Tryz.func65 rfl call_65 ?_
  simp [Tryz.f65, spansD]
  refine loop_rule mixed (fun k : Nat => { n := 19, next := 0, slots := [(0, .d (spansD l)), (1, .d (.fn f caps)), (6, .d (spansD l)), (7, .d (.int .i64 l.length)), (8, .d (.int .i64 k))], own := [] })
    (fun k => k ≤ l.length ∧ ∀ e ∈ l.take k, p e = false) (fun k => l.length - k) 0 (by simp) (by simp [spansD]) ?_
  intro k ⟨hk, hp⟩
  by_cases hlt : k < l.length
  · have e1 : l[k]? = some l[k] := List.getElem?_eq_getElem hlt
    simp (decide := true) [spansD, Sp.row, int, e1, hlt, I64]
    refine ECall.pure (lent := false) (by simp [lendsArgs, lends_ds]; rfl) (hf l[k] (List.getElem_mem hlt)) (by simp) ?_
    simp (decide := true) [spansD, I64]
    refine ⟨fun h => ?_, fun h => ⟨by omega, k + 1, ⟨hlt, take_all' hlt hp h⟩, by omega, by omega⟩⟩
    simp [idxI, idxI_hit hlt hp h, int]
  · have : k = l.length := by omega
    subst this
    simp (decide := true) [spansD, int]
    simp [idxI, idxI_miss (by simpa using hp)]
theorem idxI_any {α : Type} (p : α → Bool) (l : List α) : decide (0 ≤ idxI p l) = l.any p := by
  unfold idxI
  cases h : l.findIdx? p with
  | none =>
    rw [List.findIdx?_eq_none_iff] at h
    have : l.any p = false := by rw [List.any_eq_false]; intro x hx; simp [h x hx]
    rw [this]; rfl
  | some k =>
    rw [List.findIdx?_eq_some_iff_getElem] at h
    obtain ⟨h1, h2, _⟩ := h
    have : l.any p = true := by rw [List.any_eq_true]; exact ⟨_, List.getElem_mem h1, h2⟩
    rw [this]
    simp
def inSp (s x : Sp) : Bool := decide (x.fr ≤ s.fr) && decide (s.tO ≤ x.tO)
theorem covers1_ok (x s : Sp) : PureR Tryz.prog 43 [.agg x.row, .ptr s.row] (.bool (inSp s x)) := by
  refine pure_of_body mixed Tryz.func43 rfl call_43 ?_
  unfold inSp
  by_cases h : x.fr ≤ s.fr <;> by_cases h2 : s.tO ≤ x.tO <;> simp (decide := true) [Tryz.f43, Sp.row, int, h, h2]
theorem contS_ok (l : List Sp) (hl : l.length < 2^62) (s : Sp) : PureR Tryz.prog 41 [spansD l, .fn 43 [.ptr s.row]] (.bool (l.any (inSp s))) := by
  refine pure_of_body mixed Tryz.func41 rfl call_41 ?_
  simp (decide := true) [Tryz.f41, spansD]
  refine ECall.pure (by rfl) (indexS_ok l hl _ [.ptr s.row] (inSp s) fun x _ => covers1_ok x s) (fun _ => rfl) ?_
  have := idxI_any (inSp s) l
  simp (decide := true) [int]
  exact this
theorem spanCovers_of (l U : List Sp) (hUl : U.length < 2^62) (hU : PureR Tryz.prog 42 [spansD l] (spansD U)) (s : Sp) :
    PureR Tryz.prog 27 [spansD l, .agg s.row] (.bool (s.rt && U.any (inSp s))) := by
  refine pure_of_body mixed Tryz.func27 rfl call_27 ?_
  simp (decide := true) [Tryz.f27, spansD, Sp.row, int]
  refine ECall.pure (by rfl) (right_ok s.fr s.tO) (by simp) ?_
  show _
  cases hr : rightS s.fr s.tO with
  | false => simp (decide := true) [Sp.rt, hr]
  | true =>
    simp (decide := true) [Sp.rt, hr]
    refine ECall.pure (by rfl) hU (by simp (decide := true) [spansD, Sp.row, int]) ?_
    simp (decide := true) [spansD, Sp.row, int]
    refine ECall.pure (by rfl) (contS_ok U hUl s) (fun _ => rfl) ?_
    simp (decide := true) [spansD, Sp.row, int]
end Go.V
