/- Contracts and plain laws of this seat: part MC. It needs no conditions. -/
import Derived.Test.YtnflnfmbgghbeaaGreatDoorM8
import Derived.Test.YtnflnfmbgghbeaaGreatDoorM7
import Derived.Test.YtnflnfmbgghbeaaGreatDoorMB
set_option linter.unusedVariables false
set_option linter.unusedSimpArgs false
set_option linter.unusedSectionVars false
set_option maxRecDepth 100000
namespace Go.V
open Go Go.Proofs
theorem chk_some {d : Dc} {r : Dc} (h : chk d = (r, 0)) : checkE d = 0 ∧ r = d := by
  unfold chk at h
  split at h
  · rename_i e; cases h; exact ⟨e, rfl⟩
  · rename_i e; exact absurd (congrArg Prod.snd h) e
end Go.V
namespace Go.V
open Go Go.Proofs
section
variable {d : Dc}
theorem Rgt.inside (h : Rgt d) {t : Nat} {n : Nt} (hn : inT d t n) (hal : alK (tirAt d t).kind = true) :
    0 ≤ n.fr ∧ n.fr < n.tO ∧ ((tirAt d t).kind = 0 → n.tO ≤ d.len) ∧ ((tirAt d t).kind ≠ 0 → (upN d n).fr ≤ n.fr ∧ n.tO ≤ (upN d n).tO) := by
  have hk := note_of h.good hn.1
  have hw := (place_iff hk.place).2.2
  unfold withinP at hw
  rw [if_pos (by rw [alT_at hk.t0 hk.t1, hn.2]; exact hal), Bool.and_eq_true, hn.2] at hw
  obtain ⟨h1, h2⟩ := hw
  simp only [rightS, Bool.and_eq_true, decide_eq_true_eq] at h1
  refine ⟨h1.1.1, h1.1.2, fun e => ?_, fun e => ?_⟩
  · rw [if_pos e, Bool.and_eq_true, decide_eq_true_eq, decide_eq_true_eq] at h2
    exact h2.2
  · rw [if_neg e, Bool.and_eq_true, decide_eq_true_eq, decide_eq_true_eq] at h2
    exact h2
theorem Rgt.upal (h : Rgt d) {t : Nat} (ht : t < d.tiers.length) (hk : (tirAt d t).kind ≠ 0) (hal : alK (tirAt d t).kind = true) : alK (tirAt d (tirAt d t).par.toNat).kind = true := by
  have hu := h.up ht hk
  rw [tirAt_nat d ht] at hk hal hu ⊢
  have := (oneE_parent (h.good.tiers t ht) hk).2.2 hal
  rw [List.getElem?_take, if_pos hu.2] at this
  unfold tirAt
  rw [Int.toNat_natCast]
  exact this
theorem Rgt.sibs_apart (h : Rgt d) {t : Nat} (ht : t < d.tiers.length) (hal : alK (tirAt d t).kind = true) {a b : Nt} (ha : inT d t a) (hb : inT d t b) (hp : a.par = b.par) (hlt : a.fr < b.fr) : a.tO ≤ b.fr := by
  have hov := (ter_iff.1 (h.ter t ht)).1 a (inT_iff.2 ha)
  have hma : a ∈ sibs d.notes t a.par := by unfold sibs; rw [List.mem_filter]; exact ⟨ha.1, by simp [ha.2]⟩
  have hmb : b ∈ sibs d.notes t a.par := by unfold sibs; rw [List.mem_filter]; exact ⟨hb.1, by simp [hb.2, hp]⟩
  unfold ovR at hov
  rw [hal, Bool.true_and, over_pair] at hov
  have hra := h.inside ha hal
  have hrb := h.inside hb hal
  have hnm : NM a b := by
    generalize sibs d.notes t a.par = S at hov hma hmb
    obtain ⟨i, hi, rfl⟩ := List.mem_iff_getElem.1 hma
    obtain ⟨j, hj, rfl⟩ := List.mem_iff_getElem.1 hmb
    have hpw := List.pairwise_iff_getElem.1 hov
    rcases Nat.lt_trichotomy i j with h1 | rfl | h1
    · exact hpw i j hi hj h1
    · omega
    · exact (hpw j i hj hi h1).symm
  unfold NM at hnm
  omega
end
end Go.V
namespace Go.V
open Go Go.Proofs
theorem Rgt.parin {d : Dc} (h : Rgt d) {n : Nt} (hn : n ∈ d.notes) : n.par = 0 ∨ ∃ p ∈ d.notes, p.id = n.par := by
  have hok := note_of h.good hn
  obtain ⟨t, et⟩ : ∃ t : Nat, n.tier = t := ⟨n.tier.toNat, by have := hok.t0; omega⟩
  have ht : t < d.tiers.length := by have := hok.t1; omega
  by_cases hk : (tirAt d t).kind = 0
  · exact .inl (h.root ⟨hn, et⟩ hk)
  · obtain ⟨h1, h2⟩ := h.parent ⟨hn, et⟩ ht hk
    exact .inr ⟨_, h1.1, h2⟩
theorem mem_insI {l : List Nt} {n x : Nt} : x ∈ insN l n ↔ x = n ∨ x ∈ l := by
  unfold insN insertL
  rw [List.mem_append, List.mem_cons]
  constructor
  · rintro (h | h | h)
    · exact .inr (List.mem_of_mem_take h)
    · exact .inl h
    · exact .inr (List.mem_of_mem_drop h)
  · rintro (h | h)
    · exact .inr (.inl h)
    · rw [← List.take_append_drop (posI l n) l, List.mem_append] at h
      exact h.elim .inl (fun h => .inr (.inr h))
theorem insN_filt {l : List Nt} {n : Nt} {F : Nt → Nt} {b : Int} (hF : (F n).id = b) : ((insN l n).map F).filter (fun x => !decide (x.id = b)) = (l.map F).filter fun x => !decide (x.id = b) := by
  unfold insN insertL
  rw [List.map_append, List.map_cons, List.filter_append, List.filter_cons_of_neg (by simp [hF]), ← List.filter_append, ← List.map_append, List.take_append_drop]
theorem tiers20 {d : Dc} (h : Rgt d) : d.tiers.length ≤ 20 := by
  have := h.tiers
  unfold tiersE at this
  split at this
  · cases this
  · omega
end Go.V
