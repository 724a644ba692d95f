/- Contracts and plain laws of this seat: part MC. It needs no conditions. -/
import Derived.Test.YtnflnfmbgghbeaaGreatDoorM8
import Derived.Test.YtnflnfmbgghbeaaGreatDoorM7
import Derived.Test.YtnflnfmbgghbeaaGreatDoorMB
set_option linter.unusedVariables false
set_option linter.unusedSimpArgs false
set_option linter.unusedSectionVars false
set_option maxRecDepth 100000
namespace Go.V
open Go Go.Proofs
theorem chk_some {d : Dc} {r : Dc} (h : chk d = (r, 0)) : checkE d = 0 ∧ r = d := by
  unfold chk at h
  split at h
  · rename_i e; cases h; exact ⟨e, rfl⟩
  · rename_i e; exact absurd (congrArg Prod.snd h) e
end Go.V
namespace Go.V
open Go Go.Proofs
section
variable {d : Dc}
theorem Rgt.inside (h : Rgt d) {t : Nat} {n : Nt} (hn : inT d t n) (hal : alK (tirAt d t).kind = true) :
    0 ≤ n.fr ∧ n.fr < n.tO ∧ ((tirAt d t).kind = 0 → n.tO ≤ d.len) ∧ ((tirAt d t).kind ≠ 0 → (upN d n).fr ≤ n.fr ∧ n.tO ≤ (upN d n).tO) := by
  have hk := note_of h.good hn.1
  have hw := (place_iff hk.place).2.2
  unfold withinP at hw
  rw [if_pos (by rw [alT_at hk.t0 hk.t1, hn.2]; exact hal), Bool.and_eq_true, hn.2] at hw
  obtain ⟨h1, h2⟩ := hw
  simp only [rightS, Bool.and_eq_true, decide_eq_true_eq] at h1
  refine ⟨h1.1.1, h1.1.2, fun e => ?_, fun e => ?_⟩
  · rw [if_pos e, Bool.and_eq_true, decide_eq_true_eq, decide_eq_true_eq] at h2
    exact h2.2
  · rw [if_neg e, Bool.and_eq_true, decide_eq_true_eq, decide_eq_true_eq] at h2
    exact h2
theorem Rgt.sibs_apart (h : Rgt d) {t : Nat} (ht : t < d.tiers.length) (hal : alK (tirAt d t).kind = true) {a b : Nt} (ha : inT d t a) (hb : inT d t b) (hp : a.par = b.par) (hlt : a.fr < b.fr) : a.tO ≤ b.fr := by
  have hov := (ter_iff.1 (h.ter t ht)).1 a (inT_iff.2 ha)
  have hma : a ∈ sibs d.notes t a.par := by unfold sibs; rw [List.mem_filter]; exact ⟨ha.1, by simp [ha.2]⟩
  have hmb : b ∈ sibs d.notes t a.par := by unfold sibs; rw [List.mem_filter]; exact ⟨hb.1, by simp [hb.2, hp]⟩
  unfold ovR at hov
  rw [hal, Bool.true_and, over_pair] at hov
  have hra := h.inside ha hal
  have hrb := h.inside hb hal
  have hnm : NM a b := by
    generalize sibs d.notes t a.par = S at hov hma hmb
    obtain ⟨i, hi, rfl⟩ := List.mem_iff_getElem.1 hma
    obtain ⟨j, hj, rfl⟩ := List.mem_iff_getElem.1 hmb
    have hpw := List.pairwise_iff_getElem.1 hov
    rcases Nat.lt_trichotomy i j with h1 | rfl | h1
    · exact hpw i j hi hj h1
    · omega
    · exact (hpw j i hj hi h1).symm
  unfold NM at hnm
  omega
end
end Go.V
namespace Go.V
open Go Go.Proofs
theorem alT_kind {d : Dc} {i : Int} (h : alT d.tiers i = true) : 0 ≤ i ∧ i < d.tiers.length ∧ alK (tirAt d i).kind = true ∧ kindI d i ≠ 3 ∧ kindI d i ≠ 4 := by
  have h0 := h
  unfold alT at h
  simp only [Bool.and_eq_true, decide_eq_true_eq] at h
  obtain ⟨⟨h1, h2⟩, h3⟩ := h
  refine ⟨h1, h2, h3, ?_, ?_⟩
  · intro e
    unfold kindI at e
    rw [if_pos ⟨h1, h2⟩] at e
    rw [e] at h3
    simp [alK] at h3
  · intro e
    unfold kindI at e
    rw [if_pos ⟨h1, h2⟩] at e
    rw [e] at h3
    simp [alK] at h3
theorem Rgt.parin {d : Dc} (h : Rgt d) {n : Nt} (hn : n ∈ d.notes) : n.par = 0 ∨ ∃ p ∈ d.notes, p.id = n.par := by
  have hok := note_of h.good hn
  obtain ⟨t, et⟩ : ∃ t : Nat, n.tier = t := ⟨n.tier.toNat, by have := hok.t0; omega⟩
  have ht : t < d.tiers.length := by have := hok.t1; omega
  by_cases hk : (tirAt d t).kind = 0
  · exact .inl (h.root ⟨hn, et⟩ hk)
  · obtain ⟨h1, h2⟩ := h.parent ⟨hn, et⟩ ht hk
    exact .inr ⟨_, h1.1, h2⟩
theorem mem_insI {l : List Nt} {n x : Nt} : x ∈ insN l n ↔ x = n ∨ x ∈ l := by
  unfold insN insertL
  rw [List.mem_append, List.mem_cons]
  constructor
  · rintro (h | h | h)
    · exact .inr (List.mem_of_mem_take h)
    · exact .inl h
    · exact .inr (List.mem_of_mem_drop h)
  · rintro (h | h)
    · exact .inr (.inl h)
    · rw [← List.take_append_drop (posI l n) l, List.mem_append] at h
      exact h.elim .inl (fun h => .inr (.inr h))
theorem insN_filt {l : List Nt} {n : Nt} {F : Nt → Nt} {b : Int} (hF : (F n).id = b) : ((insN l n).map F).filter (fun x => !decide (x.id = b)) = (l.map F).filter fun x => !decide (x.id = b) := by
  unfold insN insertL
  rw [List.map_append, List.map_cons, List.filter_append, List.filter_cons_of_neg (by simp [hF]), ← List.filter_append, ← List.map_append, List.take_append_drop]
theorem next_of {r : Dc} (h : Rgt r) {t : Nat} (ht : t < r.tiers.length) {x y : Nt} (hx : inT r t x) (hy : inT r t y) (hp : x.par = y.par) (hk : keyT r t x < keyT r t y) (hno : ∀ z, inT r t z → z.par = x.par → keyT r t x < keyT r t z → keyT r t z < keyT r t y → False) :
    nextB r x y x.id y.id = true := by
  unfold nextB
  rw [decide_eq_true hp, Bool.true_and, decide_eq_true_eq, hx.2]
  have hs := kid_sorted h.w (id := x.par) ht
  have hmx : x ∈ kidsN r x.par t := (kid_mem ht).2 ⟨hx, rfl⟩
  have hmy : y ∈ kidsN r x.par t := (kid_mem ht).2 ⟨hy, hp.symm⟩
  have hmem : ∀ z ∈ kidsN r x.par t, inT r t z ∧ z.par = x.par := fun z hz => (kid_mem ht).1 hz
  have hnd := nodup_ids h (id := x.par) ht
  generalize kidsN r x.par t = ks at hs hmx hmy hmem hnd
  have hs2 : ks.Pairwise fun a b => keyT r t a < keyT r t b := hs.imp_of_mem fun {a b} ha hb hab => by
    rw [bef_same (by rw [(hmem a ha).2, (hmem b hb).2]), decide_eq_true_eq] at hab
    exact hab
  rw [List.pairwise_iff_getElem] at hs2
  obtain ⟨i, hi, ei⟩ := List.mem_iff_getElem.1 hmx
  obtain ⟨j, hj, ej⟩ := List.mem_iff_getElem.1 hmy
  have hij : i < j := by
    rcases Nat.lt_trichotomy i j with h1 | h1 | h1
    · exact h1
    · subst h1; rw [ei] at ej; rw [ej] at hk; omega
    · have := hs2 j i hj hi h1; rw [ei, ej] at this; omega
  have hji : j = i + 1 := by
    apply Classical.byContradiction
    intro hne
    have hl : i + 1 < ks.length := by omega
    have h1 := hs2 i (i + 1) hi hl (by omega)
    have h2 := hs2 (i + 1) j hl hj (by omega)
    rw [ei] at h1
    rw [ej] at h2
    have hz := hmem _ (List.getElem_mem hl)
    exact hno _ hz.1 hz.2 h1 h2
  subst hji
  have hidx := idxI_at hnd (i := i) (a := x.id) (by unfold idsOf; rw [List.getElem?_map, List.getElem?_eq_getElem hi, ei]; rfl)
  rw [hidx, show ((i : Int) + 1).toNat = i + 1 by omega]
  unfold idsOf
  rw [List.getElem?_map, List.getElem?_eq_getElem hj, ej]; rfl
set_option maxHeartbeats 1000000 in
theorem cut_glue {d : Dc} (h : Rgt d) {id t nx : Int} {r : Dc} (hc : cutE d id t nx = (r, 0)) : glueE r id nx = (d, 0) ∧ r.notes.length = d.notes.length + 1 ∧ Rgt r := by
  rw [cut_eq h] at hc
  unfold refCutE at hc
  split at hc
  · exact absurd (show (9 : Int) = 0 from congrArg Prod.snd hc) (by decide)
  rename_i hg
  split at hc
  · exact absurd (show (14 : Int) = 0 from congrArg Prod.snd hc) (by decide)
  rename_i hal
  split at hc
  · exact absurd (show (12 : Int) = 0 from congrArg Prod.snd hc) (by decide)
  rename_i htm
  split at hc
  · exact absurd (show (8 : Int) = 0 from congrArg Prod.snd hc) (by decide)
  rename_i htw
  split at hc
  · exact absurd (show (15 : Int) = 0 from congrArg Prod.snd hc) (by decide)
  have hg' : (getN d.notes id).2 = true := by simpa using hg
  have hm := getN_mem hg'
  generalize (getN d.notes id).1 = n at hc hal htm hm
  obtain ⟨hn, hni⟩ := hm
  subst hni
  have hal' : alT d.tiers n.tier = true := by simpa using hal
  obtain ⟨c0, c1⟩ := chk_some hc
  obtain ⟨a0, a1, a2, a3, a4⟩ := alT_kind hal'
  generalize hM : (⟨nx, n.tier, n.par, t, n.tO, 0, ⟨#[]⟩⟩ : Nt) = m at c0 c1
  have hmi : m.id = nx := by rw [← hM]
  have hmt : m.tier = n.tier := by rw [← hM]
  have hmp : m.par = n.par := by rw [← hM]
  have hmf : m.fr = t := by rw [← hM]
  have hmo : m.tO = n.tO := by rw [← hM]
  have hmx : m.text = ⟨#[]⟩ := by rw [← hM]
  rw [setR_map, cutL, List.map_map] at c0 c1
  generalize hK : ((fun n_1 : Nt => if n_1.id = ({ n with tO := t } : Nt).id then ({ n with tO := t } : Nt) else n_1) ∘ cutN1 d n.id t nx) = K at c0 c1
  have hKv : ∀ k, K k = if k.id = n.id then { n with tO := t } else cutN1 d n.id t nx k := by
    intro k
    rw [← hK]
    simp only [Function.comp, cutN1_id]
  have hr2 := right_iff.1 c0
  rw [← c1] at hr2
  have hrn : r.notes = insN (d.notes.map K) m := by rw [c1]
  have hrt : r.tiers = d.tiers := by rw [c1]
  have hlen : r.notes.length = d.notes.length + 1 := by rw [hrn, insN_len, List.length_map]
  refine ⟨?_, hlen, hr2⟩
  have hKn : K n = { n with tO := t } := by rw [hKv, if_pos rfl]
  have hn' : ({ n with tO := t } : Nt) ∈ r.notes := by rw [hrn, mem_insI]; right; rw [← hKn]; exact List.mem_map_of_mem hn
  have hmm : m ∈ r.notes := by rw [hrn, mem_insI]; exact .inl rfl
  have gA := getN_of hr2 hn'
  have gB := getN_of hr2 hmm
  rw [hmi] at gB
  have gA : getN r.notes n.id = ({ n with tO := t }, true) := gA
  have hki : ∀ i, kindI r i = kindI d i := fun i => by unfold kindI; rw [hrt]
  have hti : ∀ i, tirAt r i = tirAt d i := fun i => by unfold tirAt; rw [hrt]
  obtain ⟨tt, ett⟩ : ∃ tt : Nat, n.tier = tt := ⟨n.tier.toNat, by omega⟩
  have htl : tt < r.tiers.length := by rw [hrt]; omega
  have hralk : alK (tirAt r tt).kind = true := by rw [hti, ← ett]; exact a2
  have hkey : ∀ z : Nt, keyT r tt z = z.fr := fun z => by unfold keyT; rw [if_pos hralk]
  have ix : inT r tt { n with tO := t } := ⟨hn', ett⟩
  have iy : inT r tt m := ⟨hmm, by rw [hmt]; exact ett⟩
  have hnext := next_of hr2 htl ix iy (by rw [hmp]) (by rw [hkey, hkey, hmf]; show n.fr < t; omega) (fun z hz hzp hz1 hz2 => by
    rw [hkey, hkey] at hz1 hz2
    rw [hmf] at hz2
    have := hr2.sibs_apart htl hralk ix hz hzp.symm hz1
    simp only at this
    omega)
  rw [hmi] at hnext
  have hnext : nextB r { n with tO := t } m n.id nx = true := hnext
  have hne : n.id ≠ nx := by
    intro e
    rw [e] at hg'
    exact htw hg'
  have hS : Sib r { n with tO := t } m n.id nx := ⟨hn', hmm, rfl, hmi, hmt.symm, hne⟩
  unfold glueE
  rw [gA, gB]
  simp only [Bool.and_self, Bool.true_eq_false, if_false]
  rw [if_neg (by rw [hmt, hki]; exact fun e => e.elim (fun e => e rfl) a4), if_neg (by rw [hnext]; simp), glueL_map hr2 hS (by rw [hmp])]
  have hpar : ∀ k ∈ d.notes, k.par ≠ nx := by
    intro k hk e
    rcases h.parin hk with h0 | ⟨p, hp, hpi⟩
    · have := (hr2.nok m hmm).lo
      rw [hmi] at this
      omega
    · have := getN_of h hp
      rw [hpi, e] at this
      exact htw (by rw [this])
  have hid : ∀ k ∈ d.notes, k.id ≠ nx := by
    intro k hk e
    have := getN_of h hk
    rw [e] at this
    exact htw (by rw [this])
  have hlist : (r.notes.map (gluF r { n with tO := t } m n.id nx)).filter (fun n => !decide (n.id = nx)) = d.notes := by
    rw [hrn, insN_filt (by rw [gluF_id, hmi]), List.map_map]
    have : d.notes.map (gluF r { n with tO := t } m n.id nx ∘ K) = d.notes := by
      conv => rhs; rw [← List.map_id d.notes]
      refine List.map_congr_left fun k hk => ?_
      simp only [Function.comp, id]
      have k3 : ¬ kindI r ({ n with tO := t } : Nt).tier = 3 := by rw [hki]; exact a3
      unfold gluF
      simp only [if_neg k3]
      rw [hKv]
      by_cases e : k.id = n.id
      · have ekn : k = n := ids_uniq h hk hn (e)
        subst ekn
        have hnp := hpar k hk
        have alr : alT r.tiers k.tier = true := by rw [hrt]; exact hal'
        simp only [e, if_true, hnp, if_false, hmx, hmo, alr]
        have hte : k.text ++ ⟨#[]⟩ = k.text := by show k.text ++ ByteArray.empty = k.text; simp
        simp [joinB, hte]
      · simp only [e, if_false]
        unfold cutN1
        by_cases hq : (cutQ d n.id k && decide (t ≤ k.fr)) = true
        · rw [if_pos hq]
          simp only [cutQ, Bool.and_eq_true, decide_eq_true_eq] at hq
          obtain ⟨⟨q1, q2⟩, q3⟩ := hq
          have k3k : ¬ kindI r k.tier = 3 := by rw [hki]; exact (alT_kind q2).2.2.2.1
          simp only [if_true, k3k, if_false, e]
          rw [← q1]
        · rw [if_neg hq]
          simp [hpar k hk, e]
    rw [this, List.filter_eq_self]
    intro k hk
    simp [hid k hk]
  rw [hlist]
  have hrd : ({ r with notes := d.notes } : Dc) = d := by rw [c1]
  rw [hrd]
  unfold chk
  rw [if_pos (right_iff.2 h)]
theorem tiers20 {d : Dc} (h : Rgt d) : d.tiers.length ≤ 20 := by
  have := h.tiers
  unfold tiersE at this
  split at this
  · cases this
  · omega
set_option maxHeartbeats 4000000 in
theorem law_whole (d : Dc) (c : Plc) (hs : ∀ t ∈ d.tiers, t.name.size ≤ 9223372036854775807) (hx : ∀ n ∈ d.notes, n.text.size ≤ 9223372036854775807) :
    PureR Tryz.prog 11 [docD d, plcD c] (.bool true) := by
  refine pure_of_body mixed Tryz.func11 rfl call_11 ?_
  obtain ⟨id, t, nx⟩ := c
  simp (decide := true) [Tryz.f11, docD, Dc.row, int, plcD]
  refine ECall.pure (by rfl) (light13_ok d ⟨#[]⟩ hs hx) (by simp (decide := true) [docD, Dc.row]) ?_
  cases hl : lightB d ⟨#[]⟩
  · simp (decide := true)
    refine ECall.pure (by rfl) awake13_R (by simp) ?_
    simp (decide := true)
  obtain ⟨h0, h1, h2, h3, hr⟩ := lightB_spec hl
  have hfit : d.fit := ⟨by omega, by omega, by omega⟩
  have w1 := cut_ok d id t nx (by omega) (by omega)
  have hcg : ∀ r, cutE d id t nx = (r, 0) → glueE r id nx = (d, 0) ∧ r.notes.length = d.notes.length + 1 ∧ Rgt r := fun r => cut_glue hr
  generalize cutE d id t nx = r1 at w1 hcg
  obtain ⟨r, e⟩ := r1
  simp (decide := true)
  refine ECall.pure (by rfl) w1 (by simp (decide := true) [docD, Dc.row, int, Nt.row]) ?_
  by_cases he : e = 0
  case neg =>
    simp (decide := true) [resD, docD, Dc.row, int, he]
    refine ECall.pure (by rfl) awake13_R (by simp) ?_
    simp (decide := true)
  subst he
  obtain ⟨g1, g2, g3⟩ := hcg r rfl
  have w2 := glue_ok r id nx (by have := (tiers20 g3); omega) (by omega) g3.rank300 g3.texts
  rw [g1] at w2
  have hsm := refSame_ok d d hfit
  have g2' : (r.notes.length : Int) = d.notes.length + 1 := by omega
  simp (decide := true) [resD, docD, Dc.row, int]
  refine ECall.pure (by rfl) w2 (by simp (decide := true) [docD, Dc.row, int, Nt.row]) ?_
  simp (decide := true) [resD, docD, Dc.row, int]
  refine ECall.pure (by rfl) hsm (by simp (decide := true) [docD, Dc.row, int]) ?_
  simp (decide := true) [resD, docD, Dc.row, int, notesD, I64, g2']
  refine ⟨⟨by omega, by omega⟩, ?_⟩
  refine ECall.pure (by rfl) awake13_R (by simp) ?_
  simp (decide := true)
end Go.V
