/- Plain law: the program's Check is that of the reference. -/
import Derived.Test.YtnjcohimpfmgcaaDoorR10
set_option linter.unusedSimpArgs false
set_option linter.unusedVariables false
set_option maxRecDepth 10000
namespace Go.V
open Go Go.Proofs

theorem notes_from (d : Dc) : ∀ (m i : Nat), i + m = d.notes.length → notesGo d m i = 0 → ∀ j, i ≤ j → j < d.notes.length → noteIE d j = 0
  | 0, i, h, _, j, h1, h2 => by omega
  | m + 1, i, h, hg, j, h1, h2 => by
    rw [notesGo_IE, if_pos (by omega)] at hg
    by_cases hz : noteIE d i = 0
    · rw [if_pos hz] at hg
      rcases Nat.eq_or_lt_of_le h1 with e | e
      · rw [← e]; exact hz
      · exact notes_from d m (i + 1) (by omega) hg j e h2
    · rw [if_neg hz] at hg; exact absurd hg hz
theorem tiers_from (l : List Tir) : ∀ (m i : Nat), i + m = l.length → tiersGo l m i = 0 → ∀ j, i ≤ j → (h : j < l.length) → oneE (l.take j) l[j] = 0
  | 0, i, h, _, j, h1, h2 => by omega
  | m + 1, i, h, hg, j, h1, h2 => by
    simp only [tiersGo] at hg
    rw [dif_pos (by omega)] at hg
    by_cases hz : oneE (l.take i) (l[i]'(by omega)) = 0
    · rw [if_pos hz] at hg
      rcases Nat.eq_or_lt_of_le h1 with e | e
      · subst e; exact hz
      · exact tiers_from l m (i + 1) (by omega) hg j e h2
    · rw [if_neg hz] at hg; exact absurd hg hz
/-- The tiers and the notes by themselves are right. -/
structure Good (d : Dc) : Prop where
  tiers : ∀ j, (h : j < d.tiers.length) → oneE (d.tiers.take j) d.tiers[j] = 0
  notes : ∀ j, j < d.notes.length → noteIE d j = 0
theorem oneE_parent {l : List Tir} {t : Tir} (h : oneE l t = 0) (hk : t.kind ≠ 0) : 0 ≤ t.par ∧ t.par < l.length ∧ (alK t.kind = true → alK (l[t.par.toNat]?.getD default).kind = true) := by
  unfold oneE at h
  split at h
  · cases h
  · split at h
    · cases h
    · split at h
      · cases h
      · split at h
        · cases h
        · split at h
          · cases h
          · split at h
            · cases h
            · rename_i hp
              split at h
              · cases h
              · rename_i ha
                refine ⟨by omega, by omega, fun e => ?_⟩
                cases hb : alK (l[t.par.toNat]?.getD default).kind with
                | true => rfl
                | false => exact absurd ⟨e, hb⟩ ha
structure NoteOk (d : Dc) (n : Nt) : Prop where
  t0 : 0 ≤ n.tier
  t1 : n.tier < d.tiers.length
  place : placeE d n = 0
theorem note_of {d : Dc} (h : Good d) {n : Nt} (hn : n ∈ d.notes) : NoteOk d n := by
  obtain ⟨i, hi, rfl⟩ := List.mem_iff_getElem.1 hn
  have := h.notes i hi
  simp only [noteIE, List.getElem?_eq_getElem hi, Option.getD_some] at this
  split at this
  · cases this
  · split at this
    · cases this
    · split at this
      · cases this
      · rename_i ht
        rw [noteE_place] at this
        split at this
        · exact ⟨by omega, by omega, this⟩
        · rename_i hx; exact absurd this hx
theorem place_iff {d : Dc} {n : Nt} (h : placeE d n = 0) : ((tirAt d n.tier).kind = 0 → n.par = 0) ∧ ((tirAt d n.tier).kind ≠ 0 → (getN d.notes n.par).2 = true ∧ (getN d.notes n.par).1.tier = (tirAt d n.tier).par) ∧
    withinP d n (getN d.notes n.par).1 = true := by
  unfold placeE at h
  by_cases hk : (tirAt d n.tier).kind = 0
  · rw [if_pos hk] at h
    by_cases hz : n.par = 0
    · rw [if_pos (by simpa using hz)] at h
      by_cases hw : withinP d n (getN d.notes n.par).1 = true
      · exact ⟨fun _ => hz, fun e => absurd hk e, hw⟩
      · rw [if_neg hw] at h; cases h
    · rw [if_neg (by simpa using hz)] at h; cases h
  · rw [if_neg hk] at h
    by_cases h1 : ((getN d.notes n.par).2 && decide ((getN d.notes n.par).1.tier = (tirAt d n.tier).par)) = true
    · rw [if_pos h1] at h
      by_cases hw : withinP d n (getN d.notes n.par).1 = true
      · rw [Bool.and_eq_true, decide_eq_true_eq] at h1
        exact ⟨fun e => absurd e hk, fun _ => h1, hw⟩
      · rw [if_neg hw] at h; cases h
    · rw [if_neg h1] at h; cases h
theorem alT_at {d : Dc} {i : Int} (h0 : 0 ≤ i) (h1 : i < d.tiers.length) : alT d.tiers i = alK (tirAt d i).kind := by
  unfold alT tirAt
  rw [decide_eq_true h0, decide_eq_true h1]; rfl
theorem right_of {d : Dc} {n : Nt} (h : NoteOk d n) (ha : alK (tirAt d n.tier).kind = true) : rightS n.fr n.tO = true := by
  have hw := (place_iff h.place).2.2
  unfold withinP at hw
  rw [if_pos (by rw [alT_at h.t0 h.t1]; exact ha), Bool.and_eq_true] at hw
  exact hw.1
theorem flat_of {d : Dc} {n : Nt} (h : NoteOk d n) (ha : alK (tirAt d n.tier).kind = false) : n.fr = 0 ∧ n.tO = 0 := by
  have hw := (place_iff h.place).2.2
  unfold withinP at hw
  rw [if_neg (by rw [alT_at h.t0 h.t1, ha]; simp), Bool.and_eq_true, decide_eq_true_eq, decide_eq_true_eq] at hw
  exact hw
theorem getN_mem {l : List Nt} {id : Int} (h : (getN l id).2 = true) : (getN l id).1 ∈ l ∧ (getN l id).1.id = id := by
  unfold getN at h ⊢
  cases hf : l.find? fun n => decide (n.id = id) with
  | none => rw [hf] at h; cases h
  | some n =>
    rw [hf] at h
    exact ⟨List.mem_of_find?_eq_some hf, by simpa using List.find?_some hf⟩
theorem wit_of {d : Dc} (hg : Good d) {n : Nt} (h : NoteOk d n) (hk : (tirAt d n.tier).kind ≠ 0) (ha : alK (tirAt d n.tier).kind = true) :
    rightS (getN d.notes n.par).1.fr (getN d.notes n.par).1.tO = true ∧ (getN d.notes n.par).1.fr ≤ n.fr ∧ n.tO ≤ (getN d.notes n.par).1.tO := by
  obtain ⟨_, hp, hw⟩ := place_iff h.place
  obtain ⟨hp1, hp2⟩ := hp hk
  have hm := getN_mem hp1
  have hpo := note_of hg hm.1
  obtain ⟨k, hkk⟩ : ∃ k : Nat, n.tier = k := ⟨n.tier.toNat, by have := h.t0; omega⟩
  have hkl : k < d.tiers.length := by have := h.t1; omega
  have et : tirAt d n.tier = d.tiers[k] := by rw [hkk]; simp [tirAt, List.getElem?_eq_getElem hkl]
  rw [et] at hk ha hp2
  obtain ⟨q1, q2, q3⟩ := oneE_parent (hg.tiers k hkl) hk
  have hlen : (d.tiers.take k).length = k := by rw [List.length_take]; omega
  rw [hlen] at q2
  have q4 := q3 ha
  have e2 : (d.tiers.take k)[(d.tiers[k]).par.toNat]?.getD default = tirAt d (d.tiers[k]).par := by
    unfold tirAt
    rw [List.getElem?_take, if_pos (by omega)]
  rw [e2] at q4
  refine ⟨right_of hpo (by rw [hp2]; exact q4), ?_⟩
  unfold withinP at hw
  rw [if_pos (by rw [alT_at h.t0 h.t1, et]; exact ha), et, if_neg hk, Bool.and_eq_true, Bool.and_eq_true, decide_eq_true_eq, decide_eq_true_eq] at hw
  exact hw.2
theorem any_range {n : Nat} {f : Nat → Bool} : (List.range' 0 n).any f = false ↔ ∀ i, i < n → f i = false := by
  rw [List.any_eq_false]
  constructor
  · intro h i hi
    have := h i (by rw [List.mem_range']; exact ⟨i, hi, by omega⟩)
    simpa using this
  · intro h i hi
    rw [List.mem_range'] at hi
    obtain ⟨j, hj, rfl⟩ := hi
    simpa using h _ (by omega)
theorem any_list {α : Type} {l : List α} {f : α → Bool} : l.any f = false ↔ ∀ x ∈ l, f x = false := by
  rw [List.any_eq_false]
  exact ⟨fun h x hx => by simpa using h x hx, fun h x hx => by simpa using h x hx⟩
theorem bool_iff {a b : Bool} (h : a = false ↔ b = false) : a = b := by
  cases a <;> cases b <;> simp_all
theorem tier_eq (d : Dc) (hg : Good d) (hn : d.notes.length ≤ 300) (t : Nat) (ht : t < d.tiers.length) : tierE d t = terE d t := by
  rw [tierE_ev, terE_ev]
  have hp := sortN_perm (ofT d.notes t)
  have hs := srt_of (ofT d.notes t)
  have hl : (sortN (ofT d.notes t)).length < 2^40 := by
    rw [sortN_length]
    have : (ofT d.notes t).length ≤ d.notes.length := List.length_filter_le _ _
    omega
  have hmem : ∀ n ∈ sortN (ofT d.notes t), NoteOk d n ∧ n.tier = t := by
    intro n hn
    have h1 := hp.mem_iff.1 hn
    unfold ofT at h1
    rw [List.mem_filter] at h1
    exact ⟨note_of hg h1.1, by simpa using h1.2⟩
  generalize sortN (ofT d.notes t) = s at *
  generalize hkd : (tirAt d (t : Int)).kind = kd
  have hov : (List.range' 0 s.length).any (ovB kd s) = (ofT d.notes t).any (ovR d t kd) := by
    apply bool_iff
    rw [any_range, any_list]
    cases ha : alK kd with
    | false => simp [ovB, ovR, ha]
    | true =>
      have hr : ∀ n ∈ s, n.fr < n.tO := by
        intro n hn
        obtain ⟨h1, h2⟩ := hmem n hn
        have := right_of h1 (by rw [h2, hkd]; exact ha)
        simp only [rightS, Bool.and_eq_true, decide_eq_true_eq] at this
        omega
      simp only [ovB, ovR, ha, Bool.true_and]
      rw [← over_all hp hs hr]
      exact ⟨all_of hs, all_adj⟩
  rw [hov]
  cases ho : (ofT d.notes t).any (ovR d t kd) with
  | true => rfl
  | false =>
    have hbad : (List.range' 0 s.length).any (badB d.notes kd s) = (ofT d.notes t).any (badR d t kd) := by
      apply bool_iff
      rw [any_range, any_list]
      by_cases k1 : kd = 1
      · subst k1
        have ha : alK 1 = true := rfl
        have hr : ∀ n ∈ s, rightS n.fr n.tO = true := fun n hn => by
          obtain ⟨h1, h2⟩ := hmem n hn
          exact right_of h1 (by rw [h2, hkd]; exact ha)
        have hr' : ∀ n ∈ s, n.fr < n.tO := fun n hn => by
          have := hr n hn
          simp only [rightS, Bool.and_eq_true, decide_eq_true_eq] at this
          omega
        have hall : AllP s := by
          rw [over_all hp hs hr']
          intro n hn
          have := any_list.1 ho n hn
          simpa [ovR, ha] using this
        have hw : Wit d.notes s := by
          have w := fun n (hn : n ∈ s) => wit_of hg (hmem n hn).1 (by rw [(hmem n hn).2, hkd]; decide) (by rw [(hmem n hn).2, hkd]; exact ha)
          exact ⟨hr, fun n hn => (w n hn).1, fun n hn => (w n hn).2.1, fun n hn => (w n hn).2.2⟩
        have := gap_all hp hs hall hw
        have e1 : ∀ i, badB d.notes 1 s i = gapB d.notes s i := fun i => by simp [badB, gapB]
        have e2 : ∀ n, badR d t 1 n = !coversS (spansOf (sibs d.notes t n.par)) ⟨(getN d.notes n.par).1.fr, (getN d.notes n.par).1.tO⟩ := fun n => by simp [badR]
        simp only [e1, e2, Bool.not_eq_false']
        exact this
      by_cases k3 : kd = 3
      · subst k3
        have ha : alK 3 = false := rfl
        have := rank_all hp hs hl fun n hn => (flat_of (hmem n hn).1 (by rw [(hmem n hn).2, hkd]; exact ha)).1
        have e1 : ∀ i, badB d.notes 3 s i = rkB s i := fun i => by simp [badB, rkB]
        have e2 : ∀ n, badR d t 3 n = !rankP (sibs d.notes t n.par) := fun n => by simp [badR]
        simp only [e1, e2, Bool.not_eq_false']
        exact this
      by_cases k4 : kd = 4
      · subst k4
        have := label_all hp hs
        have e1 : ∀ i, badB d.notes 4 s i = !firstB s i := fun i => by simp [badB]
        have e2 : ∀ n, badR d t 4 n = decide (1 < (sibs d.notes t n.par).length) := fun n => by simp [badR]
        simp only [e1, e2, Bool.not_eq_false', decide_eq_false_iff_not]
        exact this
      simp [badB, badR, k1, k3, k4]
    rw [hbad]
theorem tiers_eq (d : Dc) (hg : Good d) (hn : d.notes.length ≤ 300) : ∀ (m i : Nat), i + m = d.tiers.length → tierGos d m i = terGos d m i
  | 0, i, _ => rfl
  | m + 1, i, h => by
    simp only [tierGos, terGos]
    have hi : i < d.tiers.length := by omega
    rw [if_pos hi, if_pos hi, tier_eq d hg hn i hi, tiers_eq d hg hn m (i + 1) (by omega)]
/-- Check is that of the reference. -/
theorem check_eq (d : Dc) : checkE d = refE d := by
  unfold checkE refE
  split
  · rfl
  · rename_i h1
    split
    · rfl
    · split
      · rfl
      · rename_i h3
        split
        · rfl
        · rename_i h4
          have h1' : tiersE d.tiers = 0 := by simpa using h1
          have h4' : notesGo d d.notes.length 0 = 0 := by simpa using h4
          unfold tiersE at h1'
          split at h1'
          · cases h1'
          · exact tiers_eq d ⟨fun j hj => tiers_from _ _ _ (by omega) h1' j (by omega) hj, fun j hj => notes_from d _ _ (by omega) h4' j (by omega) hj⟩ (by omega) _ _ (by omega)
end Go.V
