/- Plain law: gaps, ranks and labels among sorted notes are those among the siblings. -/
import Derived.Test.YtnjcohimpfmgcaaDoorR9
set_option linter.unusedSimpArgs false
set_option linter.unusedVariables false
set_option maxRecDepth 10000
namespace Go.V
open Go Go.Proofs

section
variable {d : Dc} {t : Int} {s : List Nt}
def gapB (notes : List Nt) (s : List Nt) (i : Nat) : Bool :=
  (firstB s i && !decide ((gN s i).fr = (getN notes (gN s i).par).1.fr)) || (!firstB s i && !decide ((gN s (i - 1)).tO = (gN s i).fr)) || (lastB s i && !decide ((gN s i).tO = (getN notes (gN s i).par).1.tO))
theorem group_first : ∀ i, ∃ j, j ≤ i ∧ (gN s j).par = (gN s i).par ∧ firstB s j = true
  | 0 => ⟨0, by omega, rfl, first_iff.2 (.inl rfl)⟩
  | i + 1 => by
    cases h : firstB s (i + 1) with
    | true => exact ⟨i + 1, by omega, rfl, h⟩
    | false =>
      obtain ⟨_, hp⟩ := first_false.1 h
      obtain ⟨j, h1, h2, h3⟩ := group_first i
      have hp' : (gN s i).par = (gN s (i + 1)).par := hp
      exact ⟨j, by omega, h2.trans hp', h3⟩
theorem mem_sibs (hp : s.Perm (ofT d.notes t)) {p : Int} {m : Nt} : m ∈ sibs d.notes t p ↔ ∃ j, j < s.length ∧ (gN s j).par = p ∧ gN s j = m := by
  rw [← (sibs_perm hp p).mem_iff, List.mem_filter]
  constructor
  · rintro ⟨h1, h2⟩
    obtain ⟨j, hj, e⟩ := List.mem_iff_getElem.1 h1
    rw [← gN_eq hj] at e
    exact ⟨j, hj, by rw [e]; simpa using h2, e⟩
  · rintro ⟨j, hj, h1, rfl⟩
    exact ⟨gN_mem hj, by simpa using h1⟩
structure Wit (notes s : List Nt) : Prop where
  right : ∀ n ∈ s, rightS n.fr n.tO = true
  prt : ∀ n ∈ s, rightS (getN notes n.par).1.fr (getN notes n.par).1.tO = true
  lo : ∀ n ∈ s, (getN notes n.par).1.fr ≤ n.fr
  hi : ∀ n ∈ s, n.tO ≤ (getN notes n.par).1.tO
theorem gap_all (hp : s.Perm (ofT d.notes t)) (hs : Srt s) (ha : AllP s) (hw : Wit d.notes s) :
    (∀ i, i < s.length → gapB d.notes s i = false) ↔ ∀ n ∈ ofT d.notes t, coversS (spansOf (sibs d.notes t n.par)) ⟨(getN d.notes n.par).1.fr, (getN d.notes n.par).1.tO⟩ = true := by
  have hrt : ∀ n ∈ s, 0 ≤ n.fr ∧ n.fr < n.tO ∧ n.tO ≤ 86400000 := fun n hn => by have := hw.right n hn; simpa only [rightS, Bool.and_eq_true, decide_eq_true_eq, and_assoc] using this
  constructor
  · intro h n hn
    have hn' : n ∈ s := hp.mem_iff.2 hn
    obtain ⟨i0, hi0, e0⟩ := List.mem_iff_getElem.1 hn'
    rw [← gN_eq hi0] at e0
    subst e0
    rw [coversS_iff]
    refine ⟨hw.prt _ hn', fun v hv1 hv2 => ?_⟩
    simp only at hv1 hv2
    have up : ∀ k i, s.length - i ≤ k → i < s.length → (gN s i).par = (gN s i0).par → (gN s i).fr ≤ v → ∃ j, j < s.length ∧ (gN s j).par = (gN s i0).par ∧ (gN s j).fr ≤ v ∧ v < (gN s j).tO := by
      intro k
      induction k with
      | zero => intro i h1 h2; omega
      | succ k ih =>
        intro i h1 h2 h3 h4
        by_cases h5 : v < (gN s i).tO
        · exact ⟨i, h2, h3, h4, h5⟩
        have hg := h i h2
        simp only [gapB, Bool.or_eq_false_iff, Bool.and_eq_false_iff, Bool.not_eq_false', decide_eq_true_eq] at hg
        have hl : lastB s i = false := by
          rcases hg.2 with e | e
          · exact e
          · rw [h3] at e; omega
        rw [← Bool.not_eq_true, last_iff, not_or, Classical.not_not] at hl
        have hi1 : i + 1 < s.length := by omega
        have hf : firstB s (i + 1) = false := first_false.2 ⟨by omega, by simpa using hl.2.symm⟩
        have hg1 := h (i + 1) hi1
        simp only [gapB, Bool.or_eq_false_iff, Bool.and_eq_false_iff, Bool.not_eq_false', decide_eq_true_eq, hf] at hg1
        have hto : (gN s i).tO = (gN s (i + 1)).fr := by
          rcases hg1.1.2 with e | e
          · cases e
          · simpa using e
        exact ih (i + 1) (by omega) hi1 (hl.2.trans h3) (by omega)
    obtain ⟨j, hj, hjp, hjf⟩ := group_first (s := s) i0
    have hjl : j < s.length := by omega
    have hgj := h j hjl
    simp only [gapB, Bool.or_eq_false_iff, Bool.and_eq_false_iff, Bool.not_eq_false', decide_eq_true_eq, hjf] at hgj
    have hfr : (gN s j).fr = (getN d.notes (gN s i0).par).1.fr := by
      rcases hgj.1.1 with e | e
      · cases e
      · rw [hjp] at e; exact e
    obtain ⟨y, hy, hyp, hy1, hy2⟩ := up _ j (Nat.le_refl _) hjl hjp (by omega)
    exact ⟨⟨(gN s y).fr, (gN s y).tO⟩, List.mem_map.2 ⟨gN s y, (mem_sibs hp).2 ⟨y, hy, hyp, rfl⟩, rfl⟩, hw.right _ (gN_mem hy), hy1, hy2⟩
  · intro h i hi
    have hc := coversS_iff.1 (h _ (hp.mem_iff.1 (gN_mem hi)))
    have pt := hw.prt _ (gN_mem hi)
    have cov : ∀ v, (getN d.notes (gN s i).par).1.fr ≤ v → v < (getN d.notes (gN s i).par).1.tO → ∃ j, j < s.length ∧ (gN s j).par = (gN s i).par ∧ (gN s j).fr ≤ v ∧ v < (gN s j).tO := by
      intro v h1 h2
      obtain ⟨y, hy, _, hy1, hy2⟩ := hc.2 v h1 h2
      obtain ⟨m, hm, rfl⟩ := List.mem_map.1 hy
      obtain ⟨j, hj, hjp, rfl⟩ := (mem_sibs hp).1 hm
      exact ⟨j, hj, hjp, hy1, hy2⟩
    have lo := hw.lo _ (gN_mem hi)
    have hi' := hw.hi _ (gN_mem hi)
    have hri := hrt _ (gN_mem hi)
    generalize hP : (getN d.notes (gN s i).par).1.fr = a at *
    generalize hQ : (getN d.notes (gN s i).par).1.tO = b at *
    have pt' : a < b := by simp only [rightS, Bool.and_eq_true, decide_eq_true_eq] at pt; omega
    simp only [gapB, Bool.or_eq_false_iff, Bool.and_eq_false_iff, Bool.not_eq_false', decide_eq_true_eq, hP, hQ]
    refine ⟨⟨?_, ?_⟩, ?_⟩
    · cases hf : firstB s i with
      | false => exact .inl rfl
      | true =>
        right
        apply Classical.byContradiction
        intro hne
        obtain ⟨j, hj, hjp, hj1, hj2⟩ := cov a (Int.le_refl _) pt'
        rcases Nat.lt_trichotomy j i with hji | rfl | hji
        · rcases first_iff.1 hf with e | e
          · omega
          · apply e
            rcases Nat.eq_or_lt_of_le (show j ≤ i - 1 by omega) with e' | e'
            · rw [← e', hjp]
            · have x1 := hs.par j (i - 1) e' (by omega)
              have x2 := hs.par (i - 1) i (by omega) hi
              omega
        · omega
        · have := hs.fr i j hji hj hjp.symm
          omega
    · cases hf : firstB s i with
      | true => exact .inl rfl
      | false =>
        right
        obtain ⟨h0, hpp⟩ := first_false.1 hf
        have hil : i - 1 < s.length := by omega
        have h1 := ha (i - 1) i (by omega) hi hpp
        apply Classical.byContradiction
        intro hne
        have r1 := hrt _ (gN_mem hil)
        have l1 := hw.lo _ (gN_mem hil)
        rw [hpp, hP] at l1
        obtain ⟨j, hj, hjp, hj1, hj2⟩ := cov (gN s (i - 1)).tO (by omega) (by omega)
        rcases Nat.lt_trichotomy j (i - 1) with hji | e | hji
        · have := ha j (i - 1) hji hil (hjp.trans hpp.symm)
          omega
        · subst e; omega
        · rcases Nat.eq_or_lt_of_le (show i ≤ j by omega) with e' | e'
          · subst e'; omega
          · have := hs.fr i j e' hj hjp.symm
            omega
    · cases hf : lastB s i with
      | false => exact .inl rfl
      | true =>
        right
        apply Classical.byContradiction
        intro hne
        obtain ⟨j, hj, hjp, hj1, hj2⟩ := cov (gN s i).tO (by omega) (by omega)
        rcases Nat.lt_trichotomy j i with hji | rfl | hji
        · have := ha j i hji hi hjp
          omega
        · omega
        · rcases last_iff.1 hf with e | e
          · omega
          · apply e
            rcases Nat.eq_or_lt_of_le (show i + 1 ≤ j from hji) with e' | e'
            · rw [e', hjp]
            · have x1 := hs.par (i + 1) j e' hj
              have x2 := hs.par i (i + 1) (by omega) (by omega)
              omega
/-! ### ranks and labels -/
def posN (s : List Nt) (i : Nat) : Nat := ((s.take i).filter fun n => decide (n.par = (gN s i).par)).length
theorem pos_first (hs : Srt s) {i : Nat} (hi : i < s.length) (h : firstB s i = true) : posN s i = 0 := by
  unfold posN
  rw [List.length_eq_zero_iff, List.filter_eq_nil_iff]
  intro x hx hd
  obtain ⟨j, hj, rfl⟩ := List.mem_take_iff_getElem.1 hx
  have hjl : j < s.length := by omega
  have hji : j < i := by omega
  simp only [decide_eq_true_eq] at hd
  rw [← gN_eq hjl] at hd
  rcases first_iff.1 h with e | e
  · omega
  · apply e
    rcases Nat.eq_or_lt_of_le (show j ≤ i - 1 by omega) with e' | e'
    · rw [← e', hd]
    · have x1 := hs.par j (i - 1) e' (by omega)
      have x2 := hs.par (i - 1) i (by omega) hi
      omega
theorem pos_next {i : Nat} (hi : i < s.length) (h : firstB s i = false) : posN s i = posN s (i - 1) + 1 := by
  obtain ⟨h0, hp⟩ := first_false.1 h
  obtain ⟨j, rfl⟩ : ∃ j, i = j + 1 := ⟨i - 1, by omega⟩
  have hj : j < s.length := by omega
  have hp' : (gN s j).par = (gN s (j + 1)).par := hp
  unfold posN
  rw [take_snoc' hj, List.filter_append, List.length_append]
  have : [s[j]].filter (fun n => decide (n.par = (gN s (j + 1)).par)) = [s[j]] := by
    rw [List.filter_cons_of_pos (by rw [← gN_eq hj]; simpa using hp')]; rfl
  rw [this]
  simp only [Nat.add_sub_cancel, List.length_singleton, hp']
theorem pos_at {i : Nat} (hi : i < s.length) : (s.filter fun n => decide (n.par = (gN s i).par))[posN s i]? = some (gN s i) := by
  have := filter_at (q := fun n => decide (n.par = (gN s i).par)) hi (by rw [← gN_eq hi]; simp)
  rw [← gN_eq hi] at this
  exact this
theorem pos_from {p : Int} {j : Nat} (h : j < (s.filter fun n => decide (n.par = p)).length) : ∃ i, i < s.length ∧ (gN s i).par = p ∧ posN s i = j := by
  obtain ⟨i, hi, h1, h2⟩ := filter_from h
  have hpi : (gN s i).par = p := by rw [gN_eq hi]; simpa using h1
  exact ⟨i, hi, hpi, by unfold posN; rw [hpi]; exact h2⟩
def rkB (s : List Nt) (i : Nat) : Bool := (firstB s i && !decide ((gN s i).rank = 0)) || (!firstB s i && !decide ((gN s i).rank = IntKind.i64.wrap ((gN s (i - 1)).rank + 1)))
theorem rk_pos (hs : Srt s) (hl : s.length < 2^40) : (∀ i, i < s.length → rkB s i = false) ↔ ∀ i, i < s.length → (gN s i).rank = posN s i := by
  have hb : ∀ i, posN s i ≤ s.length := by
    intro i; unfold posN
    exact Nat.le_trans (List.length_filter_le _ _) (by rw [List.length_take]; omega)
  constructor
  · intro h i
    induction i with
    | zero =>
      intro hi
      have hf : firstB s 0 = true := first_iff.2 (.inl rfl)
      have := h 0 hi
      rw [pos_first hs hi hf]
      simp [rkB, hf] at this
      exact this
    | succ j ih =>
      intro hi
      have := h (j + 1) hi
      cases hf : firstB s (j + 1) with
      | true =>
        rw [pos_first hs hi hf]
        simp [rkB, hf] at this
        exact this
      | false =>
        have e := ih (by omega)
        have hbj := hb j
        have e2 := pos_next hi hf
        simp only [Nat.add_sub_cancel] at e2
        simp [rkB, hf] at this
        rw [this, e, e2, wrap64 (by omega)]; push_cast; rfl
  · intro h i hi
    cases hf : firstB s i with
    | true =>
      have := h i hi
      rw [pos_first hs hi hf] at this
      simp [rkB, hf, this]
    | false =>
      have e2 := pos_next hi hf
      have e := h i hi
      have e1 := h (i - 1) (by omega)
      have hbj := hb (i - 1)
      simp only [rkB, hf, Bool.false_and, Bool.false_or, Bool.not_false, Bool.true_and, Bool.not_eq_false', decide_eq_true_eq]
      rw [e, e1, e2, wrap64 (by omega)]; push_cast; rfl
theorem rank_all (hp : s.Perm (ofT d.notes t)) (hs : Srt s) (hl : s.length < 2^40) (hz : ∀ n ∈ s, n.fr = 0) :
    (∀ i, i < s.length → rkB s i = false) ↔ ∀ n ∈ ofT d.notes t, rankP (sibs d.notes t n.par) = true := by
  rw [rk_pos hs hl]
  constructor
  · intro h n hn
    rw [rankP_true]
    intro m hm
    rw [← (sibs_perm hp n.par).length_eq] at hm
    obtain ⟨i, hi, h1, h2⟩ := pos_from hm
    rw [List.any_eq_true]
    exact ⟨gN s i, (mem_sibs hp).2 ⟨i, hi, h1, rfl⟩, by rw [decide_eq_true_eq, h i hi, h2]⟩
  · intro h i hi
    have hr := rankP_true.1 (h _ (hp.mem_iff.1 (gN_mem hi)))
    have hlen := (sibs_perm hp (gN s i).par).length_eq
    have hpw : ((s.filter fun n => decide (n.par = (gN s i).par)).map (·.rank)).Pairwise (· ≤ ·) := by
      rw [List.pairwise_map, List.pairwise_filter, List.pairwise_iff_getElem]
      intro a b ha hb hab h1 h2
      simp only [decide_eq_true_eq] at h1 h2
      rw [← gN_eq ha] at h1 ⊢
      rw [← gN_eq hb] at h2 ⊢
      exact hs.rank a b hab hb (h1.trans h2.symm) (by rw [hz _ (gN_mem ha), hz _ (gN_mem hb)])
    have hin := in_row _ 0 hpw (fun n hn => by
      rw [List.length_map, hlen] at hn
      have := hr n hn
      rw [List.any_eq_true] at this
      obtain ⟨x, hx, hxr⟩ := this
      simp only [decide_eq_true_eq] at hxr
      rw [List.mem_map]
      exact ⟨x, (sibs_perm hp _).mem_iff.2 hx, by rw [hxr]; omega⟩)
    have hat := pos_at hi
    have hlt : posN s i < (s.filter fun n => decide (n.par = (gN s i).par)).length := (List.getElem?_eq_some_iff.1 hat).1
    have := hin (posN s i) (by rw [List.length_map]; exact hlt)
    rw [List.getElem?_map, hat] at this
    simp at this
    exact this
theorem label_all (hp : s.Perm (ofT d.notes t)) (hs : Srt s) : (∀ i, i < s.length → firstB s i = true) ↔ ∀ n ∈ ofT d.notes t, ¬ 1 < (sibs d.notes t n.par).length := by
  constructor
  · intro h n hn h1
    rw [← (sibs_perm hp n.par).length_eq] at h1
    obtain ⟨i, hi, _, h2⟩ := pos_from h1
    rw [pos_first hs hi (h i hi)] at h2
    cases h2
  · intro h i hi
    cases hf : firstB s i with
    | true => rfl
    | false =>
      exfalso
      apply h _ (hp.mem_iff.1 (gN_mem hi))
      have e2 := pos_next hi hf
      have hlt := (List.getElem?_eq_some_iff.1 (pos_at hi)).1
      rw [(sibs_perm hp (gN s i).par).length_eq] at hlt
      omega
end
end Go.V
