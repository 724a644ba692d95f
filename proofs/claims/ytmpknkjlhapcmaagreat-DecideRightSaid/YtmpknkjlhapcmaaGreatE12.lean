/- Putting decisions: what is there afterwards; the law that the order of rejections does not matter. -/
import Derived.Test.YtmpknkjlhapcmaaGreatE11
set_option linter.unusedSimpArgs false
set_option linter.unusedVariables false
set_option maxRecDepth 10000
namespace Go.V
open Go Go.Proofs

theorem sorted_ext : ∀ {l m : List Dec}, SortedD l → SortedD m → (∀ x, x ∈ l ↔ x ∈ m) → l = m
  | [], [], _, _, _ => rfl
  | [], y :: m, _, _, h => by have := (h y).2 (by simp); cases this
  | x :: l, [], _, _, h => by have := (h x).1 (by simp); cases this
  | x :: l, y :: m, hl, hm, h => by
    have hl1 := List.pairwise_cons.1 hl
    have hm1 := List.pairwise_cons.1 hm
    have hxy : x = y := by
      rcases List.mem_cons.1 ((h x).1 (by simp)) with e | h1
      · exact e
      · rcases List.mem_cons.1 ((h y).2 (by simp)) with e | h2
        · exact e.symm
        · have a := hm1.1 x h1
          have b := hl1.1 y h2
          rw [lessD_asym a] at b; cases b
    subst hxy
    have ht : ∀ z, z ∈ l ↔ z ∈ m := by
      intro z
      constructor
      · intro hz
        rcases List.mem_cons.1 ((h z).1 (by simp [hz])) with e | h1
        · subst e; have := hl1.1 z hz; rw [lessD_irrefl] at this; cases this
        · exact h1
      · intro hz
        rcases List.mem_cons.1 ((h z).2 (by simp [hz])) with e | h1
        · subst e; have := hm1.1 z hz; rw [lessD_irrefl] at this; cases this
        · exact h1
    rw [sorted_ext hl1.2 hm1.2 ht]
theorem sorted_filter {l : List Dec} (p : Dec → Bool) (h : SortedD l) : SortedD (l.filter p) := List.Pairwise.filter p h
theorem greater_of {d x : Dec} (h : lessD x d = false) (h' : goneD d x = false) : lessD d x = true := by
  cases hl : lessD d x with
  | true => rfl
  | false =>
    have := (cmpD_zero x d).2 (lessD_total h hl)
    simp [goneD, this] at h'
theorem putN_sorted {l : List Dec} {d : Dec} (h : SortedD l) : SortedD (putN l d) := by
  unfold putN
  split
  · unfold SortedD
    rw [List.pairwise_append]
    have hg : ∀ y ∈ keepG d l, lessD d y = true := by
      intro y hy
      have := (List.mem_filter.1 hy).2
      simp at this
      exact greater_of this.2 this.1
    have hk : ∀ x ∈ keepL d l, lessD x d = true := by
      intro x hx
      have := (List.mem_filter.1 hx).2
      simp at this
      exact this.2
    refine ⟨sorted_filter _ h, List.pairwise_cons.2 ⟨hg, sorted_filter _ h⟩, ?_⟩
    intro a ha b hb
    rcases List.mem_cons.1 hb with e | hb
    · subst e; exact hk a ha
    · exact lessD_trans (hk a ha) (hg b hb)
  · exact h
theorem putN_iff {l : List Dec} {d x : Dec} (hc : checkL [d] = 0) : x ∈ putN l d ↔ x = d ∨ (x ∈ l ∧ goneD d x = false) := by
  unfold putN keepL keepG
  rw [if_pos hc, List.mem_append, List.mem_cons, List.mem_filter, List.mem_filter]
  cases h : lessD x d <;> simp [h, or_comm]
theorem gone_no {d x : Dec} (hy : d.yes = false) : goneD d x = false ↔ cmpD x d ≠ 0 := by
  simp [goneD, rivalsD, hy]
theorem cmpD_symm {a b : Dec} : cmpD a b ≠ 0 ↔ cmpD b a ≠ 0 := by
  rw [ne_eq, cmpD_zero, ne_eq, cmpD_zero]
  constructor <;> (intro h e; exact h ⟨e.1.symm, e.2.symm⟩)
theorem put_swap {l : List Dec} {a b : Dec} (hs : SortedD l) (ha : a.yes = false) (hb : b.yes = false) (hne : ¬ (a.ref = b.ref ∧ a.pick = b.pick)) : putN (putN l a) b = putN (putN l b) a := by
  have hab : cmpD a b ≠ 0 := by rw [ne_eq, cmpD_zero]; exact hne
  by_cases ca : checkL [a] = 0
  · by_cases cb : checkL [b] = 0
    · refine sorted_ext (putN_sorted (putN_sorted hs)) (putN_sorted (putN_sorted hs)) fun x => ?_
      rw [putN_iff cb, putN_iff ca, putN_iff ca, putN_iff cb, gone_no ha, gone_no hb]
      constructor
      · rintro (rfl | ⟨rfl | ⟨h1, h2⟩, h3⟩)
        · exact .inr ⟨.inl rfl, cmpD_symm.1 hab⟩
        · exact .inl rfl
        · exact .inr ⟨.inr ⟨h1, h3⟩, h2⟩
      · rintro (rfl | ⟨rfl | ⟨h1, h2⟩, h3⟩)
        · exact .inr ⟨.inl rfl, hab⟩
        · exact .inl rfl
        · exact .inr ⟨.inr ⟨h1, h3⟩, h2⟩
    · have e1 : ∀ m, putN m b = m := fun m => by unfold putN; rw [if_neg cb]
      rw [e1, e1]
  · have e1 : ∀ m, putN m a = m := fun m => by unfold putN; rw [if_neg ca]
    rw [e1, e1]
theorem putN_ok (l : List Dec) (d : Dec) (hs : SortedD l) (hl : l.length < 2^39) (hf : Fits31 l) (hd : d.fit) : PureR Tryz.prog 19 [decsD l, .agg d.row] (decsD (putN l d)) := by
  have := put_ok l d hl hf hd
  rwa [putP_eq hs] at this
theorem law_order (l : List Dec) (a b : Dec) : PureR Tryz.prog 11 [decsD l, .agg a.row, .agg b.row] (.bool true) := by
  refine pure_of_body mixed Tryz.func11 rfl call_11 ?_
  simp [Tryz.f11, decsD, Dec.row, int]
  refine ECall.pure (by rfl) (right_ok l) (by simp) ?_
  cases h : rightL l
  · simp
    refine ECall.pure (by rfl) awake31_R (by simp) ?_
    simp
  simp
  refine ECall.pure (by rfl) (few_ok [a, b]) (fun _ => rfl) ?_
  cases h' : fewL [a, b]
  · simp
    refine ECall.pure (by rfl) awake31_R (by simp) ?_
    simp
  have hfew := rightL_few h
  have hlen := fewL_len hfew
  obtain ⟨h1, h2⟩ := fewL_fits hfew
  have ha : a.fit := (fewL_fits h').2 a (by simp)
  have hb : b.fit := (fewL_fits h').2 b (by simp)
  have hs := rightL_sorted h
  cases y1 : a.yes
  rotate_left
  · simp (decide := true)
    refine ECall.pure (by rfl) awake31_R (by simp) ?_
    simp
  cases y2 : b.yes
  rotate_left
  · simp (decide := true)
    refine ECall.pure (by rfl) awake31_R (by simp) ?_
    simp
  have la := putN_len l a
  have lb := putN_len l b
  have lab := putN_len (putN l a) b
  have fa := putN_fits h2 ha
  have fb := putN_fits h2 hb
  have main : ¬ (a.ref = b.ref ∧ a.pick = b.pick) → putN (putN l a) b = putN (putN l b) a := put_swap hs y1 y2
  have p1 := putN_ok l a hs (by omega) h2 ha
  have p2 := putN_ok (putN l a) b (putN_sorted hs) (by omega) fa hb
  have p3 := putN_ok l b hs (by omega) h2 hb
  have p4 := putN_ok (putN l b) a (putN_sorted hs) (by omega) fb ha
  have p5 := refSame31_ok (putN (putN l a) b) (putN (putN l a) b) (by omega) (putN_fits fa hb) (putN_fits fa hb)
  simp only [Dec.row, y1, y2, int] at p1 p2 p3 p4
  by_cases q1 : a.ref.rcd = b.ref.rcd
  · by_cases q2 : a.ref.note = b.ref.note
    · simp (decide := true) [q1, q2]
      refine ECall.pure (by rfl) (same29_ok a.pick b.pick ha hb) (by simp) ?_
      by_cases q3 : a.pick = b.pick
      · simp (decide := true) [q3]
        refine ECall.pure (by rfl) awake31_R (by simp) ?_
        simp
      · rw [← main (fun e => q3 e.2)] at p4
        simp (decide := true) [q3]
        rw [q1, q2] at p1 p4
        refine scall_pure (by rfl) (by rfl) p1 (by simp) ?_
        simp (decide := true)
        refine scall_pure (by rfl) (by rfl) p2 (by simp) ?_
        simp (decide := true)
        refine scall_pure (by rfl) (by rfl) p3 (by simp) ?_
        simp (decide := true)
        refine scall_pure (by rfl) (by rfl) p4 (by simp) ?_
        simp (decide := true)
        refine scall_pure (by rfl) (by rfl) p5 (by simp) ?_
        simp (decide := true)
        refine scall_pure (by rfl) (by rfl) awake31_R (by simp) ?_
        simp (decide := true)
    · rw [← main (fun e => q2 (rf_eq.1 e.1).2)] at p4
      simp (decide := true) [q1, q2]
      rw [q1] at p1 p4
      refine scall_pure (by rfl) (by rfl) p1 (by simp) ?_
      simp (decide := true)
      refine scall_pure (by rfl) (by rfl) p2 (by simp) ?_
      simp (decide := true)
      refine scall_pure (by rfl) (by rfl) p3 (by simp) ?_
      simp (decide := true)
      refine scall_pure (by rfl) (by rfl) p4 (by simp) ?_
      simp (decide := true)
      refine scall_pure (by rfl) (by rfl) p5 (by simp) ?_
      simp (decide := true)
      refine scall_pure (by rfl) (by rfl) awake31_R (by simp) ?_
      simp (decide := true)
  · rw [← main (fun e => q1 (rf_eq.1 e.1).1)] at p4
    simp (decide := true) [q1]
    refine scall_pure (by rfl) (by rfl) p1 (by simp) ?_
    simp (decide := true)
    refine scall_pure (by rfl) (by rfl) p2 (by simp) ?_
    simp (decide := true)
    refine scall_pure (by rfl) (by rfl) p3 (by simp) ?_
    simp (decide := true)
    refine scall_pure (by rfl) (by rfl) p4 (by simp) ?_
    simp (decide := true)
    refine scall_pure (by rfl) (by rfl) p5 (by simp) ?_
    simp (decide := true)
    refine scall_pure (by rfl) (by rfl) awake31_R (by simp) ?_
    simp (decide := true)
end Go.V
