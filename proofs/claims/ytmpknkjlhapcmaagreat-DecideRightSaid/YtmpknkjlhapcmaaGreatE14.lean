/- The law of chapter 31 that Put and Drop of right decisions return right ones. -/
import Derived.Test.YtmpknkjlhapcmaaGreatE13
set_option linter.unusedSimpArgs false
set_option linter.unusedVariables false
set_option maxRecDepth 10000
namespace Go.V
open Go Go.Proofs

/-- Check of one decision, however long. -/
theorem refCheck1_ok (d : Dec) : PureR Tryz.prog 16 [decsD [d]] (int (checkL [d])) := by
  refine pure_of_body mixed Tryz.func16 rfl call_16 ?_
  simp [Tryz.f16, decsD]
  refine loop_rule mixed (fun k : Nat => { n := 74, next := 0, slots := [(0, .d (decsD [d])), (6, .d (decsD [d])), (7, .d (.int .i64 1)), (8, .d (.int .i64 k))], own := [] })
    (fun k => k = 0 ∨ (k = 1 ∧ checkAt [d] 0 = none)) (fun k => 1 - k) 0 (by simp) (by simp [decsD]) ?_
  rintro k (rfl | ⟨rfl, h⟩)
  · have hit := fun e => checkL_hit (l := [d]) (k := 0) (e := e) (by simp) (fun j hj => by omega)
    simp only [checkAt] at hit
    simp (decide := true) [decsD, Dec.row, int, I64]
    refine ECall.pure (by rfl) (refIdentifier_ok d.ref.rcd) (by simp) ?_
    cases h1 : isId d.ref.rcd
    · simp (decide := true) [int, hit 2 (by simp [h1])]
    simp (decide := true) [int]
    refine ECall.pure (by rfl) (refIdentifier_ok d.ref.note) (by simp) ?_
    cases h2 : isId d.ref.note
    · simp (decide := true) [int, hit 2 (by simp [h1, h2])]
    simp (decide := true) [int, partsD]
    by_cases h3 : d.pick = []
    · simp (decide := true) [h3, hit 4 (by simp [h1, h2, h3])]
    simp (decide := true) [h3]
    by_cases h4 : d.pick.length > 4
    · have h4i : (4 : Int) < (d.pick.length : Int) := by omega
      have h4j : ¬ (d.pick.length : Int) ≤ 4 := by omega
      simp (decide := true) [h4i, h4j, hit 11 (by simp [h1, h2, h3, h4])]
    have h4i : ¬ (4 : Int) < (d.pick.length : Int) := by omega
    have h4j : (d.pick.length : Int) ≤ 4 := by omega
    simp (decide := true) [h4i, h4j]
    refine loop_rule mixed (fun m : Nat => { n := 74, next := 1, slots := [(0, .d (decsD [d])), (3, .d (.int .i64 0)), (5, .d (.int .i64 0)), (6, .d (decsD [d])), (7, .d (.int .i64 1)), (8, .d (.int .i64 0))], own := [] })
      (fun m => True) (fun m => 0) 0 (by simp) (by simp [decsD, int, partsD, Dec.row]) ?_
    intro m _
    simp (decide := true) [int, I64, decsD, partsD]
    refine ⟨1, ?_⟩
    simp [checkAt, h1, h2, h3]
    exact ⟨by omega, rfl⟩
  · simp (decide := true) [decsD, int]
    rw [checkL_none (by intro j hj; simp at hj; subst hj; exact h)]
theorem good_fit {d : Dec} (h : checkL [d] = 0) : d.fit := by
  have := (((checkL_iff [d]).1 h).1 d (by simp)).le
  unfold Dec.fit; omega
theorem any_dec (m : List Dec) (d : Dec) (k : Nat) (h : k < m.length) : (m.take (k + 1)).any (fun x => decide (x = d)) = ((m.take k).any (fun x => decide (x = d)) || decide (m[k] = d)) := by
  rw [take_snoc h, List.any_append]; simp
theorem law_right (l : List Dec) (d : Dec) : PureR Tryz.prog 9 [decsD l, .agg d.row] (.bool true) := by
  refine pure_of_body mixed Tryz.func9 rfl call_9 ?_
  simp [Tryz.f9, decsD, Dec.row, int]
  refine ECall.pure (by rfl) (right_ok l) (by simp) ?_
  cases h : rightL l
  · simp
    refine ECall.pure (by rfl) awake31_R (by simp) ?_
    simp
  simp
  refine ECall.pure (by rfl) (refCheck1_ok d) (fun _ => rfl) ?_
  by_cases hd0 : checkL [d] = 0
  rotate_left
  · simp (decide := true) [int, hd0]
    refine ECall.pure (by rfl) awake31_R (by simp) ?_
    simp
  have hfew := rightL_few h
  have hlen := fewL_len hfew
  obtain ⟨h1, h2⟩ := fewL_fits hfew
  have hd : d.fit := good_fit hd0
  have hs := rightL_sorted h
  have hc : checkL l = 0 := by unfold rightL at h; rw [Bool.and_eq_true, decide_eq_true_eq] at h; exact h.2
  have hml := putN_len l d
  have hmf := putN_fits h2 hd
  have hnl : (dropL l d.ref).length ≤ l.length := List.length_filter_le _ _
  have hnf : Fits31 (dropL l d.ref) := fits_filter h2
  obtain ⟨m, hm⟩ : ∃ m, putN l d = m := ⟨_, rfl⟩
  obtain ⟨n, hn⟩ : ∃ n, dropL l d.ref = n := ⟨_, rfl⟩
  have p1 := putN_ok l d hs (by omega) h2 hd
  have p2 := drop_ok l d.ref (by omega)
  have c1 := right_put hc hd0
  have c2 := right_drop (r := d.ref) hc
  have c3 := of_drop l d.ref
  have c4 := drop_put hc hd0
  have c5 := part_len l d.ref
  have c6 := put_has (l := l) hd0
  have c7 := put_put hc hd0
  have c8 := put_picked (l := l) hc hd0
  have c9 := putN_sorted (d := d) hs
  rw [hm] at p1 hml hmf c1 c4 c6 c7 c8 c9
  rw [hn] at p2 hnl hnf c2 c3 c4 c5
  simp (decide := true) [int, hd0]
  refine scall_pure (by rfl) (by rfl) p1 (by simp) ?_
  simp (decide := true) [int]
  refine scall_pure (by rfl) (by rfl) p2 (by simp) ?_
  simp (decide := true) [int]
  refine ECall.pure (by rfl) (refCheck_ok m (by omega) hmf) (by simp) ?_
  simp (decide := true) [int, c1]
  refine ECall.pure (by rfl) (refCheck_ok n (by omega) hnf) (by simp) ?_
  simp (decide := true) [int, c2]
  refine ECall.pure (by rfl) (refOf_ok n d.ref (by omega)) (by simp) ?_
  simp (decide := true) [int, c3, decsD]
  have p3 := drop_ok m d.ref (by omega)
  rw [c4] at p3
  refine ECall.pure (by rfl) p3 (by simp) ?_
  simp (decide := true) [int]
  refine ECall.pure (by rfl) (refSame31_ok n n (by omega) hnf hnf) (by simp) ?_
  simp (decide := true) [int, decsD]
  refine ECall.pure (by rfl) (refOf_ok l d.ref (by omega)) (by simp) ?_
  have c5' : (n.length : Int) + ((ofL l d.ref).length : Int) = (l.length : Int) := by omega
  simp (decide := true) [int, decsD, c5', I64]
  refine ⟨by omega, ?_⟩
  refine loop_rule mixed (fun k : Nat => { n := 135, next := 1, slots := [(0, .d (decsD l)), (3, .bp 0 0), (5, .d (decsD m)), (7, .d (.bool ((m.take k).any fun x => decide (x = d)))), (66, .d (decsD m)), (67, .d (.int .i64 m.length)), (68, .d (.int .i64 k))], own := [(0, .box 33 [.d (int d.ref.rcd), .d (int d.ref.note), .d (.bool d.yes), .d (partsD d.pick)])] })
    (fun k => k ≤ m.length) (fun k => m.length - k) 0 (by simp) (by simp [decsD, int, partsD]) ?_
  intro k hk
  by_cases hlt : k < m.length
  · have e1 : m[k]? = some m[k] := List.getElem?_eq_getElem hlt
    have hany := any_dec m d k hlt
    cases hf : (m.take k).any fun x => decide (x = d)
    · rw [hf, Bool.false_or] at hany
      by_cases q1 : m[k].ref.rcd = d.ref.rcd
      · by_cases q2 : m[k].ref.note = d.ref.note
        · by_cases q3 : m[k].yes = d.yes
          · simp (decide := true) [e1, Dec.row, int, I64, decsD, partsD, hlt, q1, q2, q3]
            refine scall_pure (by rfl) (by rfl) (same29_ok m[k].pick d.pick (hmf _ (List.getElem_mem hlt)) hd) (by simp) ?_
            simp (decide := true) [int, I64, decsD, partsD]
            exact ⟨by omega, k + 1, hlt, by omega, by rw [hany]; simp [dec_eq, rf_eq, q1, q2, q3], by omega⟩
          · simp (decide := true) [e1, Dec.row, int, I64, decsD, partsD, hlt, q1, q2, q3]
            exact ⟨by omega, k + 1, hlt, by omega, by (have hne : decide (m[k] = d) = false := by simp [dec_eq, rf_eq, q3]); rw [hne] at hany; simpa using hany, by omega⟩
        · simp (decide := true) [e1, Dec.row, int, I64, decsD, partsD, hlt, q1, q2]
          exact ⟨by omega, k + 1, hlt, by omega, by (have hne : decide (m[k] = d) = false := by simp [dec_eq, rf_eq, q2]); rw [hne] at hany; simpa using hany, by omega⟩
      · simp (decide := true) [e1, Dec.row, int, I64, decsD, partsD, hlt, q1]
        exact ⟨by omega, k + 1, hlt, by omega, by (have hne : decide (m[k] = d) = false := by simp [dec_eq, rf_eq, q1]); rw [hne] at hany; simpa using hany, by omega⟩
    · rw [hf, Bool.true_or] at hany
      simp (decide := true) [e1, Dec.row, int, I64, decsD, partsD, hlt]
      exact ⟨by omega, k + 1, hlt, by omega, by simpa using hany, by omega⟩
  · have : k = m.length := by omega
    subst this
    have hfd : (m.any fun x => decide (x = d)) = true := List.any_eq_true.2 ⟨d, c6, by simp⟩
    rw [List.take_length, hfd]
    simp (decide := true) [int, decsD, partsD]
    refine ECall.pure (by rfl) (picked_ok m d.ref (by omega)) (by simp) ?_
    simp (decide := true) [anaD, int]
    have p5 := putN_ok m d c9 (by omega) hmf hd
    rw [c7] at p5
    cases y : d.yes
    · simp (decide := true) [int, y]
      simp only [Dec.row, y, int] at p5
      refine ECall.pure (by rfl) p5 (by simp) ?_
      simp (decide := true) [int]
      refine ECall.pure (by rfl) (refSame31_ok m m (by omega) hmf hmf) (by simp) ?_
      simp (decide := true) [int]
      refine ECall.pure (by rfl) awake31_R (by simp) ?_
      simp (decide := true)
    · have hpk := c8 y
      simp (decide := true) [int, y, hpk]
      refine ECall.pure (by rfl) (same29_ok d.pick d.pick hd hd) (by simp) ?_
      simp (decide := true) [int, y]
      simp only [Dec.row, y, int] at p5
      refine ECall.pure (by rfl) p5 (by simp) ?_
      simp (decide := true) [int]
      refine ECall.pure (by rfl) (refSame31_ok m m (by omega) hmf hmf) (by simp) ?_
      simp (decide := true) [int]
      refine ECall.pure (by rfl) awake31_R (by simp) ?_
      simp (decide := true)
end Go.V
