/- What Put and Drop do to right decisions; the law of chapter 31 on it. -/
import Derived.Test.YtmpknkjlhapcmaaGreatE12
set_option linter.unusedSimpArgs false
set_option linter.unusedVariables false
set_option maxRecDepth 10000
namespace Go.V
open Go Go.Proofs

def ofL (l : List Dec) (r : Rf) : List Dec := l.filter fun d => decide (d.ref = r)
theorem refOf_ok (l : List Dec) (r : Rf) (hl : l.length < 2^40) : PureR Tryz.prog 34 [decsD l, refD r] (decsD (ofL l r)) := by
  refine pure_of_body mixed Tryz.func34 rfl call_34 ?_
  simp [Tryz.f34, decsD, refD, Rf.row, int]
  refine loop_rule mixed (fun k : Nat => { n := 28, next := 3, slots := [(0, .d (decsD l)), (3, .bp 0 0), (5, .ar 2), (7, .d (decsD l)), (8, .d (.int .i64 l.length)), (9, .d (.int .i64 k))], own := [(0, .box 28 [.d (int r.rcd), .d (int r.note)]), (2, .arr 33 4 (((l.take k).filter fun d => decide (d.ref = r)).map Dec.row))], moved := [2] })
    (fun k => k ≤ l.length) (fun k => l.length - k) 0 (by simp) (by simp [decsD, int]) ?_
  intro k hk
  by_cases hlt : k < l.length
  · have e1 : l[k]? = some l[k] := List.getElem?_eq_getElem hlt
    have hfs := filter_snoc (p := fun d : Dec => decide (d.ref = r)) hlt
    have hln := filter_len (fun d : Dec => decide (d.ref = r)) l k
    by_cases g : l[k].ref = r
    · have g' := rf_eq.1 g
      simp [g] at hfs
      simp (decide := true) [decsD, Dec.row, int, e1, hlt, I64, g'.1, g'.2, maxLen]
      exact ⟨by omega, by omega, by omega, k + 1, hlt, by omega, by omega, by simp [hfs, Dec.row, int, g'.1, g'.2]⟩
    · have g' : l[k].ref.rcd = r.rcd → ¬ l[k].ref.note = r.note := fun a b => g (rf_eq.2 ⟨a, b⟩)
      simp [g] at hfs
      by_cases g1 : l[k].ref.rcd = r.rcd
      · have g2 := g' g1
        simp (decide := true) [decsD, Dec.row, int, e1, hlt, I64, g1, g2, maxLen]
        exact ⟨by omega, k + 1, hlt, by omega, by omega, by simp [hfs]⟩
      · simp (decide := true) [decsD, Dec.row, int, e1, hlt, I64, g1, maxLen]
        exact ⟨by omega, k + 1, hlt, by omega, by omega, by simp [hfs]⟩
  · have : k = l.length := by omega
    subst this
    simp (decide := true) [decsD, int, ofL]
theorem rivals_symm (x y : Dec) : rivalsD x y = rivalsD y x := by
  unfold rivalsD
  have : decide (x.ref = y.ref) = decide (y.ref = x.ref) := by rw [Bool.eq_iff_iff]; simp [eq_comm]
  rw [this]; cases x.yes <;> cases y.yes <;> simp
structure GoodD (x : Dec) : Prop where
  rcd : isId x.ref.rcd = true
  note : isId x.ref.note = true
  ne : x.pick.length ≠ 0
  le : x.pick.length ≤ 4
theorem checkL_iff (l : List Dec) : checkL l = 0 ↔ (∀ x ∈ l, GoodD x) ∧ SortedD l ∧ ∀ x ∈ l, ∀ y ∈ l, x ≠ y → rivalsD x y = false := by
  constructor
  · intro h
    have at' := fun k (hk : k < l.length) => (checkAt_none hk).1 (checkL_zero h k hk)
    refine ⟨fun x hx => ?_, checkL_sorted h, fun x hx y hy hne => ?_⟩
    · obtain ⟨k, hk, rfl⟩ := List.mem_iff_getElem.1 hx
      have := at' k hk
      exact ⟨this.rcd, this.note, this.ne, this.le⟩
    · obtain ⟨i, hi, rfl⟩ := List.mem_iff_getElem.1 hx
      obtain ⟨j, hj, rfl⟩ := List.mem_iff_getElem.1 hy
      have key : ∀ i j (hi : i < l.length) (hj : j < l.length), i < j → rivalsD l[j] l[i] = false := by
        intro i j hi hj hij
        have := (at' j hj).riv
        rw [List.any_eq_false] at this
        have := this l[i] (by rw [List.mem_take_iff_getElem]; exact ⟨i, by omega, rfl⟩)
        simpa using this
      rcases Nat.lt_trichotomy i j with h1 | h1 | h1
      · rw [rivals_symm]; exact key i j hi hj h1
      · subst h1; exact absurd rfl hne
      · exact key j i hj hi h1
  · rintro ⟨h1, h2, h3⟩
    refine checkL_none fun k hk => (checkAt_none hk).2 ?_
    have hg := h1 _ (List.getElem_mem hk)
    unfold SortedD at h2
    rw [List.pairwise_iff_getElem] at h2
    refine ⟨hg.rcd, hg.note, hg.ne, hg.le, fun j hj => h2 j k (by omega) hk (by omega), ?_⟩
    rw [List.any_eq_false]
    intro y hy
    rw [List.mem_take_iff_getElem] at hy
    obtain ⟨i, hi, rfl⟩ := hy
    have hil : i < l.length := by omega
    have hne : l[k] ≠ l[i] := by
      intro e
      have := h2 i k hil hk (by omega)
      rw [e, lessD_irrefl] at this; cases this
    rw [h3 _ (List.getElem_mem hk) _ (List.getElem_mem hil) hne]; simp
theorem gone_self (d : Dec) : goneD d d = true := by simp [goneD, (cmpD_zero d d).2 ⟨rfl, rfl⟩]
theorem gone_ref {d x : Dec} (h : goneD d x = true) : x.ref = d.ref := by
  unfold goneD at h
  rw [Bool.or_eq_true] at h
  rcases h with h | h
  · exact ((cmpD_zero x d).1 (by simpa using h)).1
  · simp [rivalsD] at h; exact h.2.2.symm
theorem right_put {l : List Dec} {d : Dec} (h : checkL l = 0) (hd : checkL [d] = 0) : checkL (putN l d) = 0 := by
  obtain ⟨h1, h2, h3⟩ := (checkL_iff l).1 h
  obtain ⟨g1, _, _⟩ := (checkL_iff [d]).1 hd
  refine (checkL_iff _).2 ⟨fun x hx => ?_, putN_sorted h2, fun x hx y hy hne => ?_⟩
  · rcases (putN_iff hd).1 hx with e | ⟨hx, _⟩
    · exact g1 x (by simp [e])
    · exact h1 x hx
  · have key : ∀ y, y ∈ l → goneD d y = false → rivalsD d y = false := by
      intro y _ hg
      unfold goneD at hg
      rw [Bool.or_eq_false_iff] at hg
      exact hg.2
    rcases (putN_iff hd).1 hx with e | ⟨hx', gx⟩
    · subst e
      rcases (putN_iff hd).1 hy with e | ⟨hy', gy⟩
      · exact absurd e.symm hne
      · exact key y hy' gy
    · rcases (putN_iff hd).1 hy with e | ⟨hy', gy⟩
      · subst e; rw [rivals_symm]; exact key x hx' gx
      · exact h3 x hx' y hy' hne
theorem right_drop {l : List Dec} {r : Rf} (h : checkL l = 0) : checkL (dropL l r) = 0 := by
  obtain ⟨h1, h2, h3⟩ := (checkL_iff l).1 h
  have hm : ∀ {x}, x ∈ dropL l r → x ∈ l := fun hx => (List.mem_filter.1 hx).1
  exact (checkL_iff _).2 ⟨fun x hx => h1 x (hm hx), sorted_filter _ h2, fun x hx y hy => h3 x (hm hx) y (hm hy)⟩
theorem of_drop (l : List Dec) (r : Rf) : ofL (dropL l r) r = [] := by
  unfold ofL dropL
  rw [List.filter_filter, List.filter_eq_nil_iff]
  intro x _; simp
theorem drop_put {l : List Dec} {d : Dec} (h : checkL l = 0) (hd : checkL [d] = 0) : dropL (putN l d) d.ref = dropL l d.ref := by
  obtain ⟨h1, h2, h3⟩ := (checkL_iff l).1 h
  refine sorted_ext (sorted_filter _ (putN_sorted h2)) (sorted_filter _ h2) fun x => ?_
  unfold dropL
  rw [List.mem_filter, List.mem_filter, putN_iff hd]
  constructor
  · rintro ⟨rfl | ⟨hx, _⟩, hr⟩
    · simp at hr
    · exact ⟨hx, hr⟩
  · rintro ⟨hx, hr⟩
    refine ⟨.inr ⟨hx, ?_⟩, hr⟩
    cases hg : goneD d x with
    | false => rfl
    | true => have := gone_ref hg; simp [this] at hr
theorem part_len (l : List Dec) (r : Rf) : (dropL l r).length + (ofL l r).length = l.length := by
  unfold dropL ofL
  induction l with
  | nil => rfl
  | cons x l ih => by_cases h : x.ref = r <;> simp [h] <;> omega
theorem put_has {l : List Dec} {d : Dec} (hd : checkL [d] = 0) : d ∈ putN l d := (putN_iff hd).2 (.inl rfl)
theorem put_put {l : List Dec} {d : Dec} (h : checkL l = 0) (hd : checkL [d] = 0) : putN (putN l d) d = putN l d := by
  have hs := checkL_sorted h
  refine sorted_ext (putN_sorted (putN_sorted hs)) (putN_sorted hs) fun x => ?_
  rw [putN_iff hd]
  constructor
  · rintro (rfl | ⟨hx, _⟩)
    · exact put_has hd
    · exact hx
  · intro hx
    rcases (putN_iff hd).1 hx with e | ⟨h1, h2⟩
    · exact .inl e
    · exact .inr ⟨hx, h2⟩
theorem put_picked {l : List Dec} {d : Dec} (h : checkL l = 0) (hd : checkL [d] = 0) (hy : d.yes = true) : pickedL (putN l d) d.ref = (d.pick, true) := by
  obtain ⟨_, _, h3⟩ := (checkL_iff _).1 (right_put h hd)
  unfold pickedL
  cases hf : (putN l d).find? (fun x => decide (x.ref = d.ref) && x.yes) with
  | none =>
    rw [List.find?_eq_none] at hf
    have := hf d (put_has hd)
    simp [hy] at this
  | some x =>
    have hx := List.mem_of_find?_eq_some hf
    have hp := List.find?_some hf
    simp at hp
    by_cases e : x = d
    · subst e; rfl
    · have := h3 x hx d (put_has hd) e
      simp [rivalsD, hp.1, hp.2, hy] at this
end Go.V
