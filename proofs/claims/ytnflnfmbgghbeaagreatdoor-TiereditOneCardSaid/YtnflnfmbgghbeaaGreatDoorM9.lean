/- Contracts and plain laws of this seat: part M9. It needs no conditions. -/
import Derived.Test.YtnflnfmbgghbeaaGreatDoorM8
set_option linter.unusedVariables false
set_option linter.unusedSimpArgs false
set_option linter.unusedSectionVars false
set_option maxRecDepth 100000
/- The law of chapter 13 on one note changed: whatever the arguments, it returns true. -/
namespace Go.V
open Go Go.Proofs

theorem chk_some {d : Dc} {r : Dc} (h : chk d = (r, 0)) : checkE d = 0 ∧ r = d := by
  unfold chk at h
  split at h
  · rename_i e; cases h; exact ⟨e, rfl⟩
  · rename_i e; exact absurd (congrArg Prod.snd h) e
/-- Changed and changed back. -/
theorem chg_back {d : Dc} (h : Rgt d) {id : Int} {f g : Nt → Nt} (hf : ∀ n, (f n).id = n.id) (n : Nt) (hn : getN d.notes id = (n, true)) (hg : g (f n) = n) (ho : (chgE d id f).2 = 0) :
    getN (chgE d id f).1.notes id = (f n, true) ∧ chgE (chgE d id f).1 id g = (d, 0) ∧ Rgt (chgE d id f).1 := by
  have hm := getN_mem (l := d.notes) (id := id) (by rw [hn])
  rw [hn] at hm
  simp only at hm
  cases hi : d.notes.findIdx? fun n => decide (n.id = id) with
  | none =>
    rw [List.findIdx?_eq_none_iff] at hi
    have := hi n hm.1
    rw [hm.2] at this
    simp at this
  | some k =>
    have hi' := hi
    rw [List.findIdx?_eq_some_iff_getElem] at hi'
    obtain ⟨hk, hid, hbef⟩ := hi'
    rw [decide_eq_true_eq] at hid
    have hnk : d.notes[k] = n := by
      have := getN_of h (List.getElem_mem hk)
      rw [hid, hn] at this
      exact (congrArg Prod.fst this).symm
    have e0 : chgE d id f = chk { d with notes := d.notes.set k (f n) } := by
      unfold chgE; rw [hi]; simp only [List.getElem?_eq_getElem hk, Option.getD_some, hnk]
    obtain ⟨r, er⟩ : ∃ r, chgE d id f = r := ⟨_, rfl⟩
    have e1 : r = (r.1, 0) := by rw [← er, ← ho]
    rw [er, e1] at e0
    obtain ⟨c0, c1⟩ := chk_some e0.symm
    have hr2 := right_iff.1 c0
    have hfi : (d.notes.set k (f n)).findIdx? (fun n => decide (n.id = id)) = some k := by
      rw [List.findIdx?_eq_some_iff_getElem]
      refine ⟨by rw [List.length_set]; exact hk, by rw [List.getElem_set_self, hf, hm.2]; simp, fun j hj => ?_⟩
      rw [List.getElem_set_ne (by omega)]
      exact hbef j hj
    have hmem : f n ∈ (d.notes.set k (f n)) := List.mem_set hk _
    have hgn := getN_of hr2 hmem
    rw [hf, hm.2] at hgn
    have hb : chgE { d with notes := d.notes.set k (f n) } id g = chk d := by
      unfold chgE
      simp only [hfi]
      rw [List.getElem?_set_self hk, Option.getD_some, hg, List.set_set]
      have : d.notes.set k n = d.notes := by rw [← hnk]; exact List.set_getElem_self hk
      rw [this]
    rw [er, c1]
    refine ⟨hgn, ?_, hr2⟩
    rw [hb]
    unfold chk
    rw [if_pos (right_iff.2 h)]
theorem chk_len (d : Dc) : (chk d).1.notes.length ≤ d.notes.length ∧ (chk d).1.tiers.length ≤ d.tiers.length := by
  unfold chk
  split
  · exact ⟨Nat.le_refl _, Nat.le_refl _⟩
  · exact ⟨Nat.zero_le _, Nat.zero_le _⟩
theorem chg_len (d : Dc) (id : Int) (f : Nt → Nt) : (chgE d id f).1.notes.length ≤ d.notes.length ∧ (chgE d id f).1.tiers.length ≤ d.tiers.length := by
  unfold chgE
  split
  · rename_i k _
    have := chk_len { d with notes := d.notes.set k (f (d.notes[k]?.getD default)) }
    simpa using this
  · exact ⟨Nat.zero_le _, Nat.zero_le _⟩
theorem chg_none {d : Dc} {id : Int} {f : Nt → Nt} (h : (getN d.notes id).2 = false) : chgE d id f = (Dc.zero, 9) := by
  rw [find_get] at h
  unfold chgE
  cases hi : d.notes.findIdx? fun n => decide (n.id = id) with
  | none => rfl
  | some k => rw [hi] at h; cases h
set_option maxHeartbeats 8000000 in
theorem law_one (d : Dc) (id : Int) (x : ByteArray) (f t : Int) (hs : ∀ t ∈ d.tiers, t.name.size ≤ 9223372036854775807) (hx : ∀ n ∈ d.notes, n.text.size ≤ 9223372036854775807) :
    PureR Tryz.prog 7 [docD d, .agg [int id, .str x, int f, int t]] (.bool true) := by
  refine pure_of_body mixed Tryz.func7 rfl call_7 ?_
  simp (decide := true) [Tryz.f7, docD, Dc.row, int]
  refine ECall.pure (by rfl) (light13_ok d x hs hx) (by simp (decide := true) [docD, Dc.row]) ?_
  cases hl : lightB d x
  · simp (decide := true)
    refine ECall.pure (by rfl) awake13_R (by simp) ?_
    simp (decide := true)
  obtain ⟨h0, h1, h2, h3, hr⟩ := lightB_spec hl
  have hfit : d.fit := ⟨by omega, by omega, by omega⟩
  have hsame := refSame_ok d d hfit
  have w1 := write_ok d id x (by omega) (by omega)
  have m1 := move_ok d id f t (by omega) (by omega)
  have lw := chg_len d id (fun n => { n with text := x })
  have lm := chg_len d id (fun n => { n with fr := f, tO := t })
  have hg := refGet_ok d id (by omega)
  obtain ⟨⟨n, ok⟩, eg⟩ : ∃ g, getN d.notes id = g := ⟨_, rfl⟩
  have gw := refGet_ok (chgE d id (fun n => { n with text := x })).1 id (by omega)
  have gm := refGet_ok (chgE d id (fun n => { n with fr := f, tO := t })).1 id (by omega)
  have bw := write_ok (chgE d id (fun n => { n with text := x })).1 id n.text (by omega) (by omega)
  have bm := move_ok (chgE d id (fun n => { n with fr := f, tO := t })).1 id n.fr n.tO (by omega) (by omega)
  rw [eg] at hg
  simp (decide := true)
  refine ECall.pure (by rfl) hg (by simp (decide := true) [docD, Dc.row]) ?_
  cases ok with
  | false =>
    have n1 := chg_none (d := d) (id := id) (f := fun n => { n with text := x }) (by rw [eg])
    have n2 := chg_none (d := d) (id := id) (f := fun n => { n with fr := f, tO := t }) (by rw [eg])
    rw [n1] at w1
    rw [n2] at m1
    simp (decide := true) [getD', Nt.row, int]
    refine ECall.pure (by rfl) w1 (by simp (decide := true) [docD, Dc.row]) ?_
    simp (decide := true) [resD, docD, Dc.row, int]
    refine ECall.pure (by rfl) m1 (by simp (decide := true) [docD, Dc.row]) ?_
    simp (decide := true) [resD, docD, Dc.row, int]
    refine ECall.pure (by rfl) awake13_R (by simp) ?_
    simp (decide := true)
  | true =>
    have k1 := chg_back hr (id := id) (f := fun n => { n with text := x }) (g := fun m => { m with text := n.text }) (fun _ => rfl) n eg rfl
    have k2 := chg_back hr (id := id) (f := fun n => { n with fr := f, tO := t }) (g := fun m => { m with fr := n.fr, tO := n.tO }) (fun _ => rfl) n eg rfl
    generalize chgE d id (fun n => { n with text := x }) = r1 at w1 k1 gw bw
    generalize chgE d id (fun n => { n with fr := f, tO := t }) = r2 at m1 k2 gm bm
    simp (decide := true) [getD', Nt.row, int]
    refine ECall.pure (by rfl) w1 (by simp (decide := true) [docD, Dc.row]) ?_
    simp (decide := true) [resD, docD, Dc.row, int]
    refine ECall.pure (by rfl) m1 (by simp (decide := true) [docD, Dc.row]) ?_
    have step2 : True := trivial
    by_cases o1 : r1.2 = 0
    · obtain ⟨g1, g2, _⟩ := k1 o1
      rw [g1] at gw
      rw [g2] at bw
      simp (decide := true) [resD, docD, Dc.row, int, o1]
      refine ECall.pure (by rfl) gw (by simp (decide := true) [docD, Dc.row]) ?_
      simp (decide := true) [getD', Nt.row, int]
      refine ECall.pure (by rfl) bw (by simp (decide := true) [docD, Dc.row]) ?_
      simp (decide := true) [resD, docD, Dc.row, int]
      refine ECall.pure (by rfl) hsame (by simp (decide := true) [docD, Dc.row]) ?_
      by_cases o2 : r2.2 = 0
      · obtain ⟨g3, g4, _⟩ := k2 o2
        rw [g3] at gm
        rw [g4] at bm
        simp (decide := true) [resD, docD, Dc.row, int, o2]
        refine ECall.pure (by rfl) gm (by simp (decide := true) [docD, Dc.row]) ?_
        simp (decide := true) [getD', Nt.row, int]
        refine ECall.pure (by rfl) bm (by simp (decide := true) [docD, Dc.row]) ?_
        simp (decide := true) [resD, docD, Dc.row, int]
        refine ECall.pure (by rfl) hsame (by simp (decide := true) [docD, Dc.row]) ?_
        simp (decide := true)
        refine ECall.pure (by rfl) awake13_R (by simp) ?_
        simp (decide := true)
      · simp (decide := true) [resD, docD, Dc.row, int, o2]
        refine ECall.pure (by rfl) awake13_R (by simp) ?_
        simp (decide := true)
    · simp (decide := true) [resD, docD, Dc.row, int, o1]
      by_cases o2 : r2.2 = 0
      · obtain ⟨g3, g4, _⟩ := k2 o2
        rw [g3] at gm
        rw [g4] at bm
        simp (decide := true) [resD, docD, Dc.row, int, o2]
        refine ECall.pure (by rfl) gm (by simp (decide := true) [docD, Dc.row]) ?_
        simp (decide := true) [getD', Nt.row, int]
        refine ECall.pure (by rfl) bm (by simp (decide := true) [docD, Dc.row]) ?_
        simp (decide := true) [resD, docD, Dc.row, int]
        refine ECall.pure (by rfl) hsame (by simp (decide := true) [docD, Dc.row]) ?_
        simp (decide := true)
        refine ECall.pure (by rfl) awake13_R (by simp) ?_
        simp (decide := true)
      · simp (decide := true) [resD, docD, Dc.row, int, o2]
        refine ECall.pure (by rfl) awake13_R (by simp) ?_
        simp (decide := true)
theorem law_one1 (d : Dc) (c : Chg) (hs : ∀ t ∈ d.tiers, t.name.size ≤ 9223372036854775807) (hx : ∀ n ∈ d.notes, n.text.size ≤ 9223372036854775807) :
    PureR Tryz.prog 7 [docD d, chgD c] (.bool true) := law_one d c.id c.text c.fr c.tt hs hx
end Go.V
