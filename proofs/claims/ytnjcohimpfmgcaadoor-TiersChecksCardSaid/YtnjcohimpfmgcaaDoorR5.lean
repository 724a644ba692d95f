/- Contracts: the siblings of a note, their overlaps and ranks, by the reference of chapter 12. -/
import Derived.Test.YtnjcohimpfmgcaaDoorR4
set_option linter.unusedSimpArgs false
set_option linter.unusedVariables false
set_option maxRecDepth 10000
namespace Go.V
open Go Go.Proofs

def sibs (l : List Nt) (t p : Int) : List Nt := l.filter fun n => decide (n.tier = t) && decide (n.par = p)
theorem sibs_len (l : List Nt) (t p : Int) : (sibs l t p).length ≤ l.length := List.length_filter_le _ _
theorem siblings_ok (d : Dc) (t p : Int) (hl : d.notes.length < 2^40) : PureR Tryd.prog 56 [docD d, int t, int p] (notesD (sibs d.notes t p)) := by
  refine pure_of_body_frz mixed Tryd.func56 rfl call_56 [2] ?_
  simp (decide := true) [Tryd.f56, docD, Dc.row, int, ints, tiersD]
  refine loop_rule mixed (fun k : Nat => { n := 44, next := 3, slots := [(1, .d (int t)), (2, .d (int p)), (3, .bp 0 0), (7, .ar 2), (8, .d (.int .i64 k))], own := [(0, .box 32 (docCells d)), (2, .arr 39 7 ((sibs (d.notes.take k) t p).map Nt.row))], moved := [2] })
    (fun k => k ≤ d.notes.length) (fun k => d.notes.length - k) 0 (by simp) (by simp (decide := true) [int, ints, tiersD, notesD, sibs]) ?_
  intro k hk
  by_cases hlt : k < d.notes.length
  · have hlt' : (k : Int) < d.notes.length := by omega
    obtain ⟨n, en'⟩ : ∃ n, d.notes[k] = n := ⟨_, rfl⟩
    have en : d.notes[k]? = some n := by rw [List.getElem?_eq_getElem hlt, en']
    have hsn : sibs (d.notes.take (k + 1)) t p = sibs (d.notes.take k) t p ++ (if n.tier = t ∧ n.par = p then [n] else []) := by
      rw [take_snoc' hlt]; unfold sibs; rw [List.filter_append, en']
      by_cases h1 : n.tier = t <;> by_cases h2 : n.par = p <;> simp [h1, h2]
    have hlen := sibs_len (d.notes.take k) t p
    have hwk : (d.notes.take k).length = k := by rw [List.length_take]; omega
    rw [hwk] at hlen
    generalize sibs (d.notes.take k) t p = W at hsn hlen ⊢
    by_cases h1 : n.tier = t
    · by_cases h2 : n.par = p
      · rw [if_pos ⟨h1, h2⟩] at hsn
        simp (decide := true) [notesD, Nt.row, int, hlt, hlt', en, en', I64, h1, h2]
        refine ⟨by omega, by unfold maxLen; omega, by omega, k + 1, hlt, by omega, by omega, ?_⟩
        rw [hsn]; simp [Nt.row, int, h1, h2]
      · rw [if_neg (fun h => h2 h.2), List.append_nil] at hsn
        simp (decide := true) [notesD, Nt.row, int, hlt, hlt', en, en', I64, h1, h2]
        exact ⟨by omega, k + 1, hlt, by omega, by omega, by rw [hsn]⟩
    · rw [if_neg (fun h => h1 h.1), List.append_nil] at hsn
      simp (decide := true) [notesD, Nt.row, int, hlt, hlt', en, en', I64, h1]
      exact ⟨by omega, k + 1, hlt, by omega, by omega, by rw [hsn]⟩
  · have : k = d.notes.length := by omega
    subst this
    rw [List.take_length]
    simp (decide := true) [notesD, int]
def spansOf (l : List Nt) : List Sp := l.map fun n => ⟨n.fr, n.tO⟩
theorem spans_ok (l : List Nt) (hl : l.length < 2^40) : PureR Tryd.prog 60 [notesD l] (spansD (spansOf l)) := by
  refine pure_of_body_frz mixed Tryd.func60 rfl call_60 [1] ?_
  simp (decide := true) [Tryd.f60, int]
  refine loop_rule mixed (fun k : Nat => { n := 21, next := 2, slots := [(0, .d (notesD l)), (3, .ar 1), (4, .d (.int .i64 k))], own := [(1, .arr 37 2 ((spansOf (l.take k)).map Sp.row))], moved := [1] })
    (fun k => k ≤ l.length) (fun k => l.length - k) 0 (by simp) (by simp (decide := true) [int, notesD, spansOf]) ?_
  intro k hk
  by_cases hlt : k < l.length
  · have hlt' : (k : Int) < l.length := by omega
    obtain ⟨n, en'⟩ : ∃ n, l[k] = n := ⟨_, rfl⟩
    have en : l[k]? = some n := by rw [List.getElem?_eq_getElem hlt, en']
    have hsn : spansOf (l.take (k + 1)) = spansOf (l.take k) ++ [⟨n.fr, n.tO⟩] := by
      rw [take_snoc' hlt]; unfold spansOf; rw [List.map_append, en']; rfl
    have hlen : (spansOf (l.take k)).length = k := by unfold spansOf; rw [List.length_map, List.length_take]; omega
    generalize spansOf (l.take k) = W at hsn hlen ⊢
    simp (decide := true) [notesD, Nt.row, int, hlt, hlt', en, en', I64]
    refine ⟨by omega, by unfold maxLen; omega, by omega, k + 1, hlt, by omega, by omega, ?_⟩
    rw [hsn]; simp [Sp.row, int]
  · have : k = l.length := by omega
    subst this
    rw [List.take_length]
    simp (decide := true) [notesD, spansD, int]
/-- The notes at two indices have a time in common. -/
def meetP (l : List Nt) (i k : Nat) : Bool := decide ((l[i]?.getD default).fr < (l[k]?.getD default).tO) && decide ((l[k]?.getD default).fr < (l[i]?.getD default).tO)
def overP (l : List Nt) : Bool := (List.range l.length).any fun i => (List.range i).any fun k => meetP l i k
theorem overP_false {l : List Nt} : overP l = false ↔ ∀ i, i < l.length → ∀ k, k < i → meetP l i k = false := by
  unfold overP
  rw [List.any_eq_false]
  refine ⟨fun h i hi k hk => ?_, fun h i hi => ?_⟩
  · have := h i (List.mem_range.2 hi)
    rw [Bool.not_eq_true, List.any_eq_false] at this
    simpa using this k (List.mem_range.2 hk)
  · rw [Bool.not_eq_true, List.any_eq_false]
    intro k hk
    simpa using h i (List.mem_range.1 hi) k (List.mem_range.1 hk)
theorem overP_true {l : List Nt} {i k : Nat} (hi : i < l.length) (hk : k < i) (h : meetP l i k = true) : overP l = true := by
  cases e : overP l with
  | true => rfl
  | false => rw [overP_false] at e; rw [e i hi k hk] at h; cases h
set_option maxHeartbeats 1000000 in
theorem overlap_ok (l : List Nt) (hl : l.length < 2^40) : PureR Tryd.prog 58 [notesD l] (.bool (overP l)) := by
  refine pure_of_body mixed Tryd.func58 rfl call_58 ?_
  simp (decide := true) [Tryd.f58, int]
  refine loop_rule mixed (fun i : Nat => { n := 44, next := 0, slots := [(0, .d (notesD l)), (3, .d (.int .i64 i))], own := [] })
    (fun i => i ≤ l.length ∧ ∀ j, j < i → ∀ k, k < j → meetP l j k = false) (fun i => l.length - i) 0 (by simp) (by simp (decide := true) [int, notesD]) ?_
  rintro i ⟨hi, hp⟩
  by_cases hlt : i < l.length
  · have hlt' : (i : Int) < l.length := by omega
    obtain ⟨n, en'⟩ : ∃ n, l[i] = n := ⟨_, rfl⟩
    have en : l[i]? = some n := by rw [List.getElem?_eq_getElem hlt, en']
    simp (decide := true) [notesD, int, hlt']
    refine loop_rule mixed (fun k : Nat => { n := 44, next := 0, slots := [(0, .d (notesD l)), (3, .d (.int .i64 i)), (4, .d (.int .i64 k))], own := [] })
      (fun k => k ≤ i ∧ ∀ j, j < k → meetP l i j = false) (fun k => i - k) 0 (by simp) (by simp (decide := true) [int, notesD]) ?_
    rintro k ⟨hk, hq⟩
    by_cases hki : k < i
    · have hki' : (k : Int) < i := by omega
      have hkl : k < l.length := by omega
      have hkl' : (k : Int) < l.length := by omega
      obtain ⟨m, em'⟩ : ∃ m, l[k] = m := ⟨_, rfl⟩
      have em : l[k]? = some m := by rw [List.getElem?_eq_getElem hkl, em']
      have hM : meetP l i k = (decide (n.fr < m.tO) && decide (m.fr < n.tO)) := by simp only [meetP, en, em, Option.getD_some]
      by_cases c1 : n.fr < m.tO
      · by_cases c2 : m.fr < n.tO
        · have := overP_true hlt hki (by rw [hM]; simp [c1, c2])
          simp (decide := true) [notesD, Nt.row, int, hlt, hlt', hki, hki', hkl, hkl', en, en', em, em', c1, c2, this]
        · simp (decide := true) [notesD, Nt.row, int, hlt, hlt', hki, hki', hkl, hkl', en, en', em, em', c1, c2, I64]
          refine ⟨by omega, k + 1, ⟨by omega, fun j hj => ?_⟩, by omega, by omega⟩
          rcases Nat.lt_or_ge j k with h | h
          · exact hq j h
          · have : j = k := by omega
            subst this; rw [hM]; simp [c2]
      · simp (decide := true) [notesD, Nt.row, int, hlt, hlt', hki, hki', hkl, hkl', en, en', em, em', c1, I64]
        refine ⟨by omega, k + 1, ⟨by omega, fun j hj => ?_⟩, by omega, by omega⟩
        rcases Nat.lt_or_ge j k with h | h
        · exact hq j h
        · have : j = k := by omega
          subst this; rw [hM]; simp [c1]
    · have : k = i := by omega
      subst this
      simp (decide := true) [notesD, int, I64]
      refine ⟨by omega, k + 1, ⟨by omega, fun j hj => ?_⟩, by omega, by omega⟩
      rcases Nat.lt_or_ge j k with h | h
      · exact hp j h
      · have : j = k := by omega
        subst this; exact hq
  · have : i = l.length := by omega
    subst this
    simp (decide := true) [notesD, int, overP_false.2 hp]
def rankP (l : List Nt) : Bool := (List.range l.length).all fun n => l.any fun m => decide (m.rank = n)
theorem rankP_true {l : List Nt} : rankP l = true ↔ ∀ n : Nat, n < l.length → (l.any fun m => decide (m.rank = n)) = true := by
  unfold rankP
  rw [List.all_eq_true]
  exact ⟨fun h n hn => h n (List.mem_range.2 hn), fun h n hn => h n (List.mem_range.1 hn)⟩
set_option maxHeartbeats 1000000 in
theorem ranked_ok (l : List Nt) (hl : l.length < 2^40) : PureR Tryd.prog 61 [notesD l] (.bool (rankP l)) := by
  refine pure_of_body mixed Tryd.func61 rfl call_61 ?_
  simp (decide := true) [Tryd.f61, int]
  refine loop_rule mixed (fun i : Nat => { n := 30, next := 0, slots := [(0, .d (notesD l)), (3, .d (.int .i64 i))], own := [] })
    (fun i => i ≤ l.length ∧ ∀ n : Nat, n < i → (l.any fun m => decide (m.rank = n)) = true) (fun i => l.length - i) 0 (by simp) (by simp (decide := true) [int, notesD]) ?_
  rintro i ⟨hi, hp⟩
  by_cases hlt : i < l.length
  · have hlt' : (i : Int) < l.length := by omega
    simp (decide := true) [notesD, int, hlt']
    refine loop_rule mixed (fun k : Nat => { n := 30, next := 0, slots := [(0, .d (notesD l)), (3, .d (.int .i64 i)), (4, .d (.bool ((l.take k).any fun m => decide (m.rank = i)))), (5, .d (.int .i64 k))], own := [] })
      (fun k => k ≤ l.length) (fun k => l.length - k) 0 (by simp) (by simp (decide := true) [int, notesD]) ?_
    intro k hk
    by_cases hkl : k < l.length
    · have hkl' : (k : Int) < l.length := by omega
      obtain ⟨m, em'⟩ : ∃ m, l[k] = m := ⟨_, rfl⟩
      have em : l[k]? = some m := by rw [List.getElem?_eq_getElem hkl, em']
      have hsn : ((l.take (k + 1)).any fun m => decide (m.rank = i)) = (((l.take k).any fun m => decide (m.rank = i)) || decide (m.rank = i)) := by rw [any_take hkl, em']
      cases hb : (l.take k).any fun m => decide (m.rank = i)
      · rw [hb, Bool.false_or] at hsn
        by_cases c1 : m.rank = i
        · rw [decide_eq_true c1] at hsn
          simp (decide := true) [notesD, Nt.row, int, hkl, hkl', em, em', c1, I64]
          exact ⟨by omega, k + 1, hkl, by omega, by simpa using hsn, by omega⟩
        · rw [decide_eq_false c1] at hsn
          simp (decide := true) [notesD, Nt.row, int, hkl, hkl', em, em', c1, I64]
          exact ⟨by omega, k + 1, hkl, by omega, by simpa using hsn, by omega⟩
      · rw [hb, Bool.true_or] at hsn
        simp (decide := true) [notesD, Nt.row, int, hkl, hkl', I64]
        exact ⟨by omega, k + 1, hkl, by omega, by simpa using hsn, by omega⟩
    · have : k = l.length := by omega
      subst this
      rw [List.take_length]
      cases hb : l.any fun m => decide (m.rank = i)
      · have : rankP l = false := by
          cases e : rankP l with
          | false => rfl
          | true => rw [rankP_true] at e; rw [e i hlt] at hb; cases hb
        simp (decide := true) [notesD, int, this]
      · simp (decide := true) [notesD, int, I64]
        refine ⟨by omega, i + 1, ⟨by omega, fun j hj => ?_⟩, by omega, by omega⟩
        rcases Nat.lt_or_ge j i with h | h
        · simpa using hp j h
        · have : j = i := by omega
          subst this; simpa using hb
  · have : i = l.length := by omega
    subst this
    simp (decide := true) [notesD, int, rankP_true.2 hp]
end Go.V
