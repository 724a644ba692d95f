/- Plain law: when spans cover a span, point by point; lists and what a filter leaves of them. -/
import Derived.Test.YtnjcohimpfmgcaaDoorR7
set_option linter.unusedSimpArgs false
set_option linter.unusedVariables false
set_option maxRecDepth 10000
namespace Go.V
open Go Go.Proofs

def inS (l : List Sp) (v : Int) : Prop := ∃ y ∈ l, y.fr ≤ v ∧ v < y.tO
theorem rt_iff {s : Sp} : s.rt = true ↔ 0 ≤ s.fr ∧ s.fr < s.tO ∧ s.tO ≤ 86400000 := by
  simp only [Sp.rt, rightS, Bool.and_eq_true, decide_eq_true_eq, and_assoc]
theorem in_cut1 {x s : Sp} (hx : x.rt = true) (hs : s.rt = true) (v : Int) : inS (cut1 x s) v ↔ (x.fr ≤ v ∧ v < x.tO) ∧ ¬ (s.fr ≤ v ∧ v < s.tO) := by
  rw [rt_iff] at hx hs
  obtain ⟨a1, a2, a3⟩ := hx
  obtain ⟨b1, b2, b3⟩ := hs
  have e1 : rightS x.fr (min x.tO s.fr) = true ↔ x.fr < min x.tO s.fr := by
    simp only [rightS, Bool.and_eq_true, decide_eq_true_eq]; omega
  have e2 : rightS (max x.fr s.tO) x.tO = true ↔ max x.fr s.tO < x.tO := by
    simp only [rightS, Bool.and_eq_true, decide_eq_true_eq]; omega
  unfold inS cut1
  constructor
  · rintro ⟨y, hy, h1, h2⟩
    rcases List.mem_append.1 hy with h | h
    · split at h
      · simp at h; subst h; simp only at h1 h2; omega
      · cases h
    · split at h
      · simp at h; subst h; simp only at h1 h2; omega
      · cases h
  · rintro ⟨⟨h1, h2⟩, h3⟩
    by_cases h4 : v < s.fr
    · refine ⟨⟨x.fr, min x.tO s.fr⟩, ?_, h1, by simp only; omega⟩
      rw [if_pos (e1.2 (by omega))]; simp
    · refine ⟨⟨max x.fr s.tO, x.tO⟩, ?_, by simp only; omega, h2⟩
      rw [if_pos (e2.2 (by omega))]; simp
theorem in_without {s : Sp} (hs : s.rt = true) (v : Int) {l : List Sp} (hl : ∀ x ∈ l, x.rt = true) : inS (withoutS l s) v ↔ inS l v ∧ ¬ (s.fr ≤ v ∧ v < s.tO) := by
  unfold withoutS
  constructor
  · rintro ⟨y, hy, h1⟩
    obtain ⟨x, hx, h⟩ := List.mem_flatMap.1 hy
    have := (in_cut1 (hl x hx) hs v).1 ⟨y, h, h1⟩
    exact ⟨⟨x, hx, this.1⟩, this.2⟩
  · rintro ⟨⟨x, hx, h1⟩, h2⟩
    obtain ⟨y, hy, h3⟩ := (in_cut1 (hl x hx) hs v).2 ⟨h1, h2⟩
    exact ⟨y, List.mem_flatMap.2 ⟨x, hx, hy⟩, h3⟩
theorem in_minus (v : Int) : ∀ (b a : List Sp), (∀ x ∈ a, x.rt = true) → (inS (minusS a b) v ↔ inS a v ∧ ∀ y ∈ b, y.rt = true → ¬ (y.fr ≤ v ∧ v < y.tO))
  | [], a, h => by simp [minusS]
  | y :: r, a, h => by
    have e : minusS a (y :: r) = minusS (if y.rt = true then withoutS a y else a) r := rfl
    rw [e]
    by_cases hy : y.rt = true
    · rw [if_pos hy, in_minus v r _ without_rt, in_without hy v h]
      constructor
      · rintro ⟨⟨h1, h2⟩, h3⟩
        refine ⟨h1, fun z hz hr => ?_⟩
        rcases List.mem_cons.1 hz with rfl | hz
        · exact h2
        · exact h3 z hz hr
      · rintro ⟨h1, h3⟩
        exact ⟨⟨h1, h3 y (by simp) hy⟩, fun z hz hr => h3 z (by simp [hz]) hr⟩
    · rw [if_neg hy, in_minus v r _ h]
      constructor
      · rintro ⟨h1, h3⟩
        refine ⟨h1, fun z hz hr => ?_⟩
        rcases List.mem_cons.1 hz with rfl | hz
        · exact absurd hr hy
        · exact h3 z hz hr
      · rintro ⟨h1, h3⟩
        exact ⟨h1, fun z hz hr => h3 z (by simp [hz]) hr⟩
theorem coversS_iff {l : List Sp} {s : Sp} : coversS l s = true ↔ s.rt = true ∧ ∀ v, s.fr ≤ v → v < s.tO → ∃ y ∈ l, y.rt = true ∧ y.fr ≤ v ∧ v < y.tO := by
  unfold coversS
  rw [Bool.and_eq_true]
  constructor
  · rintro ⟨hs, he⟩
    refine ⟨hs, fun v h1 h2 => ?_⟩
    have hm := in_minus v l [s] (by simpa using hs)
    rw [List.isEmpty_iff.1 he] at hm
    have hn : ¬ inS [] v := by rintro ⟨y, hy, _⟩; cases hy
    have : ¬ (inS [s] v ∧ ∀ y ∈ l, y.rt = true → ¬ (y.fr ≤ v ∧ v < y.tO)) := fun h => hn (hm.2 h)
    apply Classical.byContradiction
    intro hc
    exact this ⟨⟨s, by simp, h1, h2⟩, fun y hy hr hv => hc ⟨y, hy, hr, hv⟩⟩
  · rintro ⟨hs, h⟩
    refine ⟨hs, ?_⟩
    have hrt := (minus_inv l [s] (by simpa using hs)).1
    cases hm : minusS [s] l with
    | nil => rfl
    | cons y r =>
      exfalso
      have hy := rt_iff.1 (hrt y (by rw [hm]; simp))
      have hin : inS (minusS [s] l) y.fr := ⟨y, by rw [hm]; simp, Int.le_refl _, hy.2.1⟩
      obtain ⟨⟨z, hz, h1, h2⟩, h3⟩ := (in_minus y.fr l [s] (by simpa using hs)).1 hin
      simp at hz; subst hz
      obtain ⟨u, hu, hr, hv⟩ := h _ h1 h2
      exact h3 u hu hr hv

/-! ### where the members of a filter stand -/
theorem filter_at {α : Type} {q : α → Bool} : ∀ {s : List α} {i : Nat} (h : i < s.length), q s[i] = true → (s.filter q)[((s.take i).filter q).length]? = some s[i]
  | x :: r, 0, h, hq => by
    have hq' : q x = true := hq
    simp [hq']
  | x :: r, i + 1, h, hq => by
    have h' : i < r.length := by simpa using h
    have ih := filter_at (q := q) h' hq
    by_cases hx : q x = true
    · simp only [List.take_succ_cons, List.filter_cons_of_pos hx, List.length_cons, List.getElem?_cons_succ, List.getElem_cons_succ]
      exact ih
    · simp only [List.take_succ_cons, List.filter_cons_of_neg hx, List.getElem_cons_succ]
      exact ih
theorem filter_from {α : Type} {q : α → Bool} : ∀ {s : List α} {j : Nat}, j < (s.filter q).length → ∃ i, ∃ h : i < s.length, q s[i] = true ∧ ((s.take i).filter q).length = j
  | [], j, h => by simp at h
  | x :: r, j, h => by
    by_cases hx : q x = true
    · cases j with
      | zero => exact ⟨0, by simp, hx, by simp⟩
      | succ j =>
        rw [List.filter_cons_of_pos hx, List.length_cons] at h
        obtain ⟨i, hi, h1, h2⟩ := filter_from (q := q) (s := r) (j := j) (by omega)
        exact ⟨i + 1, by simpa using hi, h1, by rw [List.take_succ_cons, List.filter_cons_of_pos hx, List.length_cons, h2]⟩
    · rw [List.filter_cons_of_neg hx] at h
      obtain ⟨i, hi, h1, h2⟩ := filter_from (q := q) (s := r) h
      exact ⟨i + 1, by simpa using hi, h1, by rw [List.take_succ_cons, List.filter_cons_of_neg hx, h2]⟩
/-- A rising list of so many numbers has no room for more in a row. -/
theorem no_room : ∀ (l : List Int) (c : Int), l.Pairwise (· ≤ ·) → (∀ n : Nat, n ≤ l.length → c + n ∈ l) → False
  | [], c, _, h => by have := h 0 (by simp); simp at this
  | x :: r, c, hp, h => by
    rw [List.pairwise_cons] at hp
    have hx : x ≤ c := by
      have := h 0 (by simp)
      rcases List.mem_cons.1 this with e | e
      · simp at e; omega
      · have := hp.1 _ e; simp at this; exact this
    refine no_room r (c + 1) hp.2 fun n hn => ?_
    have := h (n + 1) (by simp; omega)
    rcases List.mem_cons.1 this with e | e
    · exfalso; push_cast at e; omega
    · have e2 : c + 1 + (n : Int) = c + ((n + 1 : Nat) : Int) := by push_cast; omega
      rw [e2]; exact e
theorem in_row : ∀ (l : List Int) (c : Int), l.Pairwise (· ≤ ·) → (∀ n : Nat, n < l.length → c + n ∈ l) → ∀ j : Nat, j < l.length → l[j]? = some (c + j)
  | [], c, _, h, j, hj => by simp at hj
  | x :: r, c, hp, h, j, hj => by
    rw [List.pairwise_cons] at hp
    have hx : x ≤ c := by
      have := h 0 (by simp)
      rcases List.mem_cons.1 this with e | e
      · simp at e; omega
      · have := hp.1 _ e; simp at this; exact this
    have hxc : x = c := by
      apply Classical.byContradiction
      intro hne
      refine no_room r c hp.2 fun n hn => ?_
      have := h n (by simp; omega)
      rcases List.mem_cons.1 this with e | e
      · exfalso; omega
      · exact e
    cases j with
    | zero => simp [hxc]
    | succ j =>
      have := in_row r (c + 1) hp.2 (fun n hn => by
        have := h (n + 1) (by simp; omega)
        rcases List.mem_cons.1 this with e | e
        · exfalso; push_cast at e; omega
        · have e2 : c + 1 + (n : Int) = c + ((n + 1 : Nat) : Int) := by push_cast; omega
          rw [e2]; exact e) j (by simpa using hj)
      rw [List.getElem?_cons_succ, this]
      congr 1; push_cast; omega
end Go.V
