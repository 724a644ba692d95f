/- Contracts and plain laws of this seat: part M6. It needs no conditions. -/
import Derived.Test.YtnflnfmbgghbeaaGreatDoorM5
set_option linter.unusedVariables false
set_option linter.unusedSimpArgs false
set_option linter.unusedSectionVars false
set_option maxRecDepth 100000
namespace Go.V
open Go Go.Proofs
def inS (l : List Sp) (v : Int) : Prop := ∃ y ∈ l, y.fr ≤ v ∧ v < y.tO
theorem rt_iff {s : Sp} : s.rt = true ↔ 0 ≤ s.fr ∧ s.fr < s.tO ∧ s.tO ≤ 86400000 := by
  simp only [Sp.rt, rightS, Bool.and_eq_true, decide_eq_true_eq, and_assoc]
theorem in_cut1 {x s : Sp} (hx : x.rt = true) (hs : s.rt = true) (v : Int) : inS (cut1 x s) v ↔ (x.fr ≤ v ∧ v < x.tO) ∧ ¬ (s.fr ≤ v ∧ v < s.tO) := by
  rw [rt_iff] at hx hs
  obtain ⟨a1, a2, a3⟩ := hx
  obtain ⟨b1, b2, b3⟩ := hs
  have e1 : rightS x.fr (min x.tO s.fr) = true ↔ x.fr < min x.tO s.fr := by
    simp only [rightS, Bool.and_eq_true, decide_eq_true_eq]; omega
  have e2 : rightS (max x.fr s.tO) x.tO = true ↔ max x.fr s.tO < x.tO := by
    simp only [rightS, Bool.and_eq_true, decide_eq_true_eq]; omega
  unfold inS cut1
  constructor
  · rintro ⟨y, hy, h1, h2⟩
    rcases List.mem_append.1 hy with h | h
    · split at h
      · simp at h; subst h; simp only at h1 h2; omega
      · cases h
    · split at h
      · simp at h; subst h; simp only at h1 h2; omega
      · cases h
  · rintro ⟨⟨h1, h2⟩, h3⟩
    by_cases h4 : v < s.fr
    · refine ⟨⟨x.fr, min x.tO s.fr⟩, ?_, h1, by simp only; omega⟩
      rw [if_pos (e1.2 (by omega))]; simp
    · refine ⟨⟨max x.fr s.tO, x.tO⟩, ?_, by simp only; omega, h2⟩
      rw [if_pos (e2.2 (by omega))]; simp
theorem in_without {s : Sp} (hs : s.rt = true) (v : Int) {l : List Sp} (hl : ∀ x ∈ l, x.rt = true) : inS (withoutS l s) v ↔ inS l v ∧ ¬ (s.fr ≤ v ∧ v < s.tO) := by
  unfold withoutS
  constructor
  · rintro ⟨y, hy, h1⟩
    obtain ⟨x, hx, h⟩ := List.mem_flatMap.1 hy
    have := (in_cut1 (hl x hx) hs v).1 ⟨y, h, h1⟩
    exact ⟨⟨x, hx, this.1⟩, this.2⟩
  · rintro ⟨⟨x, hx, h1⟩, h2⟩
    obtain ⟨y, hy, h3⟩ := (in_cut1 (hl x hx) hs v).2 ⟨h1, h2⟩
    exact ⟨y, List.mem_flatMap.2 ⟨x, hx, hy⟩, h3⟩
theorem in_minus (v : Int) : ∀ (b a : List Sp), (∀ x ∈ a, x.rt = true) → (inS (minusS a b) v ↔ inS a v ∧ ∀ y ∈ b, y.rt = true → ¬ (y.fr ≤ v ∧ v < y.tO))
  | [], a, h => by simp [minusS]
  | y :: r, a, h => by
    have e : minusS a (y :: r) = minusS (if y.rt = true then withoutS a y else a) r := rfl
    rw [e]
    by_cases hy : y.rt = true
    · rw [if_pos hy, in_minus v r _ without_rt, in_without hy v h]
      constructor
      · rintro ⟨⟨h1, h2⟩, h3⟩
        refine ⟨h1, fun z hz hr => ?_⟩
        rcases List.mem_cons.1 hz with rfl | hz
        · exact h2
        · exact h3 z hz hr
      · rintro ⟨h1, h3⟩
        exact ⟨⟨h1, h3 y (by simp) hy⟩, fun z hz hr => h3 z (by simp [hz]) hr⟩
    · rw [if_neg hy, in_minus v r _ h]
      constructor
      · rintro ⟨h1, h3⟩
        refine ⟨h1, fun z hz hr => ?_⟩
        rcases List.mem_cons.1 hz with rfl | hz
        · exact absurd hr hy
        · exact h3 z hz hr
      · rintro ⟨h1, h3⟩
        exact ⟨h1, fun z hz hr => h3 z (by simp [hz]) hr⟩
theorem coversS_iff {l : List Sp} {s : Sp} : coversS l s = true ↔ s.rt = true ∧ ∀ v, s.fr ≤ v → v < s.tO → ∃ y ∈ l, y.rt = true ∧ y.fr ≤ v ∧ v < y.tO := by
  unfold coversS
  rw [Bool.and_eq_true]
  constructor
  · rintro ⟨hs, he⟩
    refine ⟨hs, fun v h1 h2 => ?_⟩
    have hm := in_minus v l [s] (by simpa using hs)
    rw [List.isEmpty_iff.1 he] at hm
    have hn : ¬ inS [] v := by rintro ⟨y, hy, _⟩; cases hy
    have : ¬ (inS [s] v ∧ ∀ y ∈ l, y.rt = true → ¬ (y.fr ≤ v ∧ v < y.tO)) := fun h => hn (hm.2 h)
    apply Classical.byContradiction
    intro hc
    exact this ⟨⟨s, by simp, h1, h2⟩, fun y hy hr hv => hc ⟨y, hy, hr, hv⟩⟩
  · rintro ⟨hs, h⟩
    refine ⟨hs, ?_⟩
    have hrt := (minus_inv l [s] (by simpa using hs)).1
    cases hm : minusS [s] l with
    | nil => rfl
    | cons y r =>
      exfalso
      have hy := rt_iff.1 (hrt y (by rw [hm]; simp))
      have hin : inS (minusS [s] l) y.fr := ⟨y, by rw [hm]; simp, Int.le_refl _, hy.2.1⟩
      obtain ⟨⟨z, hz, h1, h2⟩, h3⟩ := (in_minus y.fr l [s] (by simpa using hs)).1 hin
      simp at hz; subst hz
      obtain ⟨u, hu, hr, hv⟩ := h _ h1 h2
      exact h3 u hu hr hv
theorem filter_at {α : Type} {q : α → Bool} : ∀ {s : List α} {i : Nat} (h : i < s.length), q s[i] = true → (s.filter q)[((s.take i).filter q).length]? = some s[i]
  | x :: r, 0, h, hq => by
    have hq' : q x = true := hq
    simp [hq']
  | x :: r, i + 1, h, hq => by
    have h' : i < r.length := by simpa using h
    have ih := filter_at (q := q) h' hq
    by_cases hx : q x = true
    · simp only [List.take_succ_cons, List.filter_cons_of_pos hx, List.length_cons, List.getElem?_cons_succ, List.getElem_cons_succ]
      exact ih
    · simp only [List.take_succ_cons, List.filter_cons_of_neg hx, List.getElem_cons_succ]
      exact ih
theorem filter_from {α : Type} {q : α → Bool} : ∀ {s : List α} {j : Nat}, j < (s.filter q).length → ∃ i, ∃ h : i < s.length, q s[i] = true ∧ ((s.take i).filter q).length = j
  | [], j, h => by simp at h
  | x :: r, j, h => by
    by_cases hx : q x = true
    · cases j with
      | zero => exact ⟨0, by simp, hx, by simp⟩
      | succ j =>
        rw [List.filter_cons_of_pos hx, List.length_cons] at h
        obtain ⟨i, hi, h1, h2⟩ := filter_from (q := q) (s := r) (j := j) (by omega)
        exact ⟨i + 1, by simpa using hi, h1, by rw [List.take_succ_cons, List.filter_cons_of_pos hx, List.length_cons, h2]⟩
    · rw [List.filter_cons_of_neg hx] at h
      obtain ⟨i, hi, h1, h2⟩ := filter_from (q := q) (s := r) h
      exact ⟨i + 1, by simpa using hi, h1, by rw [List.take_succ_cons, List.filter_cons_of_neg hx, h2]⟩
theorem no_room : ∀ (l : List Int) (c : Int), l.Pairwise (· ≤ ·) → (∀ n : Nat, n ≤ l.length → c + n ∈ l) → False
  | [], c, _, h => by have := h 0 (by simp); simp at this
  | x :: r, c, hp, h => by
    rw [List.pairwise_cons] at hp
    have hx : x ≤ c := by
      have := h 0 (by simp)
      rcases List.mem_cons.1 this with e | e
      · simp at e; omega
      · have := hp.1 _ e; simp at this; exact this
    refine no_room r (c + 1) hp.2 fun n hn => ?_
    have := h (n + 1) (by simp; omega)
    rcases List.mem_cons.1 this with e | e
    · exfalso; push_cast at e; omega
    · have e2 : c + 1 + (n : Int) = c + ((n + 1 : Nat) : Int) := by push_cast; omega
      rw [e2]; exact e
theorem in_row : ∀ (l : List Int) (c : Int), l.Pairwise (· ≤ ·) → (∀ n : Nat, n < l.length → c + n ∈ l) → ∀ j : Nat, j < l.length → l[j]? = some (c + j)
  | [], c, _, h, j, hj => by simp at hj
  | x :: r, c, hp, h, j, hj => by
    rw [List.pairwise_cons] at hp
    have hx : x ≤ c := by
      have := h 0 (by simp)
      rcases List.mem_cons.1 this with e | e
      · simp at e; omega
      · have := hp.1 _ e; simp at this; exact this
    have hxc : x = c := by
      apply Classical.byContradiction
      intro hne
      refine no_room r c hp.2 fun n hn => ?_
      have := h n (by simp; omega)
      rcases List.mem_cons.1 this with e | e
      · exfalso; omega
      · exact e
    cases j with
    | zero => simp [hxc]
    | succ j =>
      have := in_row r (c + 1) hp.2 (fun n hn => by
        have := h (n + 1) (by simp; omega)
        rcases List.mem_cons.1 this with e | e
        · exfalso; push_cast at e; omega
        · have e2 : c + 1 + (n : Int) = c + ((n + 1 : Nat) : Int) := by push_cast; omega
          rw [e2]; exact e) j (by simpa using hj)
      rw [List.getElem?_cons_succ, this]
      congr 1; push_cast; omega
end Go.V
namespace Go.V
open Go Go.Proofs
def gN (s : List Nt) (i : Nat) : Nt := s[i]?.getD default
theorem gN_eq {s : List Nt} {i : Nat} (h : i < s.length) : gN s i = s[i] := by unfold gN; rw [List.getElem?_eq_getElem h]; rfl
theorem gN_mem {s : List Nt} {i : Nat} (h : i < s.length) : gN s i ∈ s := by rw [gN_eq h]; exact List.getElem_mem h
def evGo {α : Type} (ov bad : α → Bool) (c : Int) : List α → Int → Int
  | [], out => out
  | x :: r, out => if ov x = true then 15 else evGo ov bad c r (if bad x = true then c else out)
theorem evGo_eq {α : Type} (ov bad : α → Bool) (c : Int) : ∀ (l : List α) (out : Int), evGo ov bad c l out = if l.any ov = true then 15 else if l.any bad = true then c else out
  | [], out => by simp [evGo]
  | x :: r, out => by
    simp only [evGo]
    rw [evGo_eq ov bad c r]
    simp only [List.any_cons]
    have h : ∀ a b e g : Bool, (if a = true then (15 : Int) else if e = true then 15 else if g = true then c else if b = true then c else out) = if (a || e) = true then 15 else if (b || g) = true then c else out := by
      intro a b e g; cases a <;> cases b <;> cases e <;> cases g <;> simp
    exact h _ _ _ _
def codeK (kd : Int) : Int := if kd = 1 then 16 else if kd = 3 then 10 else 8
def ovB (kd : Int) (s : List Nt) (i : Nat) : Bool := alK kd && (!firstB s i && decide ((gN s i).fr < (gN s (i - 1)).tO))
def badB (notes : List Nt) (kd : Int) (s : List Nt) (i : Nat) : Bool :=
  (decide (kd = 1) && ((firstB s i && !decide ((gN s i).fr = (getN notes (gN s i).par).1.fr)) || (!firstB s i && !decide ((gN s (i - 1)).tO = (gN s i).fr)) || (lastB s i && !decide ((gN s i).tO = (getN notes (gN s i).par).1.tO)))) ||
  (decide (kd = 3) && ((firstB s i && !decide ((gN s i).rank = 0)) || (!firstB s i && !decide ((gN s i).rank = IntKind.i64.wrap ((gN s (i - 1)).rank + 1))))) ||
  (decide (kd = 4) && !firstB s i)
theorem tierGo_ev (notes : List Nt) (kd : Int) (s : List Nt) : ∀ (m i : Nat) (why : Int), i + m ≤ s.length → tierGo notes kd s m i why = evGo (ovB kd s) (badB notes kd s) (codeK kd) (List.range' i m) why
  | 0, i, why, _ => rfl
  | m + 1, i, why, h => by
    have ih := fun w => tierGo_ev notes kd s m (i + 1) w (by omega)
    rw [List.range'_succ]
    simp only [tierGo, evGo]
    rw [if_pos (show i < s.length by omega)]
    simp only [ih]
    have e1 : (s[i]?.getD default) = gN s i := rfl
    have e2 : (s[i - 1]?.getD default) = gN s (i - 1) := rfl
    rw [e1, e2]
    unfold ovB badB codeK
    generalize gN s i = n
    generalize gN s (i - 1) = pv
    generalize (getN notes n.par).1 = p
    generalize firstB s i = F
    generalize lastB s i = L
    by_cases k0 : kd = 0
    · subst k0
      cases F <;> simp [alK]
    by_cases k1 : kd = 1
    · subst k1
      cases F <;> cases L <;> simp [alK]
    by_cases k2 : kd = 2
    · subst k2
      cases F <;> simp [alK]
    by_cases k3 : kd = 3
    · subst k3
      cases F <;> simp [alK]
    by_cases k4 : kd = 4
    · subst k4
      cases F <;> simp [alK]
    simp [alK, k0, k1, k2, k3, k4]
theorem tierE_ev (d : Dc) (t : Int) : tierE d t = if (List.range' 0 (sortN (ofT d.notes t)).length).any (ovB (tirAt d t).kind (sortN (ofT d.notes t))) = true then 15
    else if (List.range' 0 (sortN (ofT d.notes t)).length).any (badB d.notes (tirAt d t).kind (sortN (ofT d.notes t))) = true then codeK (tirAt d t).kind else 0 := by
  unfold tierE
  rw [← sortN_length (ofT d.notes t), tierGo_ev _ _ _ _ _ _ (by simp), evGo_eq]
def ovR (d : Dc) (t kd : Int) (n : Nt) : Bool := alK kd && overP (sibs d.notes t n.par)
def badR (d : Dc) (t kd : Int) (n : Nt) : Bool :=
  (decide (kd = 1) && !coversS (spansOf (sibs d.notes t n.par)) ⟨(getN d.notes n.par).1.fr, (getN d.notes n.par).1.tO⟩) || (decide (kd = 3) && !rankP (sibs d.notes t n.par)) || (decide (kd = 4) && decide (1 < (sibs d.notes t n.par).length))
theorem terGo_ev (d : Dc) (t kd : Int) : ∀ (l : List Nt) (out : Int), terGo d t kd l out = evGo (ovR d t kd) (badR d t kd) (codeK kd) (ofT l t) out
  | [], out => rfl
  | n :: r, out => by
    have ih := fun w => terGo_ev d t kd r w
    simp only [terGo]
    by_cases h : n.tier = t
    · have e : ofT (n :: r) t = n :: ofT r t := by unfold ofT; rw [List.filter_cons_of_pos (by simpa using h)]
      rw [if_pos h, e]
      simp only [evGo, ih]
      unfold ovR badR terStep codeK
      generalize coversS (spansOf (sibs d.notes t n.par)) ⟨(getN d.notes n.par).1.fr, (getN d.notes n.par).1.tO⟩ = C
      generalize rankP (sibs d.notes t n.par) = R
      generalize (sibs d.notes t n.par).length = z
      generalize overP (sibs d.notes t n.par) = O
      by_cases k1 : kd = 1
      · subst k1; cases C <;> simp [alK]
      by_cases k3 : kd = 3
      · subst k3; cases R <;> simp [alK]
      by_cases k4 : kd = 4
      · subst k4; simp [alK]
      simp [k1, k3, k4]
    · have e : ofT (n :: r) t = ofT r t := by unfold ofT; rw [List.filter_cons_of_neg (by simpa using h)]
      rw [if_neg h, e, ih]
theorem terE_ev (d : Dc) (t : Int) : terE d t = if (ofT d.notes t).any (ovR d t (tirAt d t).kind) = true then 15 else if (ofT d.notes t).any (badR d t (tirAt d t).kind) = true then codeK (tirAt d t).kind else 0 := by
  unfold terE
  rw [terGo_ev, evGo_eq]
structure Srt (s : List Nt) : Prop where
  par : ∀ i j, i < j → j < s.length → (gN s i).par ≤ (gN s j).par
  fr : ∀ i j, i < j → j < s.length → (gN s i).par = (gN s j).par → (gN s i).fr ≤ (gN s j).fr
  rank : ∀ i j, i < j → j < s.length → (gN s i).par = (gN s j).par → (gN s i).fr = (gN s j).fr → (gN s i).rank ≤ (gN s j).rank
theorem srt_of (l : List Nt) : Srt (sortN l) := by
  have h : ∀ i j, i < j → j < (sortN l).length → ¬ ((gN (sortN l) j).par < (gN (sortN l) i).par ∨ ((gN (sortN l) j).par = (gN (sortN l) i).par ∧ ((gN (sortN l) j).fr < (gN (sortN l) i).fr ∨ ((gN (sortN l) j).fr = (gN (sortN l) i).fr ∧ (gN (sortN l) j).rank < (gN (sortN l) i).rank)))) := by
    intro i j hij hj
    have := List.pairwise_iff_getElem.1 (sortN_sorted l) i j (by omega) hj hij
    rw [ltN_false] at this
    rw [gN_eq hj, gN_eq (show i < _ by omega)]
    exact this
  exact ⟨fun i j hij hj => by have := h i j hij hj; omega, fun i j hij hj e => by have := h i j hij hj; omega, fun i j hij hj e e' => by have := h i j hij hj; omega⟩
theorem first_iff {s : List Nt} {i : Nat} : firstB s i = true ↔ i = 0 ∨ (gN s (i - 1)).par ≠ (gN s i).par := by
  unfold firstB
  rw [Bool.or_eq_true, decide_eq_true_eq, Bool.not_eq_true', decide_eq_false_iff_not]
  rfl
theorem first_false {s : List Nt} {i : Nat} : firstB s i = false ↔ i ≠ 0 ∧ (gN s (i - 1)).par = (gN s i).par := by
  rw [← Bool.not_eq_true, first_iff]
  exact ⟨fun h => ⟨fun e => h (.inl e), Classical.byContradiction fun e => h (.inr e)⟩, fun h h' => h'.elim (fun e => h.1 e) (fun e => e h.2)⟩
theorem last_iff {s : List Nt} {i : Nat} : lastB s i = true ↔ i + 1 = s.length ∨ (gN s (i + 1)).par ≠ (gN s i).par := by
  unfold lastB
  rw [Bool.or_eq_true, decide_eq_true_eq, Bool.not_eq_true', decide_eq_false_iff_not]
  rfl
def AllP (s : List Nt) : Prop := ∀ i j, i < j → j < s.length → (gN s i).par = (gN s j).par → (gN s i).tO ≤ (gN s j).fr
theorem all_of {s : List Nt} (hs : Srt s) (h : ∀ i, i < s.length → (!firstB s i && decide ((gN s i).fr < (gN s (i - 1)).tO)) = false) : AllP s := by
  intro i j hij hj hp
  have h1 : (gN s i).par = (gN s (i + 1)).par := by
    rcases Nat.eq_or_lt_of_le (show i + 1 ≤ j from hij) with e | e
    · rw [e]; exact hp
    · have a := hs.par i (i + 1) (by omega) (by omega)
      have b := hs.par (i + 1) j e hj
      omega
  have h2 := h (i + 1) (by omega)
  have hf : firstB s (i + 1) = false := first_false.2 ⟨by omega, h1⟩
  rw [hf] at h2
  simp at h2
  rcases Nat.eq_or_lt_of_le (show i + 1 ≤ j from hij) with e | e
  · subst e; exact h2
  · have := hs.fr (i + 1) j e hj (by omega)
    omega
theorem all_adj {s : List Nt} (h : AllP s) : ∀ i, i < s.length → (!firstB s i && decide ((gN s i).fr < (gN s (i - 1)).tO)) = false := by
  intro i hi
  cases hf : firstB s i with
  | true => rfl
  | false =>
    obtain ⟨h0, hp⟩ := first_false.1 hf
    have := h (i - 1) i (by omega) hi hp
    simp; omega
def NM (x y : Nt) : Prop := ¬ (x.fr < y.tO ∧ y.fr < x.tO)
theorem NM.symm {x y : Nt} (h : NM x y) : NM y x := fun e => h ⟨e.2, e.1⟩
theorem over_pair {l : List Nt} : overP l = false ↔ l.Pairwise NM := by
  rw [overP_false, List.pairwise_iff_getElem]
  constructor
  · intro h i j hi hj hij
    have := h j hj i hij
    unfold meetP at this
    rw [List.getElem?_eq_getElem hj, List.getElem?_eq_getElem hi] at this
    simp only [Option.getD_some, Bool.and_eq_false_iff, decide_eq_false_iff_not] at this
    rintro ⟨a, b⟩
    rcases this with h | h
    · exact h b
    · exact h a
  · intro h i hi k hk
    have := h k i (by omega) hi hk
    unfold meetP
    rw [List.getElem?_eq_getElem hi, List.getElem?_eq_getElem (show k < l.length by omega)]
    simp only [Option.getD_some, Bool.and_eq_false_iff, decide_eq_false_iff_not]
    by_cases c : l[i].fr < l[k].tO
    · right; intro c'; exact this ⟨c', c⟩
    · left; exact c
section
variable {d : Dc} {t : Int} {s : List Nt}
theorem sibs_ofT (notes : List Nt) (t p : Int) : sibs notes t p = (ofT notes t).filter fun n => decide (n.par = p) := by
  unfold sibs ofT
  rw [List.filter_filter]
  congr 1; funext n; rw [Bool.and_comm]
theorem sibs_perm (hp : s.Perm (ofT d.notes t)) (p : Int) : (s.filter fun n => decide (n.par = p)).Perm (sibs d.notes t p) := by
  rw [sibs_ofT]; exact hp.filter _
theorem over_all (hp : s.Perm (ofT d.notes t)) (hs : Srt s) (hr : ∀ n ∈ s, n.fr < n.tO) : AllP s ↔ ∀ n ∈ ofT d.notes t, overP (sibs d.notes t n.par) = false := by
  constructor
  · intro h n hn
    rw [over_pair]
    refine ((sibs_perm hp n.par).pairwise_iff fun h => NM.symm h).1 ?_
    rw [List.pairwise_filter, List.pairwise_iff_getElem]
    intro i j hi hj hij h1 h2
    simp at h1 h2
    have := h i j hij hj (by rw [gN_eq hi, gN_eq hj, h1, h2])
    rw [gN_eq hi, gN_eq hj] at this
    rintro ⟨_, b⟩
    omega
  · intro h i j hij hj hpp
    have hi : i < s.length := by omega
    have h1 := h (gN s i) (hp.mem_iff.1 (gN_mem hi))
    rw [over_pair] at h1
    have h2 := ((sibs_perm hp (gN s i).par).pairwise_iff fun h => NM.symm h).2 h1
    rw [List.pairwise_filter, List.pairwise_iff_getElem] at h2
    have h3 := h2 i j hi hj hij (by rw [gN_eq hi]; simp) (by rw [← gN_eq hj, ← hpp]; simp)
    rw [← gN_eq hi, ← gN_eq hj] at h3
    have a := hs.fr i j hij hj hpp
    have b := hr _ (gN_mem hj)
    have c : ¬ (gN s j).fr < (gN s i).tO := fun e => h3 ⟨by omega, e⟩
    omega
end
end Go.V
namespace Go.V
open Go Go.Proofs
section
variable {d : Dc} {t : Int} {s : List Nt}
def gapB (notes : List Nt) (s : List Nt) (i : Nat) : Bool :=
  (firstB s i && !decide ((gN s i).fr = (getN notes (gN s i).par).1.fr)) || (!firstB s i && !decide ((gN s (i - 1)).tO = (gN s i).fr)) || (lastB s i && !decide ((gN s i).tO = (getN notes (gN s i).par).1.tO))
theorem group_first : ∀ i, ∃ j, j ≤ i ∧ (gN s j).par = (gN s i).par ∧ firstB s j = true
  | 0 => ⟨0, by omega, rfl, first_iff.2 (.inl rfl)⟩
  | i + 1 => by
    cases h : firstB s (i + 1) with
    | true => exact ⟨i + 1, by omega, rfl, h⟩
    | false =>
      obtain ⟨_, hp⟩ := first_false.1 h
      obtain ⟨j, h1, h2, h3⟩ := group_first i
      have hp' : (gN s i).par = (gN s (i + 1)).par := hp
      exact ⟨j, by omega, h2.trans hp', h3⟩
theorem mem_sibs (hp : s.Perm (ofT d.notes t)) {p : Int} {m : Nt} : m ∈ sibs d.notes t p ↔ ∃ j, j < s.length ∧ (gN s j).par = p ∧ gN s j = m := by
  rw [← (sibs_perm hp p).mem_iff, List.mem_filter]
  constructor
  · rintro ⟨h1, h2⟩
    obtain ⟨j, hj, e⟩ := List.mem_iff_getElem.1 h1
    rw [← gN_eq hj] at e
    exact ⟨j, hj, by rw [e]; simpa using h2, e⟩
  · rintro ⟨j, hj, h1, rfl⟩
    exact ⟨gN_mem hj, by simpa using h1⟩
structure Wit (notes s : List Nt) : Prop where
  right : ∀ n ∈ s, rightS n.fr n.tO = true
  prt : ∀ n ∈ s, rightS (getN notes n.par).1.fr (getN notes n.par).1.tO = true
  lo : ∀ n ∈ s, (getN notes n.par).1.fr ≤ n.fr
  hi : ∀ n ∈ s, n.tO ≤ (getN notes n.par).1.tO
theorem gap_all (hp : s.Perm (ofT d.notes t)) (hs : Srt s) (ha : AllP s) (hw : Wit d.notes s) :
    (∀ i, i < s.length → gapB d.notes s i = false) ↔ ∀ n ∈ ofT d.notes t, coversS (spansOf (sibs d.notes t n.par)) ⟨(getN d.notes n.par).1.fr, (getN d.notes n.par).1.tO⟩ = true := by
  have hrt : ∀ n ∈ s, 0 ≤ n.fr ∧ n.fr < n.tO ∧ n.tO ≤ 86400000 := fun n hn => by have := hw.right n hn; simpa only [rightS, Bool.and_eq_true, decide_eq_true_eq, and_assoc] using this
  constructor
  · intro h n hn
    have hn' : n ∈ s := hp.mem_iff.2 hn
    obtain ⟨i0, hi0, e0⟩ := List.mem_iff_getElem.1 hn'
    rw [← gN_eq hi0] at e0
    subst e0
    rw [coversS_iff]
    refine ⟨hw.prt _ hn', fun v hv1 hv2 => ?_⟩
    simp only at hv1 hv2
    have up : ∀ k i, s.length - i ≤ k → i < s.length → (gN s i).par = (gN s i0).par → (gN s i).fr ≤ v → ∃ j, j < s.length ∧ (gN s j).par = (gN s i0).par ∧ (gN s j).fr ≤ v ∧ v < (gN s j).tO := by
      intro k
      induction k with
      | zero => intro i h1 h2; omega
      | succ k ih =>
        intro i h1 h2 h3 h4
        by_cases h5 : v < (gN s i).tO
        · exact ⟨i, h2, h3, h4, h5⟩
        have hg := h i h2
        simp only [gapB, Bool.or_eq_false_iff, Bool.and_eq_false_iff, Bool.not_eq_false', decide_eq_true_eq] at hg
        have hl : lastB s i = false := by
          rcases hg.2 with e | e
          · exact e
          · rw [h3] at e; omega
        rw [← Bool.not_eq_true, last_iff, not_or, Classical.not_not] at hl
        have hi1 : i + 1 < s.length := by omega
        have hf : firstB s (i + 1) = false := first_false.2 ⟨by omega, by simpa using hl.2.symm⟩
        have hg1 := h (i + 1) hi1
        simp only [gapB, Bool.or_eq_false_iff, Bool.and_eq_false_iff, Bool.not_eq_false', decide_eq_true_eq, hf] at hg1
        have hto : (gN s i).tO = (gN s (i + 1)).fr := by
          rcases hg1.1.2 with e | e
          · cases e
          · simpa using e
        exact ih (i + 1) (by omega) hi1 (hl.2.trans h3) (by omega)
    obtain ⟨j, hj, hjp, hjf⟩ := group_first (s := s) i0
    have hjl : j < s.length := by omega
    have hgj := h j hjl
    simp only [gapB, Bool.or_eq_false_iff, Bool.and_eq_false_iff, Bool.not_eq_false', decide_eq_true_eq, hjf] at hgj
    have hfr : (gN s j).fr = (getN d.notes (gN s i0).par).1.fr := by
      rcases hgj.1.1 with e | e
      · cases e
      · rw [hjp] at e; exact e
    obtain ⟨y, hy, hyp, hy1, hy2⟩ := up _ j (Nat.le_refl _) hjl hjp (by omega)
    exact ⟨⟨(gN s y).fr, (gN s y).tO⟩, List.mem_map.2 ⟨gN s y, (mem_sibs hp).2 ⟨y, hy, hyp, rfl⟩, rfl⟩, hw.right _ (gN_mem hy), hy1, hy2⟩
  · intro h i hi
    have hc := coversS_iff.1 (h _ (hp.mem_iff.1 (gN_mem hi)))
    have pt := hw.prt _ (gN_mem hi)
    have cov : ∀ v, (getN d.notes (gN s i).par).1.fr ≤ v → v < (getN d.notes (gN s i).par).1.tO → ∃ j, j < s.length ∧ (gN s j).par = (gN s i).par ∧ (gN s j).fr ≤ v ∧ v < (gN s j).tO := by
      intro v h1 h2
      obtain ⟨y, hy, _, hy1, hy2⟩ := hc.2 v h1 h2
      obtain ⟨m, hm, rfl⟩ := List.mem_map.1 hy
      obtain ⟨j, hj, hjp, rfl⟩ := (mem_sibs hp).1 hm
      exact ⟨j, hj, hjp, hy1, hy2⟩
    have lo := hw.lo _ (gN_mem hi)
    have hi' := hw.hi _ (gN_mem hi)
    have hri := hrt _ (gN_mem hi)
    generalize hP : (getN d.notes (gN s i).par).1.fr = a at *
    generalize hQ : (getN d.notes (gN s i).par).1.tO = b at *
    have pt' : a < b := by simp only [rightS, Bool.and_eq_true, decide_eq_true_eq] at pt; omega
    simp only [gapB, Bool.or_eq_false_iff, Bool.and_eq_false_iff, Bool.not_eq_false', decide_eq_true_eq, hP, hQ]
    refine ⟨⟨?_, ?_⟩, ?_⟩
    · cases hf : firstB s i with
      | false => exact .inl rfl
      | true =>
        right
        apply Classical.byContradiction
        intro hne
        obtain ⟨j, hj, hjp, hj1, hj2⟩ := cov a (Int.le_refl _) pt'
        rcases Nat.lt_trichotomy j i with hji | rfl | hji
        · rcases first_iff.1 hf with e | e
          · omega
          · apply e
            rcases Nat.eq_or_lt_of_le (show j ≤ i - 1 by omega) with e' | e'
            · rw [← e', hjp]
            · have x1 := hs.par j (i - 1) e' (by omega)
              have x2 := hs.par (i - 1) i (by omega) hi
              omega
        · omega
        · have := hs.fr i j hji hj hjp.symm
          omega
    · cases hf : firstB s i with
      | true => exact .inl rfl
      | false =>
        right
        obtain ⟨h0, hpp⟩ := first_false.1 hf
        have hil : i - 1 < s.length := by omega
        have h1 := ha (i - 1) i (by omega) hi hpp
        apply Classical.byContradiction
        intro hne
        have r1 := hrt _ (gN_mem hil)
        have l1 := hw.lo _ (gN_mem hil)
        rw [hpp, hP] at l1
        obtain ⟨j, hj, hjp, hj1, hj2⟩ := cov (gN s (i - 1)).tO (by omega) (by omega)
        rcases Nat.lt_trichotomy j (i - 1) with hji | e | hji
        · have := ha j (i - 1) hji hil (hjp.trans hpp.symm)
          omega
        · subst e; omega
        · rcases Nat.eq_or_lt_of_le (show i ≤ j by omega) with e' | e'
          · subst e'; omega
          · have := hs.fr i j e' hj hjp.symm
            omega
    · cases hf : lastB s i with
      | false => exact .inl rfl
      | true =>
        right
        apply Classical.byContradiction
        intro hne
        obtain ⟨j, hj, hjp, hj1, hj2⟩ := cov (gN s i).tO (by omega) (by omega)
        rcases Nat.lt_trichotomy j i with hji | rfl | hji
        · have := ha j i hji hi hjp
          omega
        · omega
        · rcases last_iff.1 hf with e | e
          · omega
          · apply e
            rcases Nat.eq_or_lt_of_le (show i + 1 ≤ j from hji) with e' | e'
            · rw [e', hjp]
            · have x1 := hs.par (i + 1) j e' hj
              have x2 := hs.par i (i + 1) (by omega) (by omega)
              omega
def posN (s : List Nt) (i : Nat) : Nat := ((s.take i).filter fun n => decide (n.par = (gN s i).par)).length
theorem pos_first (hs : Srt s) {i : Nat} (hi : i < s.length) (h : firstB s i = true) : posN s i = 0 := by
  unfold posN
  rw [List.length_eq_zero_iff, List.filter_eq_nil_iff]
  intro x hx hd
  obtain ⟨j, hj, rfl⟩ := List.mem_take_iff_getElem.1 hx
  have hjl : j < s.length := by omega
  have hji : j < i := by omega
  simp only [decide_eq_true_eq] at hd
  rw [← gN_eq hjl] at hd
  rcases first_iff.1 h with e | e
  · omega
  · apply e
    rcases Nat.eq_or_lt_of_le (show j ≤ i - 1 by omega) with e' | e'
    · rw [← e', hd]
    · have x1 := hs.par j (i - 1) e' (by omega)
      have x2 := hs.par (i - 1) i (by omega) hi
      omega
theorem pos_next {i : Nat} (hi : i < s.length) (h : firstB s i = false) : posN s i = posN s (i - 1) + 1 := by
  obtain ⟨h0, hp⟩ := first_false.1 h
  obtain ⟨j, rfl⟩ : ∃ j, i = j + 1 := ⟨i - 1, by omega⟩
  have hj : j < s.length := by omega
  have hp' : (gN s j).par = (gN s (j + 1)).par := hp
  unfold posN
  rw [take_snoc' hj, List.filter_append, List.length_append]
  have : [s[j]].filter (fun n => decide (n.par = (gN s (j + 1)).par)) = [s[j]] := by
    rw [List.filter_cons_of_pos (by rw [← gN_eq hj]; simpa using hp')]; rfl
  rw [this]
  simp only [Nat.add_sub_cancel, List.length_singleton, hp']
theorem pos_at {i : Nat} (hi : i < s.length) : (s.filter fun n => decide (n.par = (gN s i).par))[posN s i]? = some (gN s i) := by
  have := filter_at (q := fun n => decide (n.par = (gN s i).par)) hi (by rw [← gN_eq hi]; simp)
  rw [← gN_eq hi] at this
  exact this
theorem pos_from {p : Int} {j : Nat} (h : j < (s.filter fun n => decide (n.par = p)).length) : ∃ i, i < s.length ∧ (gN s i).par = p ∧ posN s i = j := by
  obtain ⟨i, hi, h1, h2⟩ := filter_from h
  have hpi : (gN s i).par = p := by rw [gN_eq hi]; simpa using h1
  exact ⟨i, hi, hpi, by unfold posN; rw [hpi]; exact h2⟩
def rkB (s : List Nt) (i : Nat) : Bool := (firstB s i && !decide ((gN s i).rank = 0)) || (!firstB s i && !decide ((gN s i).rank = IntKind.i64.wrap ((gN s (i - 1)).rank + 1)))
theorem rk_pos (hs : Srt s) (hl : s.length < 2^40) : (∀ i, i < s.length → rkB s i = false) ↔ ∀ i, i < s.length → (gN s i).rank = posN s i := by
  have hb : ∀ i, posN s i ≤ s.length := by
    intro i; unfold posN
    exact Nat.le_trans (List.length_filter_le _ _) (by rw [List.length_take]; omega)
  constructor
  · intro h i
    induction i with
    | zero =>
      intro hi
      have hf : firstB s 0 = true := first_iff.2 (.inl rfl)
      have := h 0 hi
      rw [pos_first hs hi hf]
      simp [rkB, hf] at this
      exact this
    | succ j ih =>
      intro hi
      have := h (j + 1) hi
      cases hf : firstB s (j + 1) with
      | true =>
        rw [pos_first hs hi hf]
        simp [rkB, hf] at this
        exact this
      | false =>
        have e := ih (by omega)
        have hbj := hb j
        have e2 := pos_next hi hf
        simp only [Nat.add_sub_cancel] at e2
        simp [rkB, hf] at this
        rw [this, e, e2, wrap64 (by omega)]; push_cast; rfl
  · intro h i hi
    cases hf : firstB s i with
    | true =>
      have := h i hi
      rw [pos_first hs hi hf] at this
      simp [rkB, hf, this]
    | false =>
      have e2 := pos_next hi hf
      have e := h i hi
      have e1 := h (i - 1) (by omega)
      have hbj := hb (i - 1)
      simp only [rkB, hf, Bool.false_and, Bool.false_or, Bool.not_false, Bool.true_and, Bool.not_eq_false', decide_eq_true_eq]
      rw [e, e1, e2, wrap64 (by omega)]; push_cast; rfl
theorem rank_all (hp : s.Perm (ofT d.notes t)) (hs : Srt s) (hl : s.length < 2^40) (hz : ∀ n ∈ s, n.fr = 0) :
    (∀ i, i < s.length → rkB s i = false) ↔ ∀ n ∈ ofT d.notes t, rankP (sibs d.notes t n.par) = true := by
  rw [rk_pos hs hl]
  constructor
  · intro h n hn
    rw [rankP_true]
    intro m hm
    rw [← (sibs_perm hp n.par).length_eq] at hm
    obtain ⟨i, hi, h1, h2⟩ := pos_from hm
    rw [List.any_eq_true]
    exact ⟨gN s i, (mem_sibs hp).2 ⟨i, hi, h1, rfl⟩, by rw [decide_eq_true_eq, h i hi, h2]⟩
  · intro h i hi
    have hr := rankP_true.1 (h _ (hp.mem_iff.1 (gN_mem hi)))
    have hlen := (sibs_perm hp (gN s i).par).length_eq
    have hpw : ((s.filter fun n => decide (n.par = (gN s i).par)).map (·.rank)).Pairwise (· ≤ ·) := by
      rw [List.pairwise_map, List.pairwise_filter, List.pairwise_iff_getElem]
      intro a b ha hb hab h1 h2
      simp only [decide_eq_true_eq] at h1 h2
      rw [← gN_eq ha] at h1 ⊢
      rw [← gN_eq hb] at h2 ⊢
      exact hs.rank a b hab hb (h1.trans h2.symm) (by rw [hz _ (gN_mem ha), hz _ (gN_mem hb)])
    have hin := in_row _ 0 hpw (fun n hn => by
      rw [List.length_map, hlen] at hn
      have := hr n hn
      rw [List.any_eq_true] at this
      obtain ⟨x, hx, hxr⟩ := this
      simp only [decide_eq_true_eq] at hxr
      rw [List.mem_map]
      exact ⟨x, (sibs_perm hp _).mem_iff.2 hx, by rw [hxr]; omega⟩)
    have hat := pos_at hi
    have hlt : posN s i < (s.filter fun n => decide (n.par = (gN s i).par)).length := (List.getElem?_eq_some_iff.1 hat).1
    have := hin (posN s i) (by rw [List.length_map]; exact hlt)
    rw [List.getElem?_map, hat] at this
    simp at this
    exact this
theorem label_all (hp : s.Perm (ofT d.notes t)) (hs : Srt s) : (∀ i, i < s.length → firstB s i = true) ↔ ∀ n ∈ ofT d.notes t, ¬ 1 < (sibs d.notes t n.par).length := by
  constructor
  · intro h n hn h1
    rw [← (sibs_perm hp n.par).length_eq] at h1
    obtain ⟨i, hi, _, h2⟩ := pos_from h1
    rw [pos_first hs hi (h i hi)] at h2
    cases h2
  · intro h i hi
    cases hf : firstB s i with
    | true => rfl
    | false =>
      exfalso
      apply h _ (hp.mem_iff.1 (gN_mem hi))
      have e2 := pos_next hi hf
      have hlt := (List.getElem?_eq_some_iff.1 (pos_at hi)).1
      rw [(sibs_perm hp (gN s i).par).length_eq] at hlt
      omega
end
end Go.V
namespace Go.V
open Go Go.Proofs
theorem notes_from (d : Dc) : ∀ (m i : Nat), i + m = d.notes.length → notesGo d m i = 0 → ∀ j, i ≤ j → j < d.notes.length → noteIE d j = 0
  | 0, i, h, _, j, h1, h2 => by omega
  | m + 1, i, h, hg, j, h1, h2 => by
    rw [notesGo_IE, if_pos (by omega)] at hg
    by_cases hz : noteIE d i = 0
    · rw [if_pos hz] at hg
      rcases Nat.eq_or_lt_of_le h1 with e | e
      · rw [← e]; exact hz
      · exact notes_from d m (i + 1) (by omega) hg j e h2
    · rw [if_neg hz] at hg; exact absurd hg hz
theorem tiers_from (l : List Tir) : ∀ (m i : Nat), i + m = l.length → tiersGo l m i = 0 → ∀ j, i ≤ j → (h : j < l.length) → oneE (l.take j) l[j] = 0
  | 0, i, h, _, j, h1, h2 => by omega
  | m + 1, i, h, hg, j, h1, h2 => by
    simp only [tiersGo] at hg
    rw [dif_pos (by omega)] at hg
    by_cases hz : oneE (l.take i) (l[i]'(by omega)) = 0
    · rw [if_pos hz] at hg
      rcases Nat.eq_or_lt_of_le h1 with e | e
      · subst e; exact hz
      · exact tiers_from l m (i + 1) (by omega) hg j e h2
    · rw [if_neg hz] at hg; exact absurd hg hz
structure Good (d : Dc) : Prop where
  tiers : ∀ j, (h : j < d.tiers.length) → oneE (d.tiers.take j) d.tiers[j] = 0
  notes : ∀ j, j < d.notes.length → noteIE d j = 0
theorem oneE_parent {l : List Tir} {t : Tir} (h : oneE l t = 0) (hk : t.kind ≠ 0) : 0 ≤ t.par ∧ t.par < l.length ∧ (alK t.kind = true → alK (l[t.par.toNat]?.getD default).kind = true) := by
  unfold oneE at h
  split at h
  · cases h
  · split at h
    · cases h
    · split at h
      · cases h
      · split at h
        · cases h
        · split at h
          · cases h
          · split at h
            · cases h
            · rename_i hp
              split at h
              · cases h
              · rename_i ha
                refine ⟨by omega, by omega, fun e => ?_⟩
                cases hb : alK (l[t.par.toNat]?.getD default).kind with
                | true => rfl
                | false => exact absurd ⟨e, hb⟩ ha
structure NoteOk (d : Dc) (n : Nt) : Prop where
  t0 : 0 ≤ n.tier
  t1 : n.tier < d.tiers.length
  place : placeE d n = 0
theorem note_of {d : Dc} (h : Good d) {n : Nt} (hn : n ∈ d.notes) : NoteOk d n := by
  obtain ⟨i, hi, rfl⟩ := List.mem_iff_getElem.1 hn
  have := h.notes i hi
  simp only [noteIE, List.getElem?_eq_getElem hi, Option.getD_some] at this
  split at this
  · cases this
  · split at this
    · cases this
    · split at this
      · cases this
      · rename_i ht
        rw [noteE_place] at this
        split at this
        · exact ⟨by omega, by omega, this⟩
        · rename_i hx; exact absurd this hx
theorem place_iff {d : Dc} {n : Nt} (h : placeE d n = 0) : ((tirAt d n.tier).kind = 0 → n.par = 0) ∧ ((tirAt d n.tier).kind ≠ 0 → (getN d.notes n.par).2 = true ∧ (getN d.notes n.par).1.tier = (tirAt d n.tier).par) ∧
    withinP d n (getN d.notes n.par).1 = true := by
  unfold placeE at h
  by_cases hk : (tirAt d n.tier).kind = 0
  · rw [if_pos hk] at h
    by_cases hz : n.par = 0
    · rw [if_pos (by simpa using hz)] at h
      by_cases hw : withinP d n (getN d.notes n.par).1 = true
      · exact ⟨fun _ => hz, fun e => absurd hk e, hw⟩
      · rw [if_neg hw] at h; cases h
    · rw [if_neg (by simpa using hz)] at h; cases h
  · rw [if_neg hk] at h
    by_cases h1 : ((getN d.notes n.par).2 && decide ((getN d.notes n.par).1.tier = (tirAt d n.tier).par)) = true
    · rw [if_pos h1] at h
      by_cases hw : withinP d n (getN d.notes n.par).1 = true
      · rw [Bool.and_eq_true, decide_eq_true_eq] at h1
        exact ⟨fun e => absurd e hk, fun _ => h1, hw⟩
      · rw [if_neg hw] at h; cases h
    · rw [if_neg h1] at h; cases h
theorem alT_at {d : Dc} {i : Int} (h0 : 0 ≤ i) (h1 : i < d.tiers.length) : alT d.tiers i = alK (tirAt d i).kind := by
  unfold alT tirAt
  rw [decide_eq_true h0, decide_eq_true h1]; rfl
theorem right_of {d : Dc} {n : Nt} (h : NoteOk d n) (ha : alK (tirAt d n.tier).kind = true) : rightS n.fr n.tO = true := by
  have hw := (place_iff h.place).2.2
  unfold withinP at hw
  rw [if_pos (by rw [alT_at h.t0 h.t1]; exact ha), Bool.and_eq_true] at hw
  exact hw.1
theorem flat_of {d : Dc} {n : Nt} (h : NoteOk d n) (ha : alK (tirAt d n.tier).kind = false) : n.fr = 0 ∧ n.tO = 0 := by
  have hw := (place_iff h.place).2.2
  unfold withinP at hw
  rw [if_neg (by rw [alT_at h.t0 h.t1, ha]; simp), Bool.and_eq_true, decide_eq_true_eq, decide_eq_true_eq] at hw
  exact hw
theorem getN_mem {l : List Nt} {id : Int} (h : (getN l id).2 = true) : (getN l id).1 ∈ l ∧ (getN l id).1.id = id := by
  unfold getN at h ⊢
  cases hf : l.find? fun n => decide (n.id = id) with
  | none => rw [hf] at h; cases h
  | some n =>
    rw [hf] at h
    exact ⟨List.mem_of_find?_eq_some hf, by simpa using List.find?_some hf⟩
theorem wit_of {d : Dc} (hg : Good d) {n : Nt} (h : NoteOk d n) (hk : (tirAt d n.tier).kind ≠ 0) (ha : alK (tirAt d n.tier).kind = true) :
    rightS (getN d.notes n.par).1.fr (getN d.notes n.par).1.tO = true ∧ (getN d.notes n.par).1.fr ≤ n.fr ∧ n.tO ≤ (getN d.notes n.par).1.tO := by
  obtain ⟨_, hp, hw⟩ := place_iff h.place
  obtain ⟨hp1, hp2⟩ := hp hk
  have hm := getN_mem hp1
  have hpo := note_of hg hm.1
  obtain ⟨k, hkk⟩ : ∃ k : Nat, n.tier = k := ⟨n.tier.toNat, by have := h.t0; omega⟩
  have hkl : k < d.tiers.length := by have := h.t1; omega
  have et : tirAt d n.tier = d.tiers[k] := by rw [hkk]; simp [tirAt, List.getElem?_eq_getElem hkl]
  rw [et] at hk ha hp2
  obtain ⟨q1, q2, q3⟩ := oneE_parent (hg.tiers k hkl) hk
  have hlen : (d.tiers.take k).length = k := by rw [List.length_take]; omega
  rw [hlen] at q2
  have q4 := q3 ha
  have e2 : (d.tiers.take k)[(d.tiers[k]).par.toNat]?.getD default = tirAt d (d.tiers[k]).par := by
    unfold tirAt
    rw [List.getElem?_take, if_pos (by omega)]
  rw [e2] at q4
  refine ⟨right_of hpo (by rw [hp2]; exact q4), ?_⟩
  unfold withinP at hw
  rw [if_pos (by rw [alT_at h.t0 h.t1, et]; exact ha), et, if_neg hk, Bool.and_eq_true, Bool.and_eq_true, decide_eq_true_eq, decide_eq_true_eq] at hw
  exact hw.2
theorem any_range {n : Nat} {f : Nat → Bool} : (List.range' 0 n).any f = false ↔ ∀ i, i < n → f i = false := by
  rw [List.any_eq_false]
  constructor
  · intro h i hi
    have := h i (by rw [List.mem_range']; exact ⟨i, hi, by omega⟩)
    simpa using this
  · intro h i hi
    rw [List.mem_range'] at hi
    obtain ⟨j, hj, rfl⟩ := hi
    simpa using h _ (by omega)
theorem any_list {α : Type} {l : List α} {f : α → Bool} : l.any f = false ↔ ∀ x ∈ l, f x = false := by
  rw [List.any_eq_false]
  exact ⟨fun h x hx => by simpa using h x hx, fun h x hx => by simpa using h x hx⟩
theorem bool_iff {a b : Bool} (h : a = false ↔ b = false) : a = b := by
  cases a <;> cases b <;> simp_all
theorem tier_eq (d : Dc) (hg : Good d) (hn : d.notes.length ≤ 300) (t : Nat) (ht : t < d.tiers.length) : tierE d t = terE d t := by
  rw [tierE_ev, terE_ev]
  have hp := sortN_perm (ofT d.notes t)
  have hs := srt_of (ofT d.notes t)
  have hl : (sortN (ofT d.notes t)).length < 2^40 := by
    rw [sortN_length]
    have : (ofT d.notes t).length ≤ d.notes.length := List.length_filter_le _ _
    omega
  have hmem : ∀ n ∈ sortN (ofT d.notes t), NoteOk d n ∧ n.tier = t := by
    intro n hn
    have h1 := hp.mem_iff.1 hn
    unfold ofT at h1
    rw [List.mem_filter] at h1
    exact ⟨note_of hg h1.1, by simpa using h1.2⟩
  generalize sortN (ofT d.notes t) = s at *
  generalize hkd : (tirAt d (t : Int)).kind = kd
  have hov : (List.range' 0 s.length).any (ovB kd s) = (ofT d.notes t).any (ovR d t kd) := by
    apply bool_iff
    rw [any_range, any_list]
    cases ha : alK kd with
    | false => simp [ovB, ovR, ha]
    | true =>
      have hr : ∀ n ∈ s, n.fr < n.tO := by
        intro n hn
        obtain ⟨h1, h2⟩ := hmem n hn
        have := right_of h1 (by rw [h2, hkd]; exact ha)
        simp only [rightS, Bool.and_eq_true, decide_eq_true_eq] at this
        omega
      simp only [ovB, ovR, ha, Bool.true_and]
      rw [← over_all hp hs hr]
      exact ⟨all_of hs, all_adj⟩
  rw [hov]
  cases ho : (ofT d.notes t).any (ovR d t kd) with
  | true => rfl
  | false =>
    have hbad : (List.range' 0 s.length).any (badB d.notes kd s) = (ofT d.notes t).any (badR d t kd) := by
      apply bool_iff
      rw [any_range, any_list]
      by_cases k1 : kd = 1
      · subst k1
        have ha : alK 1 = true := rfl
        have hr : ∀ n ∈ s, rightS n.fr n.tO = true := fun n hn => by
          obtain ⟨h1, h2⟩ := hmem n hn
          exact right_of h1 (by rw [h2, hkd]; exact ha)
        have hr' : ∀ n ∈ s, n.fr < n.tO := fun n hn => by
          have := hr n hn
          simp only [rightS, Bool.and_eq_true, decide_eq_true_eq] at this
          omega
        have hall : AllP s := by
          rw [over_all hp hs hr']
          intro n hn
          have := any_list.1 ho n hn
          simpa [ovR, ha] using this
        have hw : Wit d.notes s := by
          have w := fun n (hn : n ∈ s) => wit_of hg (hmem n hn).1 (by rw [(hmem n hn).2, hkd]; decide) (by rw [(hmem n hn).2, hkd]; exact ha)
          exact ⟨hr, fun n hn => (w n hn).1, fun n hn => (w n hn).2.1, fun n hn => (w n hn).2.2⟩
        have := gap_all hp hs hall hw
        have e1 : ∀ i, badB d.notes 1 s i = gapB d.notes s i := fun i => by simp [badB, gapB]
        have e2 : ∀ n, badR d t 1 n = !coversS (spansOf (sibs d.notes t n.par)) ⟨(getN d.notes n.par).1.fr, (getN d.notes n.par).1.tO⟩ := fun n => by simp [badR]
        simp only [e1, e2, Bool.not_eq_false']
        exact this
      by_cases k3 : kd = 3
      · subst k3
        have ha : alK 3 = false := rfl
        have := rank_all hp hs hl fun n hn => (flat_of (hmem n hn).1 (by rw [(hmem n hn).2, hkd]; exact ha)).1
        have e1 : ∀ i, badB d.notes 3 s i = rkB s i := fun i => by simp [badB, rkB]
        have e2 : ∀ n, badR d t 3 n = !rankP (sibs d.notes t n.par) := fun n => by simp [badR]
        simp only [e1, e2, Bool.not_eq_false']
        exact this
      by_cases k4 : kd = 4
      · subst k4
        have := label_all hp hs
        have e1 : ∀ i, badB d.notes 4 s i = !firstB s i := fun i => by simp [badB]
        have e2 : ∀ n, badR d t 4 n = decide (1 < (sibs d.notes t n.par).length) := fun n => by simp [badR]
        simp only [e1, e2, Bool.not_eq_false', decide_eq_false_iff_not]
        exact this
      simp [badB, badR, k1, k3, k4]
    rw [hbad]
theorem tiers_eq (d : Dc) (hg : Good d) (hn : d.notes.length ≤ 300) : ∀ (m i : Nat), i + m = d.tiers.length → tierGos d m i = terGos d m i
  | 0, i, _ => rfl
  | m + 1, i, h => by
    simp only [tierGos, terGos]
    have hi : i < d.tiers.length := by omega
    rw [if_pos hi, if_pos hi, tier_eq d hg hn i hi, tiers_eq d hg hn m (i + 1) (by omega)]
theorem check_eq (d : Dc) : checkE d = refE d := by
  unfold checkE refE
  split
  · rfl
  · rename_i h1
    split
    · rfl
    · split
      · rfl
      · rename_i h3
        split
        · rfl
        · rename_i h4
          have h1' : tiersE d.tiers = 0 := by simpa using h1
          have h4' : notesGo d d.notes.length 0 = 0 := by simpa using h4
          unfold tiersE at h1'
          split at h1'
          · cases h1'
          · exact tiers_eq d ⟨fun j hj => tiers_from _ _ _ (by omega) h1' j (by omega) hj, fun j hj => notes_from d _ _ (by omega) h4' j (by omega) hj⟩ (by omega) _ _ (by omega)
end Go.V
namespace Go.V
open Go Go.Proofs
structure Nok (d : Dc) (n : Nt) : Prop where
  lo : 1 ≤ n.id
  hi : n.id ≤ 1099511627776
  t0 : 0 ≤ n.tier
  t1 : n.tier < d.tiers.length
  e : noteE d n = 0
structure Rgt (d : Dc) : Prop where
  tiers : tiersE d.tiers = 0
  len : 0 ≤ d.len ∧ d.len ≤ 86400000
  few : d.notes.length ≤ 300
  nok : ∀ n ∈ d.notes, Nok d n
  inc : d.notes.Pairwise fun a b => a.id < b.id
  ter : ∀ t : Nat, t < d.tiers.length → terE d t = 0
theorem notes_to (d : Dc) : ∀ (m i : Nat), i + m = d.notes.length → (∀ j, i ≤ j → j < d.notes.length → noteIE d j = 0) → notesGo d m i = 0
  | 0, i, h, _ => rfl
  | m + 1, i, h, hg => by
    rw [notesGo_IE, if_pos (by omega), if_pos (hg i (Nat.le_refl _) (by omega))]
    exact notes_to d m (i + 1) (by omega) fun j h1 h2 => hg j (by omega) h2
theorem ters_from (d : Dc) : ∀ (m i : Nat), i + m = d.tiers.length → terGos d m i = 0 → ∀ j : Nat, i ≤ j → j < d.tiers.length → terE d j = 0
  | 0, i, h, _, j, h1, h2 => by omega
  | m + 1, i, h, hg, j, h1, h2 => by
    simp only [terGos] at hg
    rw [if_pos (by omega)] at hg
    by_cases hz : terE d i = 0
    · rw [if_pos hz] at hg
      rcases Nat.eq_or_lt_of_le h1 with e | e
      · rw [← e]; exact hz
      · exact ters_from d m (i + 1) (by omega) hg j e h2
    · rw [if_neg hz] at hg; exact absurd hg hz
theorem ters_to (d : Dc) : ∀ (m i : Nat), i + m = d.tiers.length → (∀ j : Nat, i ≤ j → j < d.tiers.length → terE d j = 0) → terGos d m i = 0
  | 0, i, h, _ => rfl
  | m + 1, i, h, hg => by
    simp only [terGos]
    rw [if_pos (by omega), if_pos (hg i (Nat.le_refl _) (by omega))]
    exact ters_to d m (i + 1) (by omega) fun j h1 h2 => hg j (by omega) h2
theorem noteIE_iff {d : Dc} {i : Nat} (hi : i < d.notes.length) : noteIE d i = 0 ↔ Nok d d.notes[i] ∧ (i ≠ 0 → (d.notes[i - 1]?.getD default).id < d.notes[i].id) := by
  simp only [noteIE, List.getElem?_eq_getElem hi, Option.getD_some]
  constructor
  · intro h
    split at h
    · cases h
    · split at h
      · cases h
      · split at h
        · cases h
        · exact ⟨⟨by omega, by omega, by omega, by omega, h⟩, fun h0 => by omega⟩
  · rintro ⟨⟨h1, h2, h3, h4, h5⟩, h6⟩
    rw [if_neg (by omega), if_neg (by rintro ⟨a, b⟩; have := h6 a; omega), if_neg (by omega)]
    exact h5
theorem notes_iff {d : Dc} : (∀ i, i < d.notes.length → noteIE d i = 0) ↔ (∀ n ∈ d.notes, Nok d n) ∧ d.notes.Pairwise fun a b => a.id < b.id := by
  constructor
  · intro h
    refine ⟨fun n hn => ?_, ?_⟩
    · obtain ⟨i, hi, rfl⟩ := List.mem_iff_getElem.1 hn
      exact ((noteIE_iff hi).1 (h i hi)).1
    · rw [List.pairwise_iff_getElem]
      have key : ∀ (k i : Nat) (hj : i + k + 1 < d.notes.length), (d.notes[i]'(by omega)).id < (d.notes[i + k + 1]'hj).id := by
        intro k
        induction k with
        | zero =>
          intro i hj
          have := ((noteIE_iff hj).1 (h _ hj)).2 (by omega)
          rw [Nat.add_sub_cancel, List.getElem?_eq_getElem (by omega)] at this
          exact this
        | succ k ih =>
          intro i hj
          have a := ih i (by omega)
          have := ((noteIE_iff hj).1 (h _ hj)).2 (by omega)
          rw [Nat.add_sub_cancel, List.getElem?_eq_getElem (by omega)] at this
          exact Int.lt_trans a this
      intro i j hi hj hij
      obtain ⟨k, rfl⟩ : ∃ k, j = i + k + 1 := ⟨j - i - 1, by omega⟩
      exact key k i hj
  · rintro ⟨h1, h2⟩ i hi
    rw [noteIE_iff hi]
    refine ⟨h1 _ (List.getElem_mem hi), fun h0 => ?_⟩
    rw [List.getElem?_eq_getElem (by omega)]
    exact List.pairwise_iff_getElem.1 h2 (i - 1) i (by omega) hi (by omega)
theorem right_iff {d : Dc} : checkE d = 0 ↔ Rgt d := by
  rw [check_eq]
  unfold refE
  constructor
  · intro h
    split at h
    · rename_i h1; exact absurd h h1
    · rename_i h1
      split at h
      · cases h
      · split at h
        · cases h
        · split at h
          · rename_i h4; exact absurd h h4
          · rename_i h4
            have h4' : notesGo d d.notes.length 0 = 0 := by simpa using h4
            have hn := notes_iff.1 fun i hi => notes_from d _ _ (by omega) h4' i (by omega) hi
            exact ⟨by simpa using h1, by omega, by omega, hn.1, hn.2, fun t ht => ters_from d _ _ (by omega) h t (by omega) ht⟩
  · intro h
    rw [if_neg (by simpa using h.tiers), if_neg (by have := h.len; omega), if_neg (by have := h.few; omega)]
    have := notes_iff.2 ⟨h.nok, h.inc⟩
    rw [notes_to d _ _ (by omega) fun j _ hj => this j hj]
    rw [if_neg (by simp)]
    exact ters_to d _ _ (by omega) fun j _ hj => h.ter j hj
theorem Rgt.good {d : Dc} (h : Rgt d) : Good d := by
  refine ⟨?_, notes_iff.2 ⟨h.nok, h.inc⟩⟩
  have h1 := h.tiers
  unfold tiersE at h1
  split at h1
  · cases h1
  · exact fun j hj => tiers_from _ _ _ (by omega) h1 j (by omega) hj
theorem ter_iff {d : Dc} {t : Int} : terE d t = 0 ↔ (∀ n ∈ ofT d.notes t, ovR d t (tirAt d t).kind n = false) ∧ ∀ n ∈ ofT d.notes t, badR d t (tirAt d t).kind n = false := by
  rw [terE_ev, ← any_list, ← any_list]
  have hc : codeK (tirAt d t).kind ≠ 0 := by unfold codeK; split <;> (try split) <;> omega
  cases (ofT d.notes t).any (ovR d t (tirAt d t).kind) <;> cases (ofT d.notes t).any (badR d t (tirAt d t).kind) <;> simp [hc]
theorem ids_uniq {d : Dc} (h : Rgt d) {a b : Nt} (ha : a ∈ d.notes) (hb : b ∈ d.notes) (e : a.id = b.id) : a = b := by
  obtain ⟨i, hi, rfl⟩ := List.mem_iff_getElem.1 ha
  obtain ⟨j, hj, rfl⟩ := List.mem_iff_getElem.1 hb
  have hp := List.pairwise_iff_getElem.1 h.inc
  rcases Nat.lt_trichotomy i j with h1 | rfl | h1
  · have := hp i j hi hj h1; omega
  · rfl
  · have := hp j i hj hi h1; omega
theorem getN_of {d : Dc} (h : Rgt d) {n : Nt} (hn : n ∈ d.notes) : getN d.notes n.id = (n, true) := by
  unfold getN
  cases hf : d.notes.find? fun m => decide (m.id = n.id) with
  | none => rw [List.find?_eq_none] at hf; exact absurd (hf n hn) (by simp)
  | some m =>
    have h1 := List.mem_of_find?_eq_some hf
    have h2 : m.id = n.id := by simpa using List.find?_some hf
    rw [ids_uniq h h1 hn h2]
end Go.V
