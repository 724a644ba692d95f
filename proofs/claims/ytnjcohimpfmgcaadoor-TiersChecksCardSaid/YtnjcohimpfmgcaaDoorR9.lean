/- Plain law: the program's walk over the sorted notes of a tier finds what the reference finds among the siblings. -/
import Derived.Test.YtnjcohimpfmgcaaDoorR8
set_option linter.unusedSimpArgs false
set_option linter.unusedVariables false
set_option maxRecDepth 10000
namespace Go.V
open Go Go.Proofs

def gN (s : List Nt) (i : Nat) : Nt := s[i]?.getD default
theorem gN_eq {s : List Nt} {i : Nat} (h : i < s.length) : gN s i = s[i] := by unfold gN; rw [List.getElem?_eq_getElem h]; rfl
theorem gN_mem {s : List Nt} {i : Nat} (h : i < s.length) : gN s i ∈ s := by rw [gN_eq h]; exact List.getElem_mem h
/-! ### both walks as one -/
def evGo {α : Type} (ov bad : α → Bool) (c : Int) : List α → Int → Int
  | [], out => out
  | x :: r, out => if ov x = true then 15 else evGo ov bad c r (if bad x = true then c else out)
theorem evGo_eq {α : Type} (ov bad : α → Bool) (c : Int) : ∀ (l : List α) (out : Int), evGo ov bad c l out = if l.any ov = true then 15 else if l.any bad = true then c else out
  | [], out => by simp [evGo]
  | x :: r, out => by
    simp only [evGo]
    rw [evGo_eq ov bad c r]
    simp only [List.any_cons]
    have h : ∀ a b e g : Bool, (if a = true then (15 : Int) else if e = true then 15 else if g = true then c else if b = true then c else out) = if (a || e) = true then 15 else if (b || g) = true then c else out := by
      intro a b e g; cases a <;> cases b <;> cases e <;> cases g <;> simp
    exact h _ _ _ _
def codeK (kd : Int) : Int := if kd = 1 then 16 else if kd = 3 then 10 else 8
def ovB (kd : Int) (s : List Nt) (i : Nat) : Bool := alK kd && (!firstB s i && decide ((gN s i).fr < (gN s (i - 1)).tO))
def badB (notes : List Nt) (kd : Int) (s : List Nt) (i : Nat) : Bool :=
  (decide (kd = 1) && ((firstB s i && !decide ((gN s i).fr = (getN notes (gN s i).par).1.fr)) || (!firstB s i && !decide ((gN s (i - 1)).tO = (gN s i).fr)) || (lastB s i && !decide ((gN s i).tO = (getN notes (gN s i).par).1.tO)))) ||
  (decide (kd = 3) && ((firstB s i && !decide ((gN s i).rank = 0)) || (!firstB s i && !decide ((gN s i).rank = IntKind.i64.wrap ((gN s (i - 1)).rank + 1))))) ||
  (decide (kd = 4) && !firstB s i)
theorem tierGo_ev (notes : List Nt) (kd : Int) (s : List Nt) : ∀ (m i : Nat) (why : Int), i + m ≤ s.length → tierGo notes kd s m i why = evGo (ovB kd s) (badB notes kd s) (codeK kd) (List.range' i m) why
  | 0, i, why, _ => rfl
  | m + 1, i, why, h => by
    have ih := fun w => tierGo_ev notes kd s m (i + 1) w (by omega)
    rw [List.range'_succ]
    simp only [tierGo, evGo]
    rw [if_pos (show i < s.length by omega)]
    simp only [ih]
    have e1 : (s[i]?.getD default) = gN s i := rfl
    have e2 : (s[i - 1]?.getD default) = gN s (i - 1) := rfl
    rw [e1, e2]
    unfold ovB badB codeK
    generalize gN s i = n
    generalize gN s (i - 1) = pv
    generalize (getN notes n.par).1 = p
    generalize firstB s i = F
    generalize lastB s i = L
    by_cases k0 : kd = 0
    · subst k0
      cases F <;> simp [alK]
    by_cases k1 : kd = 1
    · subst k1
      cases F <;> cases L <;> simp [alK]
    by_cases k2 : kd = 2
    · subst k2
      cases F <;> simp [alK]
    by_cases k3 : kd = 3
    · subst k3
      cases F <;> simp [alK]
    by_cases k4 : kd = 4
    · subst k4
      cases F <;> simp [alK]
    simp [alK, k0, k1, k2, k3, k4]
theorem tierE_ev (d : Dc) (t : Int) : tierE d t = if (List.range' 0 (sortN (ofT d.notes t)).length).any (ovB (tirAt d t).kind (sortN (ofT d.notes t))) = true then 15
    else if (List.range' 0 (sortN (ofT d.notes t)).length).any (badB d.notes (tirAt d t).kind (sortN (ofT d.notes t))) = true then codeK (tirAt d t).kind else 0 := by
  unfold tierE
  rw [← sortN_length (ofT d.notes t), tierGo_ev _ _ _ _ _ _ (by simp), evGo_eq]
/-! ### the reference -/
def ovR (d : Dc) (t kd : Int) (n : Nt) : Bool := alK kd && overP (sibs d.notes t n.par)
def badR (d : Dc) (t kd : Int) (n : Nt) : Bool :=
  (decide (kd = 1) && !coversS (spansOf (sibs d.notes t n.par)) ⟨(getN d.notes n.par).1.fr, (getN d.notes n.par).1.tO⟩) || (decide (kd = 3) && !rankP (sibs d.notes t n.par)) || (decide (kd = 4) && decide (1 < (sibs d.notes t n.par).length))
theorem terGo_ev (d : Dc) (t kd : Int) : ∀ (l : List Nt) (out : Int), terGo d t kd l out = evGo (ovR d t kd) (badR d t kd) (codeK kd) (ofT l t) out
  | [], out => rfl
  | n :: r, out => by
    have ih := fun w => terGo_ev d t kd r w
    simp only [terGo]
    by_cases h : n.tier = t
    · have e : ofT (n :: r) t = n :: ofT r t := by unfold ofT; rw [List.filter_cons_of_pos (by simpa using h)]
      rw [if_pos h, e]
      simp only [evGo, ih]
      unfold ovR badR terStep codeK
      generalize coversS (spansOf (sibs d.notes t n.par)) ⟨(getN d.notes n.par).1.fr, (getN d.notes n.par).1.tO⟩ = C
      generalize rankP (sibs d.notes t n.par) = R
      generalize (sibs d.notes t n.par).length = z
      generalize overP (sibs d.notes t n.par) = O
      by_cases k1 : kd = 1
      · subst k1; cases C <;> simp [alK]
      by_cases k3 : kd = 3
      · subst k3; cases R <;> simp [alK]
      by_cases k4 : kd = 4
      · subst k4; simp [alK]
      simp [k1, k3, k4]
    · have e : ofT (n :: r) t = ofT r t := by unfold ofT; rw [List.filter_cons_of_neg (by simpa using h)]
      rw [if_neg h, e, ih]
theorem terE_ev (d : Dc) (t : Int) : terE d t = if (ofT d.notes t).any (ovR d t (tirAt d t).kind) = true then 15 else if (ofT d.notes t).any (badR d t (tirAt d t).kind) = true then codeK (tirAt d t).kind else 0 := by
  unfold terE
  rw [terGo_ev, evGo_eq]

/-! ### sorted notes -/
/-- What is known of the sorted notes of a tier of a kind. -/
structure Srt (s : List Nt) : Prop where
  par : ∀ i j, i < j → j < s.length → (gN s i).par ≤ (gN s j).par
  fr : ∀ i j, i < j → j < s.length → (gN s i).par = (gN s j).par → (gN s i).fr ≤ (gN s j).fr
  rank : ∀ i j, i < j → j < s.length → (gN s i).par = (gN s j).par → (gN s i).fr = (gN s j).fr → (gN s i).rank ≤ (gN s j).rank
theorem srt_of (l : List Nt) : Srt (sortN l) := by
  have h : ∀ i j, i < j → j < (sortN l).length → ¬ ((gN (sortN l) j).par < (gN (sortN l) i).par ∨ ((gN (sortN l) j).par = (gN (sortN l) i).par ∧ ((gN (sortN l) j).fr < (gN (sortN l) i).fr ∨ ((gN (sortN l) j).fr = (gN (sortN l) i).fr ∧ (gN (sortN l) j).rank < (gN (sortN l) i).rank)))) := by
    intro i j hij hj
    have := List.pairwise_iff_getElem.1 (sortN_sorted l) i j (by omega) hj hij
    rw [ltN_false] at this
    rw [gN_eq hj, gN_eq (show i < _ by omega)]
    exact this
  exact ⟨fun i j hij hj => by have := h i j hij hj; omega, fun i j hij hj e => by have := h i j hij hj; omega, fun i j hij hj e e' => by have := h i j hij hj; omega⟩
theorem first_iff {s : List Nt} {i : Nat} : firstB s i = true ↔ i = 0 ∨ (gN s (i - 1)).par ≠ (gN s i).par := by
  unfold firstB
  rw [Bool.or_eq_true, decide_eq_true_eq, Bool.not_eq_true', decide_eq_false_iff_not]
  rfl
theorem first_false {s : List Nt} {i : Nat} : firstB s i = false ↔ i ≠ 0 ∧ (gN s (i - 1)).par = (gN s i).par := by
  rw [← Bool.not_eq_true, first_iff]
  exact ⟨fun h => ⟨fun e => h (.inl e), Classical.byContradiction fun e => h (.inr e)⟩, fun h h' => h'.elim (fun e => h.1 e) (fun e => e h.2)⟩
theorem last_iff {s : List Nt} {i : Nat} : lastB s i = true ↔ i + 1 = s.length ∨ (gN s (i + 1)).par ≠ (gN s i).par := by
  unfold lastB
  rw [Bool.or_eq_true, decide_eq_true_eq, Bool.not_eq_true', decide_eq_false_iff_not]
  rfl
def AllP (s : List Nt) : Prop := ∀ i j, i < j → j < s.length → (gN s i).par = (gN s j).par → (gN s i).tO ≤ (gN s j).fr
theorem all_of {s : List Nt} (hs : Srt s) (h : ∀ i, i < s.length → (!firstB s i && decide ((gN s i).fr < (gN s (i - 1)).tO)) = false) : AllP s := by
  intro i j hij hj hp
  have h1 : (gN s i).par = (gN s (i + 1)).par := by
    rcases Nat.eq_or_lt_of_le (show i + 1 ≤ j from hij) with e | e
    · rw [e]; exact hp
    · have a := hs.par i (i + 1) (by omega) (by omega)
      have b := hs.par (i + 1) j e hj
      omega
  have h2 := h (i + 1) (by omega)
  have hf : firstB s (i + 1) = false := first_false.2 ⟨by omega, h1⟩
  rw [hf] at h2
  simp at h2
  rcases Nat.eq_or_lt_of_le (show i + 1 ≤ j from hij) with e | e
  · subst e; exact h2
  · have := hs.fr (i + 1) j e hj (by omega)
    omega
theorem all_adj {s : List Nt} (h : AllP s) : ∀ i, i < s.length → (!firstB s i && decide ((gN s i).fr < (gN s (i - 1)).tO)) = false := by
  intro i hi
  cases hf : firstB s i with
  | true => rfl
  | false =>
    obtain ⟨h0, hp⟩ := first_false.1 hf
    have := h (i - 1) i (by omega) hi hp
    simp; omega
def NM (x y : Nt) : Prop := ¬ (x.fr < y.tO ∧ y.fr < x.tO)
theorem NM.symm {x y : Nt} (h : NM x y) : NM y x := fun e => h ⟨e.2, e.1⟩
theorem over_pair {l : List Nt} : overP l = false ↔ l.Pairwise NM := by
  rw [overP_false, List.pairwise_iff_getElem]
  constructor
  · intro h i j hi hj hij
    have := h j hj i hij
    unfold meetP at this
    rw [List.getElem?_eq_getElem hj, List.getElem?_eq_getElem hi] at this
    simp only [Option.getD_some, Bool.and_eq_false_iff, decide_eq_false_iff_not] at this
    rintro ⟨a, b⟩
    rcases this with h | h
    · exact h b
    · exact h a
  · intro h i hi k hk
    have := h k i (by omega) hi hk
    unfold meetP
    rw [List.getElem?_eq_getElem hi, List.getElem?_eq_getElem (show k < l.length by omega)]
    simp only [Option.getD_some, Bool.and_eq_false_iff, decide_eq_false_iff_not]
    by_cases c : l[i].fr < l[k].tO
    · right; intro c'; exact this ⟨c', c⟩
    · left; exact c
section
variable {d : Dc} {t : Int} {s : List Nt}
theorem sibs_ofT (notes : List Nt) (t p : Int) : sibs notes t p = (ofT notes t).filter fun n => decide (n.par = p) := by
  unfold sibs ofT
  rw [List.filter_filter]
  congr 1; funext n; rw [Bool.and_comm]
theorem sibs_perm (hp : s.Perm (ofT d.notes t)) (p : Int) : (s.filter fun n => decide (n.par = p)).Perm (sibs d.notes t p) := by
  rw [sibs_ofT]; exact hp.filter _
theorem over_all (hp : s.Perm (ofT d.notes t)) (hs : Srt s) (hr : ∀ n ∈ s, n.fr < n.tO) : AllP s ↔ ∀ n ∈ ofT d.notes t, overP (sibs d.notes t n.par) = false := by
  constructor
  · intro h n hn
    rw [over_pair]
    refine ((sibs_perm hp n.par).pairwise_iff fun h => NM.symm h).1 ?_
    rw [List.pairwise_filter, List.pairwise_iff_getElem]
    intro i j hi hj hij h1 h2
    simp at h1 h2
    have := h i j hij hj (by rw [gN_eq hi, gN_eq hj, h1, h2])
    rw [gN_eq hi, gN_eq hj] at this
    rintro ⟨_, b⟩
    omega
  · intro h i j hij hj hpp
    have hi : i < s.length := by omega
    have h1 := h (gN s i) (hp.mem_iff.1 (gN_mem hi))
    rw [over_pair] at h1
    have h2 := ((sibs_perm hp (gN s i).par).pairwise_iff fun h => NM.symm h).2 h1
    rw [List.pairwise_filter, List.pairwise_iff_getElem] at h2
    have h3 := h2 i j hi hj hij (by rw [gN_eq hi]; simp) (by rw [← gN_eq hj, ← hpp]; simp)
    rw [← gN_eq hi, ← gN_eq hj] at h3
    have a := hs.fr i j hij hj hpp
    have b := hr _ (gN_mem hj)
    have c : ¬ (gN s j).fr < (gN s i).tO := fun e => h3 ⟨by omega, e⟩
    omega
end
end Go.V
