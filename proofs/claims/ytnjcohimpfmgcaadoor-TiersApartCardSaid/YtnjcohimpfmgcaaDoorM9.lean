/- Contracts and plain laws of this seat: part M9. It needs no conditions. -/
import Derived.Test.YtnjcohimpfmgcaaDoorM7
import Derived.Test.YtnjcohimpfmgcaaDoorM8
set_option linter.unusedVariables false
set_option linter.unusedSimpArgs false
set_option linter.unusedSectionVars false
set_option maxRecDepth 100000
/- Plain law: lists of notes without ties; exchanging pieces of a list. -/
namespace Go.V
open Go Go.Proofs

def Dst (l : List Nt) : Prop := l.Pairwise fun a b => ltN a b = true ∨ ltN b a = true
def SS (l : List Nt) : Prop := l.Pairwise fun a b => ltN a b = true
theorem lt_asym {a b : Nt} (h : ltN a b = true) : ltN b a = false := by rw [ltN_iff] at h; rw [ltN_false]; omega
theorem lt_trans' {a b c : Nt} (h : ltN a b = true) (k : ltN b c = true) : ltN a c = true := swoN.trans a b c h k
theorem Dst.perm {l m : List Nt} (h : l.Perm m) (hl : Dst l) : Dst m := (h.pairwise_iff fun {a b} e => e.symm).1 hl
theorem SS.dst {l : List Nt} (h : SS l) : Dst l := h.imp fun e => .inl e
theorem SS.uniq {l m : List Nt} (h : SS l) (k : SS m) (hp : l.Perm m) : l = m :=
  List.Perm.eq_of_pairwise (le := fun a b => ltN a b = true) (fun a b _ _ r1 r2 => by have := lt_asym r1; rw [this] at r2; cases r2) h k hp
theorem Dst.isort {l : List Nt} (h : Dst l) : SS (isort l) := by
  have h1 := isort_sorted l
  have h2 := h.perm (isort_perm l).symm
  exact (List.pairwise_and_iff.2 ⟨h1, h2⟩).imp fun {a b} e => e.2.elim id fun e2 => by rw [e.1] at e2; cases e2
theorem isort_uniq {l m : List Nt} (h : SS m) (hp : m.Perm l) : m = isort l := h.uniq (Dst.isort (h.dst.perm hp)) (hp.trans (isort_perm l).symm)
theorem SS.isort {l : List Nt} (h : SS l) : isort l = l := (isort_uniq h (List.Perm.refl _)).symm
theorem SS.app {l m : List Nt} : SS (l ++ m) ↔ SS l ∧ SS m ∧ ∀ a ∈ l, ∀ b ∈ m, ltN a b = true := List.pairwise_append
theorem SS.get {l : List Nt} (h : SS l) {i j : Nat} (hij : i < j) (hj : j < l.length) : ltN (gN l i) (gN l j) = true := by
  rw [gN_eq hj, gN_eq (show i < l.length by omega)]
  exact List.pairwise_iff_getElem.1 h i j (by omega) hj hij
theorem Dst.sub {l m : List Nt} (h : l.Sublist m) (k : Dst m) : Dst l := k.sublist h
theorem SS.sub {l m : List Nt} (h : l.Sublist m) (k : SS m) : SS l := k.sublist h
/-- Two sorted halves of what is below, and of what is above. -/
theorem halves {U1 U2 V1 V2 : List Nt} (hU : SS (U1 ++ U2)) (hV : SS (V1 ++ V2)) (hd : Dst (U1 ++ U2 ++ (V1 ++ V2))) (h1 : ∀ x ∈ U1, ∀ y ∈ V2, ltN x y = true) (h2 : ∀ x ∈ V1, ∀ y ∈ U2, ltN x y = true) :
    isort (U1 ++ V1) ++ isort (U2 ++ V2) = isort (U1 ++ U2 ++ (V1 ++ V2)) := by
  have hp : (U1 ++ V1 ++ (U2 ++ V2)).Perm (U1 ++ U2 ++ (V1 ++ V2)) := by
    rw [List.append_assoc, List.append_assoc]
    refine List.Perm.append_left _ ?_
    rw [← List.append_assoc, ← List.append_assoc]
    exact List.Perm.append_right _ List.perm_append_comm
  have hd' := hd.perm hp.symm
  have d1 : Dst (U1 ++ V1) := hd'.sub (List.sublist_append_left _ _)
  have d2 : Dst (U2 ++ V2) := hd'.sub (List.sublist_append_right _ _)
  refine isort_uniq (SS.app.2 ⟨d1.isort, d2.isort, fun a ha b hb => ?_⟩) (((isort_perm _).append (isort_perm _)).trans hp)
  have ha := List.mem_append.1 ((isort_perm _).mem_iff.1 ha)
  have hb := List.mem_append.1 ((isort_perm _).mem_iff.1 hb)
  rcases ha with ha | ha <;> rcases hb with hb | hb
  · exact (SS.app.1 hU).2.2 a ha b hb
  · exact h1 a ha b hb
  · exact h2 a ha b hb
  · exact (SS.app.1 hV).2.2 a ha b hb
/-! ### exchanging -/
def swpL (l : List Nt) (i j : Nat) : List Nt := (l.set i (gN l j)).set j (gN l i)
theorem swpL_length (l : List Nt) (i j : Nat) : (swpL l i j).length = l.length := by simp [swpL]
def swpN (l : List Nt) (a b : Nat) : Nat → List Nt
  | 0 => l
  | n + 1 => swpL (swpN l a b n) (a + n) (b + n)
theorem swpN_length (l : List Nt) (a b : Nat) : ∀ n, (swpN l a b n).length = l.length
  | 0 => rfl
  | n + 1 => by simp only [swpN]; rw [swpL_length, swpN_length l a b n]
theorem swpL_get {l : List Nt} {i j k : Nat} (hi : i < l.length) (hj : j < l.length) : (swpL l i j)[k]? = if k = j then l[i]? else if k = i then l[j]? else l[k]? := by
  unfold swpL
  rw [List.getElem?_set, List.getElem?_set]
  by_cases h1 : j = k
  · subst h1
    rw [if_pos rfl, if_pos rfl, List.length_set, if_pos hj, gN_eq hi, List.getElem?_eq_getElem hi]
  · rw [if_neg h1, if_neg (Ne.symm h1)]
    by_cases h2 : i = k
    · subst h2
      rw [if_pos rfl, if_pos rfl, if_pos hi, gN_eq hj, List.getElem?_eq_getElem hj]
    · rw [if_neg h2, if_neg (Ne.symm h2)]
theorem swpN_get {l : List Nt} {a b : Nat} : ∀ {n : Nat}, a + n ≤ b → b + n ≤ l.length → ∀ k, (swpN l a b n)[k]? = if a ≤ k ∧ k < a + n then l[b + (k - a)]? else if b ≤ k ∧ k < b + n then l[a + (k - b)]? else l[k]?
  | 0, _, _, k => by
    rw [if_neg (by omega), if_neg (by omega)]; rfl
  | n + 1, h1, h2, k => by
    simp only [swpN]
    have hl := swpN_length l a b n
    rw [swpL_get (by omega) (by omega)]
    have ih := swpN_get (n := n) (l := l) (a := a) (b := b) (by omega) (by omega)
    by_cases e1 : k = b + n
    · subst e1
      rw [if_pos rfl, ih, if_neg (by omega), if_neg (by omega), if_neg (by omega), if_pos (by omega)]
      congr 1; omega
    · rw [if_neg e1]
      by_cases e2 : k = a + n
      · subst e2
        rw [if_pos rfl, ih, if_neg (by omega), if_neg (by omega), if_pos (by omega)]
        congr 1; omega
      · rw [if_neg e2, ih]
        repeat' split
        all_goals first | rfl | (exfalso; omega) | (congr 1; omega)
/-- Two pieces of one length change places. -/
theorem swpN_seg {A X M Y B : List Nt} (h : X.length = Y.length) : swpN (A ++ (X ++ (M ++ (Y ++ B)))) A.length (A.length + X.length + M.length) X.length = A ++ (Y ++ (M ++ (X ++ B))) := by
  apply List.ext_getElem?
  intro k
  rw [swpN_get (by omega) (by simp; omega)]
  simp only [List.getElem?_append]
  repeat' split
  all_goals first | rfl | (exfalso; omega) | (congr 1; omega)
/-- A piece moved behind the next one. -/
def rotL (l : List Nt) (a m b : Nat) : List Nt := l.take a ++ ((l.drop m).take (b - m) ++ ((l.drop a).take (m - a) ++ l.drop b))
theorem rotL_seg {A X Y B : List Nt} : rotL (A ++ (X ++ (Y ++ B))) A.length (A.length + X.length) (A.length + X.length + Y.length) = A ++ (Y ++ (X ++ B)) := by
  unfold rotL
  have e1 : (A ++ (X ++ (Y ++ B))).take A.length = A := List.take_left' rfl
  have e2 : (A ++ (X ++ (Y ++ B))).drop A.length = X ++ (Y ++ B) := List.drop_left' rfl
  have e3 : (A ++ (X ++ (Y ++ B))).drop (A.length + X.length) = Y ++ B := by rw [← List.drop_drop, e2]; exact List.drop_left' rfl
  have e4 : (A ++ (X ++ (Y ++ B))).drop (A.length + X.length + Y.length) = B := by rw [← List.drop_drop, e3]; exact List.drop_left' rfl
  rw [e1, e2, e3, e4]
  rw [show A.length + X.length + Y.length - (A.length + X.length) = Y.length by omega, show A.length + X.length - A.length = X.length by omega]
  rw [List.take_left' rfl, List.take_left' rfl]
theorem split4 {l : List Nt} {a m b : Nat} (h1 : a ≤ m) (h2 : m ≤ b) (h3 : b ≤ l.length) : ∃ A X Y B : List Nt, l = A ++ (X ++ (Y ++ B)) ∧ A.length = a ∧ X.length = m - a ∧ Y.length = b - m := by
  refine ⟨l.take a, (l.drop a).take (m - a), (l.drop m).take (b - m), l.drop b, ?_, by rw [List.length_take]; omega, by rw [List.length_take, List.length_drop]; omega, by rw [List.length_take, List.length_drop]; omega⟩
  have e1 : (l.drop m).take (b - m) ++ l.drop b = l.drop m := by
    have : l.drop b = (l.drop m).drop (b - m) := by rw [List.drop_drop]; congr 1; omega
    rw [this, List.take_append_drop]
  have e2 : (l.drop a).take (m - a) ++ l.drop m = l.drop a := by
    have : l.drop m = (l.drop a).drop (m - a) := by rw [List.drop_drop]; congr 1; omega
    rw [this, List.take_append_drop]
  rw [e1, e2, List.take_append_drop]
theorem rot_gt {c : List Nt} {m i j : Nat} (hi : i ≤ m) (hj : 0 < j) (hij : j < i) (hm : m + j ≤ c.length) : rotL (swpN c (m - i) m j) (m - (i - j)) m (m + j) = rotL c (m - i) m (m + j) := by
  obtain ⟨A, X, Y, B, rfl, hA, hX, hY⟩ := split4 (l := c) (a := m - i) (m := m) (b := m + j) (by omega) (by omega) hm
  obtain ⟨X1, X2, rfl, hX1⟩ : ∃ X1 X2 : List Nt, X = X1 ++ X2 ∧ X1.length = j := ⟨X.take j, X.drop j, (List.take_append_drop _ _).symm, by rw [List.length_take]; omega⟩
  rw [List.length_append] at hX
  have r := rotL_seg (A := A) (X := X1 ++ X2) (Y := Y) (B := B)
  rw [List.length_append, show A.length + (X1.length + X2.length) = m by omega, show m + Y.length = m + j by omega, hA] at r
  rw [r]
  have s := swpN_seg (A := A) (X := X1) (M := X2) (Y := Y) (B := B) (by omega)
  rw [show A.length + X1.length + X2.length = m by omega, hA, hX1] at s
  rw [List.append_assoc, s]
  have r2 := rotL_seg (A := A ++ Y) (X := X2) (Y := X1) (B := B)
  rw [List.length_append, show A.length + Y.length + X2.length = m by omega, show m + X1.length = m + j by omega, show A.length + Y.length = m - (i - j) by omega] at r2
  simpa [List.append_assoc] using r2
theorem rot_lt {c : List Nt} {m i j : Nat} (hi : i ≤ m) (hi0 : 0 < i) (hij : i < j) (hm : m + j ≤ c.length) : rotL (swpN c (m - i) (m + j - i) i) (m - i) m (m + (j - i)) = rotL c (m - i) m (m + j) := by
  obtain ⟨A, X, Y, B, rfl, hA, hX, hY⟩ := split4 (l := c) (a := m - i) (m := m) (b := m + j) (by omega) (by omega) hm
  obtain ⟨Y1, Y2, rfl, hY1⟩ : ∃ Y1 Y2 : List Nt, Y = Y1 ++ Y2 ∧ Y1.length = j - i := ⟨Y.take (j - i), Y.drop (j - i), (List.take_append_drop _ _).symm, by rw [List.length_take]; omega⟩
  rw [List.length_append] at hY
  have r := rotL_seg (A := A) (X := X) (Y := Y1 ++ Y2) (B := B)
  rw [List.length_append, show A.length + X.length = m by omega, show m + (Y1.length + Y2.length) = m + j by omega, hA] at r
  rw [r]
  have s := swpN_seg (A := A) (X := X) (M := Y1) (Y := Y2) (B := B) (by omega)
  rw [show A.length + X.length + Y1.length = m + j - i by omega, hA, show X.length = i by omega] at s
  rw [List.append_assoc, s]
  have r2 := rotL_seg (A := A) (X := Y2) (Y := Y1) (B := X ++ B)
  rw [show A.length + Y2.length = m by omega, show m + Y1.length = m + (j - i) by omega, hA] at r2
  simpa [List.append_assoc] using r2
theorem rot_eq {c : List Nt} {m i : Nat} (hi : i ≤ m) (hm : m + i ≤ c.length) : swpN c (m - i) m i = rotL c (m - i) m (m + i) := by
  obtain ⟨A, X, Y, B, rfl, hA, hX, hY⟩ := split4 (l := c) (a := m - i) (m := m) (b := m + i) (by omega) (by omega) hm
  have r := rotL_seg (A := A) (X := X) (Y := Y) (B := B)
  rw [show A.length + X.length = m by omega, show m + Y.length = m + i by omega, hA] at r
  rw [r]
  have s := swpN_seg (A := A) (X := X) (M := []) (Y := Y) (B := B) (by omega)
  rw [List.length_nil, show A.length + X.length + 0 = m by omega, hA, show X.length = i by omega] at s
  simpa using s
theorem rotL_length {l : List Nt} {a m b : Nat} (h1 : a ≤ m) (h2 : m ≤ b) (h3 : b ≤ l.length) : (rotL l a m b).length = l.length := by
  unfold rotL; simp; omega
end Go.V

/- Contracts: exchanging two pieces of notes; moving a piece behind the next one. -/
namespace Go.V
open Go Go.Proofs

abbrev arN (l : List Nt) : List (Nat × Obj') := [(0, .arr 39 7 (l.map Nt.row))]
abbrev ordF : Sym := .fn 44 []
theorem swpL_map (l : List Nt) (i j : Nat) : (swpL l i j).map Nt.row = ((l.map Nt.row).set i (gN l j).row).set j (gN l i).row := by
  unfold swpL; rw [List.map_set, List.map_set]
theorem set7 {c : List Nt} {p : Nat} {y : Nt} : ∀ r : List D, r ∈ (c.map Nt.row).set p y.row → r.length = 7 := by
  intro r hr
  rcases List.mem_or_eq_of_mem_set hr with h | h
  · exact rows7 h
  · rw [h]; rfl
set_option maxHeartbeats 2000000 in
theorem swapR_ok (l : List Nt) (a b n : Nat) (ha : a + n ≤ l.length) (hb : b + n ≤ l.length) (hl : l.length < 2^40) :
    CallC Tryd.prog 105 [.ar 0, .d (int a), .d (int b), .d (int n), ordF] (arN l) 1 (.tup []) 1 (arN (swpN l a b n)) [] := by
  refine callC_of_body mixed Tryd.func105 rfl call_105 (by simp [Sym.los, Sym.lo]) ?_
  simp (decide := true) [Tryd.f105, int]
  refine loop_rule mixed (fun i : Nat => { n := 38, next := 1, slots := [(0, .ar 0), (1, .d (int a)), (2, .d (int b)), (3, .d (int n)), (10, .d (int i))], own := arN (swpN l a b i), base := 1 })
    (fun i => i ≤ n) (fun i => n - i) 0 (by simp) (by simp (decide := true) [int, swpN]) ?_
  intro i hi
  have hc := swpN_length l a b i
  by_cases hlt : i < n
  case neg =>
    have : i = n := by omega
    subst this
    simp (decide := true) [int]
  have hlt' : (i : Int) < n := by omega
  have hsn : swpN l a b (i + 1) = swpL (swpN l a b i) (a + i) (b + i) := rfl
  generalize swpN l a b i = c at hc hsn ⊢
  have hai : a + i < c.length := by omega
  have hbi : b + i < c.length := by omega
  have hai' : (a : Int) + i < c.length := by omega
  have hbi' : (b : Int) + i < c.length := by omega
  have na : ((a : Int) + i).toNat = a + i := by omega
  have nb : ((b : Int) + i).toNat = b + i := by omega
  obtain ⟨x, ex⟩ : ∃ x, c[a + i] = x := ⟨_, rfl⟩
  obtain ⟨y, ey⟩ : ∃ y, c[b + i] = y := ⟨_, rfl⟩
  have ea : c[a + i]? = some x := by rw [← ex]; exact List.getElem?_eq_getElem hai
  have eb : c[b + i]? = some y := by rw [← ey]; exact List.getElem?_eq_getElem hbi
  simp (decide := true) [int, hlt']
  refine draw_s mixed 21 (by rfl) rfl rfl rfl rfl (by rfl) (by simp) ?_
  simp (decide := true) [int, hlt', Nt.row, hai, hbi, hai', hbi', na, nb, ea, eb, ex, ey, I64]
  have h7 := set7 (c := c) (p := a + i) (y := y)
  simp only [Nt.row, int] at h7
  refine ⟨⟨by omega, by omega⟩, ⟨by omega, by omega⟩, by omega, ⟨by omega, by omega⟩, by omega, by omega, Nat.le_of_eq (h7 _ (List.getElem_mem _)).symm, ⟨by omega, by omega⟩, i + 1, by omega, by omega, by omega, ?_⟩
  rw [List.drop_eq_nil_of_le (Nat.le_of_eq (h7 _ (List.getElem_mem _))), hsn, swpL_map, gN_eq hai, gN_eq hbi, ex, ey]
  rfl
set_option maxHeartbeats 2000000 in
theorem rotate_ok (l : List Nt) (a m b : Nat) (h1 : a < m) (h2 : m < b) (h3 : b ≤ l.length) (hl : l.length < 2^40) :
    CallC Tryd.prog 98 [.ar 0, .d (int a), .d (int m), .d (int b), ordF] (arN l) 1 (.tup []) 1 (arN (rotL l a m b)) [] := by
  refine callC_of_body mixed Tryd.func98 rfl call_98 (by simp [Sym.los, Sym.lo]) ?_
  simp (decide := true) [Tryd.f98, int, I64]
  refine ⟨⟨by omega, by omega⟩, ⟨by omega, by omega⟩, ?_⟩
  refine loop_rule mixed (fun x : Nat × Nat × List Nt => { n := 58, next := 1, slots := [(0, .ar 0), (2, .d (int m)), (4, ordF), (10, .d (int x.1)), (11, .d (int x.2.1))], own := arN x.2.2, base := 1 })
    (fun x => 0 < x.1 ∧ 0 < x.2.1 ∧ x.1 ≤ m - a ∧ x.2.1 ≤ b - m ∧ x.2.2.length = l.length ∧ rotL x.2.2 (m - x.1) m (m + x.2.1) = rotL l a m b) (fun x => x.1 + x.2.1) (m - a, b - m, l)
    ⟨by simp only; omega, by simp only; omega, Nat.le_refl _, Nat.le_refl _, rfl, by simp only; rw [show m - (m - a) = a by omega, show m + (b - m) = b by omega]⟩ (by simp (decide := true) [int]; omega) ?_
  rintro ⟨i, j, c⟩ ⟨p1, p2, p3, p4, p5, p6⟩
  simp only at p1 p2 p3 p4 p5 p6
  have hmi : ((m : Int) - i) = ((m - i : Nat) : Int) := by omega
  rcases Nat.lt_trichotomy i j with hij | hij | hij
  · have e1 : ¬ (i : Int) = j := by omega
    have e2 : ¬ (j : Int) < i := by omega
    have e3 : ((m : Int) + j - i) = ((m + j - i : Nat) : Int) := by omega
    simp (decide := true) [int, e1, e2, I64, hmi, e3]
    refine ⟨by omega, ⟨by omega, by omega⟩, by omega, ?_⟩
    refine ECall.mut [0] [.ar 0, .d (int ((m - i : Nat) : Int)), .d (int ((m + j - i : Nat) : Int)), .d (int i), ordF] (arN c) (by rfl) (by simp [int]) (by simp) (by simp) (swapR_ok c (m - i) (m + j - i) i (by omega) (by omega) (by omega)) ?_
    have hr := rot_lt (c := c) (m := m) (i := i) (j := j) (by omega) p1 hij (by omega)
    have hsl := swpN_length c (m - i) (m + j - i) i
    generalize swpN c (m - i) (m + j - i) i = c' at hr hsl ⊢
    simp (decide := true) [int, I64]
    exact ⟨⟨by omega, by omega⟩, i, j - i, c', ⟨p1, by omega, p3, by omega, by omega, by rw [hr]; exact p6⟩, by omega, ⟨rfl, by omega⟩, rfl⟩
  · subst hij
    simp (decide := true) [int, I64, hmi]
    refine ⟨by omega, ?_⟩
    refine ECall.mut [0] [.ar 0, .d (int ((m - i : Nat) : Int)), .d (int m), .d (int i), ordF] (arN c) (by rfl) (by simp [int]) (by simp) (by simp) (swapR_ok c (m - i) m i (by omega) (by omega) (by omega)) ?_
    rw [rot_eq (by omega) (by omega), p6]
    simp (decide := true) [int]
  · have e1 : ¬ (i : Int) = j := by omega
    have e2 : (j : Int) < i := by omega
    simp (decide := true) [int, e1, e2, I64, hmi]
    refine ⟨by omega, ?_⟩
    refine ECall.mut [0] [.ar 0, .d (int ((m - i : Nat) : Int)), .d (int m), .d (int j), ordF] (arN c) (by rfl) (by simp [int]) (by simp) (by simp) (swapR_ok c (m - i) m j (by omega) (by omega) (by omega)) ?_
    have hr := rot_gt (c := c) (m := m) (i := i) (j := j) (by omega) p2 hij (by omega)
    have hsl := swpN_length c (m - i) m j
    generalize swpN c (m - i) m j = c' at hr hsl ⊢
    simp (decide := true) [int, I64]
    exact ⟨⟨by omega, by omega⟩, i - j, j, c', ⟨by omega, p2, by omega, p4, by omega, by rw [hr]; exact p6⟩, by omega, ⟨by omega, rfl⟩, rfl⟩
end Go.V

/- Contract: two sorted pieces that lie side by side become one. -/
namespace Go.V
open Go Go.Proofs

section
variable {P : Program} {st : St} {Q : DE → St → Prop}
theorem callC_of_bodyT {f : Nat} {fn : Func} {c : Code} (hf : P.funcs[f]? = some fn) (hb : fn.body = some c) (hcall : callable P f = true)
    {args : List Sym} {own : List (Nat × Obj')} {n : Nat} {s : Sym} {nx : Nat} {own' : List (Nat × Obj')} {mv : List Nat} (hl : Sym.los n args)
    (h : Triple P c (atRet (resC P fn.results.toList n s nx own' mv)) (initC fn.ntmps args own n)) : CallC P f args own n s nx own' mv := by
  refine ⟨hcall, fun X w0 β w vs hβ hm hs => ?_⟩
  refine calls_of_wp hf hb ?_
  refine wp_mono (h X w0 _ _ w (hm.initC hs hl)) ?_
  rintro e a' w' ⟨de, st', β', he, hq, hm'⟩
  cases e <;> cases de <;> simp only [exM] at he
  · obtain ⟨v, h1, h2, h3, h4⟩ := resC_sound hm' hq
    exact ⟨hm'.defers, v, h1, β', v, rfl, h2, h3, h4⟩
  · exact hq.elim
  · obtain ⟨v, h1, h2, h3, h4⟩ := resC_sound hm' hq
    exact ⟨hm'.defers, v, h1, β', v, rfl, h2, h3, h4⟩
def cutF {α : Type} (S : α → St) (inv : α → Prop) (Q : DE → St → Prop) : DE → St → Prop
  | .normal, st => ∃ x, inv x ∧ Weak st (S x)
  | e, st => Q e st
theorem triple_seqF {α : Type} {x y : Code} (S : α → St) (inv : α → Prop) (h : Triple P x (cutF S inv Q) st) (h2 : ∀ z, inv z → Triple P y Q (S z)) : Triple P (.seq x y) Q st := by
  intro X w0 β a w hm
  refine wp_seq (wp_mono (h X w0 β a w hm) ?_)
  rintro e a' w' ⟨de, st', β', he, hq, hm'⟩
  cases e <;> cases de <;> simp only [exM] at he
  · obtain ⟨z, hz, hw⟩ := hq
    exact h2 z hz X w0 β' a' w' (hm'.weak hw)
  · subst he; exact ⟨.exit _, st', β', rfl, hq, hm'⟩
  · exact ⟨.ret, st', β', trivial, hq, hm'⟩
theorem cutF_normal {α : Type} {S : α → St} {inv : α → Prop} : cutF S inv Q .normal st = ∃ x, inv x ∧ Weak st (S x) := rfl
theorem cutF_exit {α : Type} {S : α → St} {inv : α → Prop} (i : Nat) : cutF S inv Q (.exit i) st = Q (.exit i) st := rfl
theorem cutF_ret {α : Type} {S : α → St} {inv : α → Prop} : cutF S inv Q .ret st = Q .ret st := rfl
end
attribute [local simp] cutF_normal cutF_exit cutF_ret
theorem half (x : Int) (h0 : 0 ≤ x) (h : x < 2^62) : IntKind.i64.wrap (shiftD .shr .u64 (IntKind.u64.wrap x) 1) = x / 2 := by
  have e1 : IntKind.u64.wrap x = x := by
    have : IntKind.u64.wrap x = x % 18446744073709551616 := by simp [IntKind.wrap, IntKind.bits, IntKind.signed]
    rw [this]; omega
  rw [e1]
  have e2 : shiftD .shr .u64 x 1 = x / 2 := by
    show Int.fdiv x (2 ^ (min (1 : Int).toNat 64)) = x / 2
    have : (2 : Int) ^ (min (1 : Int).toNat 64) = 2 := by decide
    rw [this, Int.fdiv_eq_ediv_of_nonneg _ (by omega)]
  rw [e2]
  exact wrap64 (by omega)
theorem lt_cmp {a b : Nt} : ltN a b = true ↔ cmpN a b < 0 := by unfold ltN ltOf; exact decide_eq_true_iff
theorem lt_cmpF {a b : Nt} : ltN a b = false ↔ ¬ cmpN a b < 0 := by rw [← lt_cmp, Bool.not_eq_true]
/-- Two neighbours change places. -/
theorem swp_adj {A B : List Nt} {x y : Nt} : swpL (A ++ (x :: (y :: B))) A.length (A.length + 1) = A ++ (y :: (x :: B)) := by
  have := swpN_seg (A := A) (X := [x]) (M := []) (Y := [y]) (B := B) rfl
  simpa [swpN] using this
theorem swpL_comm (l : List Nt) {i j : Nat} (h : i ≠ j) : swpL l i j = swpL l j i := by unfold swpL; rw [List.set_comm _ _ h]
theorem swp_adj' {A B : List Nt} {x y : Nt} : swpL (A ++ (x :: (y :: B))) (A.length + 1) A.length = A ++ (y :: (x :: B)) := by
  rw [swpL_comm _ (by omega), swp_adj]
theorem gN_at {A B : List Nt} {k : Nat} (h : A.length ≤ k) : gN (A ++ B) k = gN B (k - A.length) := by
  unfold gN; rw [List.getElem?_append_right h]
theorem gN_in {A B : List Nt} {k : Nat} (h : k < A.length) : gN (A ++ B) k = gN A k := by
  unfold gN; rw [List.getElem?_append_left h]
theorem gN_q {l : List Nt} {k : Nat} (h : k < l.length) : l[k]? = some (gN l k) := by rw [gN_eq h]; exact List.getElem?_eq_getElem h
/-- A note and a sorted piece. -/
theorem one_left {u : Nt} {V : List Nt} {p : Nat} (hp : p ≤ V.length) (hV : SS V) (hd : Dst (u :: V)) (h1 : ∀ k, k < p → ltN (gN V k) u = true) (h2 : ∀ k, p ≤ k → k < V.length → ltN (gN V k) u = false) :
    isort (u :: V) = V.take p ++ (u :: V.drop p) := by
  symm
  refine isort_uniq ?_ (List.perm_middle.trans (by rw [List.take_append_drop]))
  rw [SS.app]
  have hu := (List.pairwise_cons.1 hd).1
  have low : ∀ x ∈ V.take p, ltN x u = true := fun x hx => by
    obtain ⟨i, hi, rfl⟩ := List.mem_take_iff_getElem.1 hx
    have := h1 i (by omega)
    rwa [gN_eq (by omega)] at this
  have high : ∀ x ∈ V.drop p, ltN u x = true := fun x hx => by
    obtain ⟨i, hi, rfl⟩ := List.mem_iff_getElem.1 hx
    rw [List.length_drop] at hi
    rw [List.getElem_drop]
    have := h2 (p + i) (by omega) (by omega)
    rw [gN_eq (by omega)] at this
    exact (hu _ (List.getElem_mem _)).elim id fun e => by rw [this] at e; cases e
  refine ⟨hV.sub (List.take_sublist _ _), List.pairwise_cons.2 ⟨high, hV.sub (List.drop_sublist _ _)⟩, fun a ha b hb => ?_⟩
  rcases List.mem_cons.1 hb with rfl | hb
  · exact low a ha
  · exact lt_trans' (low a ha) (high b hb)
theorem one_right {v : Nt} {U : List Nt} {p : Nat} (hp : p ≤ U.length) (hU : SS U) (hd : Dst (U ++ [v])) (h1 : ∀ k, k < p → ltN v (gN U k) = false) (h2 : ∀ k, p ≤ k → k < U.length → ltN v (gN U k) = true) :
    isort (U ++ [v]) = U.take p ++ (v :: U.drop p) := by
  symm
  refine isort_uniq ?_ (List.perm_middle.trans (by rw [List.take_append_drop]; exact (List.perm_append_singleton v U).symm))
  rw [SS.app]
  have hu : ∀ x ∈ U, ltN x v = true ∨ ltN v x = true := fun x hx => (List.pairwise_append.1 hd).2.2 x hx v (by simp)
  have low : ∀ x ∈ U.take p, ltN x v = true := fun x hx => by
    obtain ⟨i, hi, rfl⟩ := List.mem_take_iff_getElem.1 hx
    have := h1 i (by omega)
    rw [gN_eq (by omega)] at this
    exact (hu _ (List.getElem_mem _)).elim id fun e => by rw [this] at e; cases e
  have high : ∀ x ∈ U.drop p, ltN v x = true := fun x hx => by
    obtain ⟨i, hi, rfl⟩ := List.mem_iff_getElem.1 hx
    rw [List.length_drop] at hi
    rw [List.getElem_drop]
    have := h2 (p + i) (by omega) (by omega)
    rwa [gN_eq (by omega)] at this
  refine ⟨hU.sub (List.take_sublist _ _), List.pairwise_cons.2 ⟨high, hU.sub (List.drop_sublist _ _)⟩, fun a ha b hb => ?_⟩
  rcases List.mem_cons.1 hb with rfl | hb
  · exact low a ha
  · exact lt_trans' (low a ha) (high b hb)
def SymC (A U V B : List Nt) : Prop :=
  CallC Tryd.prog 85 [.ar 0, .d (int A.length), .d (int ((A.length + U.length : Nat) : Int)), .d (int ((A.length + U.length + V.length : Nat) : Int)), ordF] (arN (A ++ (U ++ (V ++ B)))) 1 (.tup []) 1 (arN (A ++ (isort (U ++ V) ++ B))) []
set_option maxHeartbeats 4000000 in
theorem sym_left (A : List Nt) (u : Nt) (V B : List Nt) (hV0 : V ≠ []) (hV : SS V) (hd : Dst (u :: V)) (hl : (A ++ ([u] ++ (V ++ B))).length < 2^40) : SymC A [u] V B := by
  unfold SymC
  have hlen : (A ++ ([u] ++ (V ++ B))).length = A.length + 1 + V.length + B.length := by simp; omega
  have hV1 : 0 < V.length := List.length_pos_iff.2 hV0
  refine callC_of_body mixed Tryd.func85 rfl call_85 (by simp [Sym.los, Sym.lo]) ?_
  have hu : (A ++ ([u] ++ (V ++ B)))[A.length]? = some u := by simp
  have hv : ∀ k, k < V.length → (A ++ ([u] ++ (V ++ B)))[A.length + 1 + k]? = some (gN V k) := by
    intro k hk
    rw [List.getElem?_append_right (by omega), List.getElem?_append_right (by simp; omega), List.getElem?_append_left (by simp; omega)]
    rw [← gN_q hk]; congr 1; simp; omega
  have hfin : ∀ p, p ≤ V.length → (∀ k, k < p → ltN (gN V k) u = true) → (∀ k, p ≤ k → k < V.length → ltN (gN V k) u = false) → A ++ (isort ([u] ++ V) ++ B) = A ++ (V.take p ++ (u :: (V.drop p ++ B))) := by
    intro p hp h1 h2
    show A ++ (isort (u :: V) ++ B) = _
    rw [one_left hp hV hd h1 h2]; simp
  obtain ⟨l0, hl0⟩ : ∃ l0, A ++ ([u] ++ (V ++ B)) = l0 := ⟨_, rfl⟩
  have hst : ∀ p, p ≤ V.length → ∀ k, k < p → swpL (A ++ (V.take k ++ (u :: (V.drop k ++ B)))) (A.length + k) (A.length + k + 1) = A ++ (V.take (k + 1) ++ (u :: (V.drop (k + 1) ++ B))) := by
    intro p hp k hk
    have hkl : k < V.length := by omega
    have e1 : V.drop k = V[k] :: V.drop (k + 1) := List.drop_eq_getElem_cons hkl
    rw [e1]
    have := swp_adj (A := A ++ V.take k) (B := V.drop (k + 1) ++ B) (x := u) (y := V[k])
    rw [List.length_append, List.length_take, Nat.min_eq_left (by omega)] at this
    rw [List.append_assoc, List.append_assoc] at this
    rw [List.cons_append, this, take_snoc' hkl, List.append_assoc]; rfl
  have hstart : l0 = A ++ (V.take 0 ++ (u :: (V.drop 0 ++ B))) := by rw [← hl0]; simp
  rw [hl0] at hu hv hl hlen ⊢
  generalize A ++ (isort ([u] ++ V) ++ B) = res at hfin ⊢
  have hm1 : (A.length : Int) + 1 - A.length = 1 := by omega
  simp (decide := true) [Tryd.f85, int, I64, hm1]
  refine loop_rule mixed (fun x : Nat × Nat => { n := 220, next := 1, slots := [(0, .ar 0), (1, .d (int A.length)), (4, ordF), (10, .d (int x.1)), (11, .d (int x.2))], own := arN l0, base := 1 })
    (fun x => A.length + 1 ≤ x.1 ∧ x.1 ≤ x.2 ∧ x.2 ≤ A.length + 1 + V.length ∧ (∀ k, A.length + 1 + k < x.1 → ltN (gN V k) u = true) ∧ ∀ k, x.2 ≤ A.length + 1 + k → k < V.length → ltN (gN V k) u = false) (fun x => x.2 - x.1) (A.length + 1, A.length + 1 + V.length)
    ⟨Nat.le_refl _, by simp only; omega, Nat.le_refl _, fun k h => by simp only at h; omega, fun k h h' => by simp only at h; omega⟩ (by simp (decide := true) [int]) ?_
  rintro ⟨i, j⟩ ⟨q1, q2, q3, q4, q5⟩
  simp only at q1 q2 q3 q4 q5
  by_cases hij : i < j
  · have hij' : (i : Int) < j := by omega
    obtain ⟨k, hk⟩ : ∃ k, (i + j) / 2 = A.length + 1 + k := ⟨(i + j) / 2 - (A.length + 1), by omega⟩
    have hkV : k < V.length := by omega
    have hh : IntKind.i64.wrap (shiftD .shr .u64 (IntKind.u64.wrap ((i : Int) + j)) 1) = ((A.length + 1 + k : Nat) : Int) := by
      rw [half _ (by omega) (by omega)]; omega
    have x1 : A.length + 1 + k < l0.length := by omega
    have x2 : A.length < l0.length := by omega
    have x1' : (A.length : Int) + 1 + k < l0.length := by omega
    have x2' : (A.length : Int) < l0.length := by omega
    have n1 : ((A.length : Int) + 1 + k).toNat = A.length + 1 + k := by omega
    have g1 := hv k hkV
    have g1' : l0[A.length + 1 + k] = gN V k := by rw [List.getElem?_eq_getElem x1] at g1; exact Option.some.inj g1
    have g2' : l0[A.length] = u := by rw [List.getElem?_eq_getElem x2] at hu; exact Option.some.inj hu
    simp (decide := true) [int, hij', hh, I64, eBytes, Nt.row, x1, x2, x1', x2', n1, g1, g1', hu, g2']
    refine ⟨⟨by omega, by omega⟩, by omega, ?_⟩
    refine scall_pure (by rfl) (by rfl) (order_ok (gN V k) u) (by simp [Nt.row, int]) ?_
    by_cases c : cmpN (gN V k) u < 0
    · have cl := lt_cmp.2 c
      simp (decide := true) [int, c]
      refine ⟨by unfold I64; omega, A.length + 1 + k + 1, j, ⟨by omega, by omega, q3, fun k' hk' => ?_, q5⟩, by omega, by omega, rfl⟩
      rcases Nat.eq_or_lt_of_le (show k' ≤ k by omega) with e | e
      · rw [e]; exact cl
      · exact lt_trans' (hV.get e hkV) cl
    · have cl := lt_cmpF.2 c
      simp (decide := true) [int, c]
      refine ⟨i, A.length + 1 + k, ⟨q1, by omega, by omega, q4, fun k' h1 h2 => ?_⟩, by omega, rfl, by omega⟩
      rcases Nat.eq_or_lt_of_le (show k ≤ k' by omega) with e | e
      · rw [← e]; exact cl
      · cases hx : ltN (gN V k') u with
        | false => rfl
        | true => rw [lt_trans' (hV.get e h2) hx] at cl; cases cl
  · have : i = j := by omega
    subst this
    obtain ⟨p, hp⟩ : ∃ p, i = A.length + 1 + p := ⟨i - (A.length + 1), by omega⟩
    have hr := hfin p (by omega) (fun k hk => q4 k (by omega)) (fun k hk hk' => q5 k (by omega) hk')
    subst hr
    simp (decide := true) [int]
    refine loop_rule mixed (fun k : Nat => { n := 220, next := 1, slots := [(0, .ar 0), (10, .d (int i)), (13, .d (int ((A.length + k : Nat) : Int)))], own := arN (A ++ (V.take k ++ (u :: (V.drop k ++ B)))), base := 1 })
      (fun k => k ≤ p) (fun k => p - k) 0 (by simp) (by rw [hstart]; simp (decide := true) [int]) ?_
    intro k hk
    by_cases hkp : k < p
    · have hc : (A.length : Int) + k < (i : Int) - 1 := by omega
      have hsk := hst p (by omega) k hkp
      have hcl : (A ++ (V.take k ++ (u :: (V.drop k ++ B)))).length = l0.length := by
        have hle : (V.take k).length = k := by rw [List.length_take]; omega
        rw [List.length_append, List.length_append, List.length_cons, List.length_append, hle, List.length_drop, hlen]; omega
      have ga : (A ++ (V.take k ++ (u :: (V.drop k ++ B))))[A.length + k]? = some u := by
        rw [List.getElem?_append_right (by omega), List.getElem?_append_right (by simp; omega)]
        have : A.length + k - A.length - (V.take k).length = 0 := by simp; omega
        rw [this]; rfl
      have gb : (A ++ (V.take k ++ (u :: (V.drop k ++ B))))[A.length + k + 1]? = some (gN V k) := by
        rw [List.getElem?_append_right (by omega), List.getElem?_append_right (by simp; omega)]
        have : A.length + k + 1 - A.length - (V.take k).length = 1 := by simp; omega
        rw [this, List.getElem?_cons_succ, List.getElem?_append_left (by simp; omega), List.getElem?_drop, Nat.add_zero]
        exact gN_q (by omega)
      generalize A ++ (V.take k ++ (u :: (V.drop k ++ B))) = c at hsk hcl ga gb ⊢
      generalize gN V k = y at gb
      have hai : A.length + k < c.length := by omega
      have hbi : A.length + k + 1 < c.length := by omega
      have hai' : (A.length : Int) + k < c.length := by omega
      have hbi' : (A.length : Int) + k + 1 < c.length := by omega
      have na : ((A.length : Int) + k).toNat = A.length + k := by omega
      have nb : ((A.length : Int) + k + 1).toNat = A.length + k + 1 := by omega
      have ex : c[A.length + k] = u := by rw [List.getElem?_eq_getElem hai] at ga; exact Option.some.inj ga
      have ey : c[A.length + k + 1] = y := by rw [List.getElem?_eq_getElem hbi] at gb; exact Option.some.inj gb
      simp (decide := true) [int, hc]
      refine ⟨by unfold I64; omega, ?_⟩
      refine draw_s mixed 15 (by rfl) rfl rfl rfl rfl (by rfl) (by simp) ?_
      simp (decide := true) [int, Nt.row, hai, hbi, hai', hbi', na, nb, ga, gb, ex, ey, I64]
      refine ⟨⟨by omega, by omega⟩, by omega, by omega, by omega, ⟨by omega, by omega⟩, k + 1, by omega, by omega, by omega, ?_⟩
      have hm := congrArg (List.map Nt.row) hsk
      rw [swpL_map, gN_eq hai, gN_eq hbi, ex, ey] at hm
      simpa [Nt.row, int] using hm
    · have : k = p := by omega
      subst this
      have hc : ¬ (A.length : Int) + k < (i : Int) - 1 := by omega
      simp (decide := true) [int, hc]
      unfold I64; omega
set_option maxHeartbeats 4000000 in
theorem sym_right (A U : List Nt) (v : Nt) (B : List Nt) (hU0 : U ≠ []) (hU1 : U.length ≠ 1) (hU : SS U) (hd : Dst (U ++ [v])) (hl : (A ++ (U ++ ([v] ++ B))).length < 2^40) : SymC A U [v] B := by
  unfold SymC
  have hlen : (A ++ (U ++ ([v] ++ B))).length = A.length + U.length + 1 + B.length := by simp; omega
  have hUp : 0 < U.length := List.length_pos_iff.2 hU0
  refine callC_of_body mixed Tryd.func85 rfl call_85 (by simp [Sym.los, Sym.lo]) ?_
  have hv : (A ++ (U ++ ([v] ++ B)))[A.length + U.length]? = some v := by
    rw [List.getElem?_append_right (by omega), List.getElem?_append_right (by omega)]; simp
  have hu : ∀ k, k < U.length → (A ++ (U ++ ([v] ++ B)))[A.length + k]? = some (gN U k) := by
    intro k hk
    rw [List.getElem?_append_right (by omega), List.getElem?_append_left (by omega), ← gN_q hk]
    congr 1; omega
  have hfin : ∀ p, p ≤ U.length → (∀ k, k < p → ltN v (gN U k) = false) → (∀ k, p ≤ k → k < U.length → ltN v (gN U k) = true) → A ++ (isort (U ++ [v]) ++ B) = A ++ (U.take p ++ (v :: (U.drop p ++ B))) := by
    intro p hp h1 h2
    rw [one_right hp hU hd h1 h2]; simp
  obtain ⟨l0, hl0⟩ : ∃ l0, A ++ (U ++ ([v] ++ B)) = l0 := ⟨_, rfl⟩
  have hst : ∀ q, q < U.length → swpL (A ++ (U.take (q + 1) ++ (v :: (U.drop (q + 1) ++ B)))) (A.length + q + 1) (A.length + q) = A ++ (U.take q ++ (v :: (U.drop q ++ B))) := by
    intro q hq
    have e1 : U.drop q = U[q] :: U.drop (q + 1) := List.drop_eq_getElem_cons hq
    have := swp_adj' (A := A ++ U.take q) (B := U.drop (q + 1) ++ B) (x := U[q]) (y := v)
    rw [List.length_append, List.length_take, Nat.min_eq_left (by omega)] at this
    rw [List.append_assoc, List.append_assoc] at this
    rw [take_snoc' hq, List.append_assoc, List.singleton_append, this, e1]; rfl
  have hstart : l0 = A ++ (U.take U.length ++ (v :: (U.drop U.length ++ B))) := by rw [← hl0]; simp
  rw [hl0] at hu hv hl hlen ⊢
  generalize A ++ (isort (U ++ [v]) ++ B) = res at hfin ⊢
  have hm1 : ¬ (A.length : Int) + U.length - A.length = 1 := by omega
  have hm2 : (A.length : Int) + U.length + 1 - (A.length + U.length) = 1 := by omega
  simp (decide := true) [Tryd.f85, int, I64, hm1, hm2]
  refine ⟨⟨by omega, by omega⟩, ?_⟩
  refine loop_rule mixed (fun x : Nat × Nat => { n := 220, next := 1, slots := [(0, .ar 0), (2, .d (int ((A.length + U.length : Nat) : Int))), (4, ordF), (14, .d (int x.1)), (15, .d (int x.2))], own := arN l0, base := 1 })
    (fun x => A.length ≤ x.1 ∧ x.1 ≤ x.2 ∧ x.2 ≤ A.length + U.length ∧ (∀ k, A.length + k < x.1 → ltN v (gN U k) = false) ∧ ∀ k, x.2 ≤ A.length + k → k < U.length → ltN v (gN U k) = true) (fun x => x.2 - x.1) (A.length, A.length + U.length)
    ⟨Nat.le_refl _, by simp only; omega, Nat.le_refl _, fun k h => by simp only at h; omega, fun k h h' => by simp only at h; omega⟩ (by simp (decide := true) [int]) ?_
  rintro ⟨i, j⟩ ⟨q1, q2, q3, q4, q5⟩
  simp only at q1 q2 q3 q4 q5
  by_cases hij : i < j
  · have hij' : (i : Int) < j := by omega
    obtain ⟨k, hk⟩ : ∃ k, (i + j) / 2 = A.length + k := ⟨(i + j) / 2 - A.length, by omega⟩
    have hkU : k < U.length := by omega
    have hh : IntKind.i64.wrap (shiftD .shr .u64 (IntKind.u64.wrap ((i : Int) + j)) 1) = ((A.length + k : Nat) : Int) := by
      rw [half _ (by omega) (by omega)]; omega
    have x1 : A.length + k < l0.length := by omega
    have x2 : A.length + U.length < l0.length := by omega
    have x1' : (A.length : Int) + k < l0.length := by omega
    have x2' : (A.length : Int) + U.length < l0.length := by omega
    have n1 : ((A.length : Int) + k).toNat = A.length + k := by omega
    have n2 : ((A.length : Int) + U.length).toNat = A.length + U.length := by omega
    have g1 := hu k hkU
    have g1' : l0[A.length + k] = gN U k := by rw [List.getElem?_eq_getElem x1] at g1; exact Option.some.inj g1
    have g2' : l0[A.length + U.length] = v := by rw [List.getElem?_eq_getElem x2] at hv; exact Option.some.inj hv
    simp (decide := true) [int, hij', hh, I64, eBytes, Nt.row, x1, x2, x1', x2', n1, n2, g1, g1', hv, g2']
    refine ⟨⟨by omega, by omega⟩, by omega, by omega, ?_⟩
    refine scall_pure (by rfl) (by rfl) (order_ok v (gN U k)) (by simp [Nt.row, int]) ?_
    by_cases c : cmpN v (gN U k) < 0
    · have cl := lt_cmp.2 c
      simp (decide := true) [int, c]
      refine ⟨i, A.length + k, ⟨q1, by omega, by omega, q4, fun k' h1 h2 => ?_⟩, by omega, rfl, by omega⟩
      rcases Nat.eq_or_lt_of_le (show k ≤ k' by omega) with e | e
      · rw [← e]; exact cl
      · exact lt_trans' cl (hU.get e h2)
    · have cl := lt_cmpF.2 c
      simp (decide := true) [int, c]
      refine ⟨by unfold I64; omega, A.length + k + 1, j, ⟨by omega, by omega, q3, fun k' hk' => ?_, q5⟩, by omega, by omega, rfl⟩
      rcases Nat.eq_or_lt_of_le (show k' ≤ k by omega) with e | e
      · rw [e]; exact cl
      · cases hx : ltN v (gN U k') with
        | false => rfl
        | true => rw [lt_trans' hx (hU.get e hkU)] at cl; cases cl
  · have : i = j := by omega
    subst this
    obtain ⟨p, hp⟩ : ∃ p, i = A.length + p := ⟨i - A.length, by omega⟩
    have hr := hfin p (by omega) (fun k hk => q4 k (by omega)) (fun k hk hk' => q5 k (by omega) hk')
    subst hr
    simp (decide := true) [int]
    refine loop_rule mixed (fun q : Nat => { n := 220, next := 1, slots := [(0, .ar 0), (14, .d (int i)), (17, .d (int ((A.length + q : Nat) : Int)))], own := arN (A ++ (U.take q ++ (v :: (U.drop q ++ B)))), base := 1 })
      (fun q => p ≤ q ∧ q ≤ U.length) (fun q => q) U.length ⟨by omega, Nat.le_refl _⟩ (by rw [hstart]; simp (decide := true) [int]) ?_
    rintro q ⟨hq1, hq2⟩
    by_cases hkp : p < q
    · obtain ⟨k, rfl⟩ : ∃ k, q = k + 1 := ⟨q - 1, by omega⟩
      have hc : (i : Int) < (A.length : Int) + (k + 1) := by omega
      have hsk := hst k (by omega)
      have hcl : (A ++ (U.take (k + 1) ++ (v :: (U.drop (k + 1) ++ B)))).length = l0.length := by
        have hle : (U.take (k + 1)).length = k + 1 := by rw [List.length_take]; omega
        rw [List.length_append, List.length_append, List.length_cons, List.length_append, hle, List.length_drop, hlen]; omega
      have ga : (A ++ (U.take (k + 1) ++ (v :: (U.drop (k + 1) ++ B))))[A.length + k + 1]? = some v := by
        rw [List.getElem?_append_right (by omega), List.getElem?_append_right (by simp; omega)]
        have : A.length + k + 1 - A.length - (U.take (k + 1)).length = 0 := by simp; omega
        rw [this]; rfl
      have gb : (A ++ (U.take (k + 1) ++ (v :: (U.drop (k + 1) ++ B))))[A.length + k]? = some (gN U k) := by
        rw [List.getElem?_append_right (by omega), List.getElem?_append_left (by simp; omega), List.getElem?_take, if_pos (by omega)]
        rw [← gN_q (by omega)]; congr 1; omega
      generalize A ++ (U.take (k + 1) ++ (v :: (U.drop (k + 1) ++ B))) = c at hsk hcl ga gb ⊢
      generalize gN U k = y at gb
      have hai : A.length + k < c.length := by omega
      have hbi : A.length + k + 1 < c.length := by omega
      have hai' : (A.length : Int) + (k + 1) - 1 < c.length := by omega
      have hbi' : (A.length : Int) + (k + 1) < c.length := by omega
      have na : ((A.length : Int) + (k + 1) - 1).toNat = A.length + k := by omega
      have nb : ((A.length : Int) + (k + 1)).toNat = A.length + k + 1 := by omega
      have ex : c[A.length + k] = y := by rw [List.getElem?_eq_getElem hai] at gb; exact Option.some.inj gb
      have ey : c[A.length + k + 1] = v := by rw [List.getElem?_eq_getElem hbi] at ga; exact Option.some.inj ga
      simp (decide := true) [int, hc]
      refine draw_s mixed 15 (by rfl) rfl rfl rfl rfl (by rfl) (by simp) ?_
      simp (decide := true) [int, Nt.row, hai, hbi, hai', hbi', na, nb, ga, gb, ex, ey, I64]
      refine ⟨⟨by omega, by omega⟩, by omega, by omega, by omega, ⟨by omega, by omega⟩, k, ⟨by omega, by omega⟩, by omega, by omega, ?_⟩
      have hm := congrArg (List.map Nt.row) hsk
      rw [swpL_map, gN_eq hai, gN_eq hbi, ex, ey] at hm
      simpa [Nt.row, int] using hm
    · have : p = q := by omega
      subst this
      have hc : ¬ (i : Int) < (A.length : Int) + p := by omega
      simp (decide := true) [int, hc]
end Go.V

/- Contract: two sorted pieces that lie side by side become one, of whatever lengths. -/
namespace Go.V
open Go Go.Proofs

theorem cross {U V : List Nt} {s t : Nat} (hU : SS U) (hV : SS V) (hs : s ≤ U.length) (ht : t ≤ V.length) (h : 0 < s → t < V.length → ltN (gN U (s - 1)) (gN V t) = true) : ∀ x ∈ U.take s, ∀ y ∈ V.drop t, ltN x y = true := by
  intro x hx y hy
  obtain ⟨i, hi, rfl⟩ := List.mem_take_iff_getElem.1 hx
  obtain ⟨j, hj, rfl⟩ := List.mem_iff_getElem.1 hy
  rw [List.length_drop] at hj
  rw [List.getElem_drop]
  have h0 := h (by omega) (by omega)
  have e1 : ltN U[i] (gN V t) = true := by
    rcases Nat.eq_or_lt_of_le (show i ≤ s - 1 by omega) with e | e
    · subst e; rw [← gN_eq (by omega)]; exact h0
    · have := hU.get e (by omega)
      rw [gN_eq (show i < U.length by omega)] at this
      exact lt_trans' this h0
  rcases Nat.eq_zero_or_pos j with e | e
  · subst e
    have : V[t + 0] = gN V t := by rw [gN_eq (show t < V.length by omega)]; rfl
    rw [this]; exact e1
  · have := hV.get (show t < t + j by omega) (by omega)
    rw [gN_eq (show t + j < V.length by omega)] at this
    exact lt_trans' e1 this
set_option maxHeartbeats 8000000 in
theorem symM_ok : ∀ (N : Nat) (A U V B : List Nt), U.length + V.length ≤ N → U ≠ [] → V ≠ [] → SS U → SS V → Dst (U ++ V) → (A ++ (U ++ (V ++ B))).length < 2^40 → SymC A U V B := by
  intro N
  induction N with
  | zero =>
    intro A U V B hN hU0
    have := List.length_pos_iff.2 hU0
    omega
  | succ N ih =>
    intro A U V B hN hU0 hV0 hU hV hd hl
    have hu := List.length_pos_iff.2 hU0
    have hv := List.length_pos_iff.2 hV0
    by_cases u1 : U.length = 1
    · obtain ⟨x, rfl⟩ := List.length_eq_one_iff.1 u1
      exact sym_left A x V B hV0 hV hd hl
    by_cases v1 : V.length = 1
    · obtain ⟨x, rfl⟩ := List.length_eq_one_iff.1 v1
      exact sym_right A U x B hU0 u1 hU hd hl
    unfold SymC
    have hlen : (A ++ (U ++ (V ++ B))).length = A.length + U.length + V.length + B.length := by simp; omega
    obtain ⟨a, ha⟩ : ∃ a, A.length = a := ⟨_, rfl⟩
    obtain ⟨u, hu'⟩ : ∃ u, U.length = u := ⟨_, rfl⟩
    obtain ⟨v, hv'⟩ : ∃ v, V.length = v := ⟨_, rfl⟩
    obtain ⟨h, hh⟩ : ∃ h, (u + v) / 2 = h := ⟨_, rfl⟩
    obtain ⟨lo, hlo⟩ : ∃ lo, (if h < u then h - v else 0) = lo := ⟨_, rfl⟩
    obtain ⟨hi, hhi⟩ : ∃ hi, (if h < u then h else u) = hi := ⟨_, rfl⟩
    obtain ⟨l0, hl0⟩ : ∃ l0, A ++ (U ++ (V ++ B)) = l0 := ⟨_, rfl⟩
    have gU : ∀ k, k < u → l0[a + k]? = some (gN U k) := by
      intro k hk
      rw [← hl0, List.getElem?_append_right (by omega), List.getElem?_append_left (by omega), ← gN_q (by omega)]
      congr 1; omega
    have gV : ∀ k, k < v → l0[a + u + k]? = some (gN V k) := by
      intro k hk
      rw [← hl0, List.getElem?_append_right (by omega), List.getElem?_append_right (by omega), List.getElem?_append_left (by omega), ← gN_q (by omega)]
      congr 1; omega
    rw [hl0, ha, hu', hv'] at hlen
    rw [hl0] at hl
    rw [hu'] at hu u1 hN
    rw [hv'] at hv v1 hN
    rw [ha, hu', hv', hl0]
    let S1 : St := { n := 220, next := 1, slots := [(0, .ar 0), (1, .d (int a)), (2, .d (int ((a + u : Nat) : Int))), (3, .d (int ((a + u + v : Nat) : Int))), (4, ordF), (18, .d (int ((a + h : Nat) : Int))), (19, .d (int ((a + h + (a + u) : Nat) : Int))), (20, .d (int ((a + lo : Nat) : Int))), (21, .d (int ((a + hi : Nat) : Int))), (22, .d (int ((a + h + (a + u) - 1 : Nat) : Int)))], own := arN l0, base := 1 }
    let S2 : Nat → St := fun s => { n := 220, next := 1, slots := [(0, .ar 0), (1, .d (int a)), (2, .d (int ((a + u : Nat) : Int))), (3, .d (int ((a + u + v : Nat) : Int))), (4, ordF), (18, .d (int ((a + h : Nat) : Int))), (19, .d (int ((a + h + (a + u) : Nat) : Int))), (20, .d (int ((a + s : Nat) : Int)))], own := arN l0, base := 1 }
    refine callC_of_bodyT Tryd.func85 rfl call_85 (by simp [Sym.los, Sym.lo]) ?_
    have hm1 : ¬ (a : Int) + u - a = 1 := by omega
    have hm2 : ¬ (a : Int) + u + v - (a + u) = 1 := by omega
    have hmid : IntKind.i64.wrap (shiftD .shr .u64 (IntKind.u64.wrap ((a : Int) + (a + u + v))) 1) = ((a + h : Nat) : Int) := by
      rw [half _ (by omega) (by omega)]; omega
    refine cut_ev mixed 7 S1 rfl ?_ ?_
    · by_cases hhu : h < u
      · have hhu' : (a : Int) + h < (a : Int) + u := by omega
        simp (decide := true) [int, I64, eBytes, hm1, hm2, hmid, hhu', S1]
        rw [if_pos hhu] at hlo hhi
        refine ⟨⟨by omega, by omega⟩, ⟨by omega, by omega⟩, ⟨by omega, by omega⟩, ⟨by omega, by omega⟩, ⟨by omega, by omega⟩, ⟨by omega, by omega⟩, by omega, by omega, by omega⟩
      · have hhu' : ¬ (a : Int) + h < (a : Int) + u := by omega
        simp (decide := true) [int, I64, eBytes, hm1, hm2, hmid, hhu', S1]
        rw [if_neg hhu] at hlo hhi
        refine ⟨⟨by omega, by omega⟩, ⟨by omega, by omega⟩, ⟨by omega, by omega⟩, ⟨by omega, by omega⟩, ⟨by omega, by omega⟩, by omega, by omega, by omega⟩
    simp only [tailC]
    refine triple_seqF S2 (fun s => lo ≤ s ∧ s ≤ hi ∧ (s = lo ∨ ltN (gN V (h - s)) (gN U (s - 1)) = false) ∧ (s = hi ∨ ltN (gN V (h - 1 - s)) (gN U s) = true)) (ev_sound mixed ?_) ?_
    · simp (decide := true) [S1]
      refine loop_rule mixed (fun x : Nat × Nat => { n := 220, next := 1, slots := [(0, .ar 0), (1, .d (int a)), (2, .d (int ((a + u : Nat) : Int))), (3, .d (int ((a + u + v : Nat) : Int))), (4, ordF), (18, .d (int ((a + h : Nat) : Int))), (19, .d (int ((a + h + (a + u) : Nat) : Int))), (20, .d (int ((a + x.1 : Nat) : Int))), (21, .d (int ((a + x.2 : Nat) : Int))), (22, .d (int ((a + h + (a + u) - 1 : Nat) : Int)))], own := arN l0, base := 1 })
        (fun x => lo ≤ x.1 ∧ x.1 ≤ x.2 ∧ x.2 ≤ hi ∧ (x.1 = lo ∨ ltN (gN V (h - x.1)) (gN U (x.1 - 1)) = false) ∧ (x.2 = hi ∨ ltN (gN V (h - 1 - x.2)) (gN U x.2) = true)) (fun x => x.2 - x.1) (lo, hi)
        ⟨Nat.le_refl _, by simp only; rw [← hlo, ← hhi]; split <;> omega, Nat.le_refl _, .inl rfl, .inl rfl⟩ (by simp (decide := true) [int]) ?_
      rintro ⟨i, j⟩ ⟨q1, q2, q3, q4, q5⟩
      simp only at q1 q2 q3 q4 q5
      have hju : j ≤ u := by rw [← hhi] at q3; split at q3 <;> omega
      have hjh : j ≤ h := by rw [← hhi] at q3; split at q3 <;> omega
      have hiv : h - i ≤ v := by rw [← hlo] at q1; split at q1 <;> omega
      by_cases hij : i < j
      · have hij' : (a : Int) + i < (a : Int) + j := by omega
        obtain ⟨k, hk⟩ : ∃ k, (i + j) / 2 = k := ⟨_, rfl⟩
        have hc : IntKind.i64.wrap (shiftD .shr .u64 (IntKind.u64.wrap ((a : Int) + i + (a + j))) 1) = ((a + k : Nat) : Int) := by
          rw [half _ (by omega) (by omega)]; omega
        have hkh : k < h := by omega
        have hku : k < u := by omega
        have hkv : h - 1 - k < v := by omega
        have hpc : ((a + h + (a + u) - 1 : Nat) : Int) - (a + k) = ((a + u + (h - 1 - k) : Nat) : Int) := by omega
        have g1 := gV (h - 1 - k) hkv
        have g2 := gU k hku
        generalize a + u + (h - 1 - k) = vi at hpc g1
        have x1 : vi < l0.length := by
          rcases Nat.lt_or_ge vi l0.length with e | e
          · exact e
          · rw [List.getElem?_eq_none e] at g1; cases g1
        have x2 : a + k < l0.length := by omega
        have x1' : (vi : Int) < l0.length := by omega
        have x2' : (a : Int) + k < l0.length := by omega
        have n2 : ((a : Int) + k).toNat = a + k := by omega
        have g1' : l0[vi] = gN V (h - 1 - k) := by rw [List.getElem?_eq_getElem x1] at g1; exact Option.some.inj g1
        have g2' : l0[a + k] = gN U k := by rw [List.getElem?_eq_getElem x2] at g2; exact Option.some.inj g2
        simp (decide := true) [int, I64, eBytes, hij', hc, hpc, S2, Nt.row, x1, x2, x1', x2', n2, g1, g1', g2, g2']
        refine ⟨⟨by omega, by omega⟩, by omega, by omega, ?_⟩
        refine scall_pure (by rfl) (by rfl) (order_ok (gN V (h - 1 - k)) (gN U k)) (by simp [Nt.row, int]) ?_
        by_cases c : cmpN (gN V (h - 1 - k)) (gN U k) < 0
        · have cl := lt_cmp.2 c
          simp (decide := true) [int, c]
          exact ⟨i, k, ⟨q1, by omega, by omega, q4, .inr cl⟩, by omega, rfl, by omega⟩
        · have cl := lt_cmpF.2 c
          simp (decide := true) [int, c]
          refine ⟨by unfold I64; omega, k + 1, j, ⟨by omega, by omega, q3, .inr ?_, q5⟩, by omega, by omega, rfl⟩
          rw [show h - (k + 1) = h - 1 - k by omega, Nat.add_sub_cancel]
          exact cl
      · have : i = j := by omega
        subst this
        simp (decide := true) [int, I64, S2]
        rw [cutF_normal]
        exact ⟨i, ⟨q1, q3, q4, q5⟩, by simp (decide := true) [int]⟩
    rintro s ⟨s1, s2, s3, s4⟩
    have hsu : s ≤ u := by rw [← hhi] at s2; split at s2 <;> omega
    have hsh : s ≤ h := by rw [← hhi] at s2; split at s2 <;> omega
    have hsv : h - s ≤ v := by rw [← hlo] at s1; split at s1 <;> omega
    obtain ⟨e, he⟩ : ∃ e, a + u + (h - s) = e := ⟨_, rfl⟩
    obtain ⟨U1, eU1⟩ : ∃ U1, U.take s = U1 := ⟨_, rfl⟩
    obtain ⟨U2, eU2⟩ : ∃ U2, U.drop s = U2 := ⟨_, rfl⟩
    obtain ⟨V1, eV1⟩ : ∃ V1, V.take (h - s) = V1 := ⟨_, rfl⟩
    obtain ⟨V2, eV2⟩ : ∃ V2, V.drop (h - s) = V2 := ⟨_, rfl⟩
    have lU1 : U1.length = s := by rw [← eU1, List.length_take]; omega
    have lU2 : U2.length = u - s := by rw [← eU2, List.length_drop]; omega
    have lV1 : V1.length = h - s := by rw [← eV1, List.length_take]; omega
    have lV2 : V2.length = v - (h - s) := by rw [← eV2, List.length_drop]; omega
    have eU : U = U1 ++ U2 := by rw [← eU1, ← eU2, List.take_append_drop]
    have eV : V = V1 ++ V2 := by rw [← eV1, ← eV2, List.take_append_drop]
    have c1 : ∀ x ∈ U1, ∀ y ∈ V2, ltN x y = true := by
      rw [← eU1, ← eV2]
      refine cross hU hV (by omega) (by omega) fun h0 h1 => ?_
      have hn : ltN (gN V (h - s)) (gN U (s - 1)) = false := by
        rcases s3 with e3 | e3
        · exfalso; rw [← hlo] at e3; split at e3 <;> omega
        · exact e3
      have := (List.pairwise_append.1 hd).2.2 (gN U (s - 1)) (gN_mem (by omega)) (gN V (h - s)) (gN_mem (by omega))
      exact this.elim id fun e4 => by rw [hn] at e4; cases e4
    have c2 : ∀ x ∈ V1, ∀ y ∈ U2, ltN x y = true := by
      rw [← eV1, ← eU2]
      refine cross hV hU (by omega) (by omega) fun h0 h1 => ?_
      rcases s4 with e4 | e4
      · exfalso; rw [← hhi] at e4; split at e4 <;> omega
      · rw [show h - s - 1 = h - 1 - s by omega]; exact e4
    have hres := halves (U1 := U1) (U2 := U2) (V1 := V1) (V2 := V2) (by rw [← eU]; exact hU) (by rw [← eV]; exact hV) (by rw [← eU, ← eV]; exact hd) c1 c2
    rw [← eU, ← eV] at hres
    have sU1 : SS U1 := hU.sub (by rw [eU]; exact List.sublist_append_left _ _)
    have sU2 : SS U2 := hU.sub (by rw [eU]; exact List.sublist_append_right _ _)
    have sV1 : SS V1 := hV.sub (by rw [eV]; exact List.sublist_append_left _ _)
    have sV2 : SS V2 := hV.sub (by rw [eV]; exact List.sublist_append_right _ _)
    have d1 : Dst (U1 ++ V1) := hd.sub (by rw [eU, eV]; exact List.Sublist.append (List.sublist_append_left _ _) (List.sublist_append_left _ _))
    have d2 : Dst (U2 ++ V2) := hd.sub (by rw [eU, eV]; exact List.Sublist.append (List.sublist_append_right _ _) (List.sublist_append_right _ _))
    have hE : (a : Int) + h + (a + u) - (a + s) = e := by omega
    have hL : l0 = (A ++ U1) ++ (U2 ++ (V1 ++ (V2 ++ B))) := by rw [← hl0, eU, eV]; simp
    have hrot : rotL l0 (a + s) (a + u) e = A ++ (U1 ++ (V1 ++ (U2 ++ (V2 ++ B)))) := by
      have r := rotL_seg (A := A ++ U1) (X := U2) (Y := V1) (B := V2 ++ B)
      rw [List.length_append, ha, lU1, lU2, lV1, show a + s + (u - s) = a + u by omega, he, ← hL] at r
      rw [r]; simp
    let S3 : St := { n := 220, next := 1, slots := [(0, .ar 0), (1, .d (int a)), (3, .d (int ((a + u + v : Nat) : Int))), (4, ordF), (18, .d (int ((a + h : Nat) : Int))), (20, .d (int ((a + s : Nat) : Int))), (24, .d (int e))], own := arN (A ++ (U1 ++ (V1 ++ (U2 ++ (V2 ++ B))))), base := 1 }
    let S4 : St := { n := 220, next := 1, slots := [(0, .ar 0), (3, .d (int ((a + u + v : Nat) : Int))), (4, ordF), (18, .d (int ((a + h : Nat) : Int))), (24, .d (int e))], own := arN (A ++ (isort (U1 ++ V1) ++ (U2 ++ (V2 ++ B)))), base := 1 }
    refine cut_ev mixed 2 S3 rfl ?_ ?_
    · by_cases r1 : s < u
      · have r1' : (a : Int) + s < a + u := by omega
        by_cases r2 : 0 < h - s
        · have r2' : (a : Int) + u < e := by omega
          simp (decide := true) [int, I64, hE, r1', r2', S2]
          refine ⟨by omega, ?_⟩
          refine ECall.mut [0] [.ar 0, .d (int ((a + s : Nat) : Int)), .d (int ((a + u : Nat) : Int)), .d (int e), ordF] (arN l0) (by rfl) (by simp [int]) (by simp) (by simp) (rotate_ok l0 (a + s) (a + u) e (by omega) (by omega) (by omega) (by omega)) ?_
          rw [hrot]
          simp (decide := true) [int, S3]
        · have r2' : ¬ (a : Int) + u < e := by omega
          have hV1 : V1 = [] := List.eq_nil_of_length_eq_zero (by omega)
          have hLn : l0 = A ++ (U1 ++ (V1 ++ (U2 ++ (V2 ++ B)))) := by rw [hL, hV1]; simp
          simp (decide := true) [int, I64, hE, r1', r2', S2, S3, hLn]
          omega
      · have r1' : ¬ (a : Int) + s < a + u := by omega
        have hU2 : U2 = [] := List.eq_nil_of_length_eq_zero (by omega)
        have hLn : l0 = A ++ (U1 ++ (V1 ++ (U2 ++ (V2 ++ B)))) := by rw [hL, hU2]; simp
        simp (decide := true) [int, I64, hE, r1', S2, S3, hLn]
        omega
    simp only [tailC]
    have hlA : (A ++ (U1 ++ (V1 ++ (U2 ++ (V2 ++ B))))).length = l0.length := by
      rw [hL]; simp; omega
    refine cut_ev mixed 1 S4 rfl ?_ ?_
    · by_cases r1 : 0 < s
      · have r1' : (a : Int) < a + s := by omega
        by_cases r2 : s < h
        · have r2' : (a : Int) + s < a + h := by omega
          have hs := ih A U1 V1 (U2 ++ (V2 ++ B)) (by omega) (by intro e0; rw [e0] at lU1; simp at lU1; omega) (by intro e0; rw [e0] at lV1; simp at lV1; omega) sU1 sV1 d1 (by omega)
          unfold SymC at hs
          rw [ha, lU1, lV1, show a + s + (h - s) = a + h by omega] at hs
          simp (decide := true) [int, I64, r1', r2', S3]
          refine ECall.mut [0] [.ar 0, .d (int a), .d (int ((a + s : Nat) : Int)), .d (int ((a + h : Nat) : Int)), ordF] (arN (A ++ (U1 ++ (V1 ++ (U2 ++ (V2 ++ B)))))) (by rfl) (by simp [int]) (by simp) (by simp) hs ?_
          simp (decide := true) [int, S4]
        · have r2' : ¬ (a : Int) + s < a + h := by omega
          have hV1 : V1 = [] := List.eq_nil_of_length_eq_zero (by omega)
          have hLn : A ++ (U1 ++ (V1 ++ (U2 ++ (V2 ++ B)))) = A ++ (isort (U1 ++ V1) ++ (U2 ++ (V2 ++ B))) := by rw [hV1, List.append_nil, sU1.isort]; simp
          simp only [S3, hLn]
          simp (decide := true) [int, I64, r1', r2', S4]
      · have r1' : ¬ (a : Int) < a + s := by omega
        have hU1 : U1 = [] := List.eq_nil_of_length_eq_zero (by omega)
        have hLn : A ++ (U1 ++ (V1 ++ (U2 ++ (V2 ++ B)))) = A ++ (isort (U1 ++ V1) ++ (U2 ++ (V2 ++ B))) := by rw [hU1, List.nil_append, List.nil_append, sV1.isort]
        simp only [S3, hLn]
        simp (decide := true) [int, I64, r1', S4]
    simp only [tailC]
    refine ev_sound mixed ?_
    have hI : (isort (U1 ++ V1)).length = h := by rw [isort_length, List.length_append]; omega
    have hfin : A ++ (isort (U1 ++ V1) ++ (isort (U2 ++ V2) ++ B)) = A ++ (isort (U ++ V) ++ B) := by rw [← hres]; simp
    by_cases r1 : s < u
    · have r1' : (a : Int) + h < e := by omega
      by_cases r2 : h - s < v
      · have r2' : (e : Int) < (a : Int) + u + v := by omega
        have hs := ih (A ++ isort (U1 ++ V1)) U2 V2 B (by omega) (by intro e0; rw [e0] at lU2; simp at lU2; omega) (by intro e0; rw [e0] at lV2; simp at lV2; omega) sU2 sV2 d2 (by simp only [List.length_append] at hlA ⊢; omega)
        unfold SymC at hs
        rw [List.length_append, ha, hI, lU2, lV2, show a + h + (u - s) = e by omega, show e + (v - (h - s)) = a + u + v by omega, List.append_assoc, List.append_assoc, hfin] at hs
        simp (decide := true) [int, I64, r1', r2', S4]
        refine ECall.mut [0] [.ar 0, .d (int ((a + h : Nat) : Int)), .d (int e), .d (int ((a + u + v : Nat) : Int)), ordF] (arN (A ++ (isort (U1 ++ V1) ++ (U2 ++ (V2 ++ B))))) (by rfl) (by simp [int]) (by simp) (by simp) hs ?_
        simp (decide := true) [int]
      · have r2' : ¬ (e : Int) < (a : Int) + u + v := by omega
        have hV2 : V2 = [] := List.eq_nil_of_length_eq_zero (by omega)
        have hLn : A ++ (isort (U1 ++ V1) ++ (U2 ++ (V2 ++ B))) = A ++ (isort (U ++ V) ++ B) := by rw [← hfin, hV2, List.append_nil, sU2.isort]; simp
        simp only [S4, hLn]
        simp (decide := true) [int, I64, r1', r2']
    · have r1' : ¬ (a : Int) + h < e := by omega
      have hU2 : U2 = [] := List.eq_nil_of_length_eq_zero (by omega)
      have hLn : A ++ (isort (U1 ++ V1) ++ (U2 ++ (V2 ++ B))) = A ++ (isort (U ++ V) ++ B) := by rw [← hfin, hU2, List.nil_append, List.nil_append, sV2.isort]
      simp only [S4, hLn]
      simp (decide := true) [int, I64, r1']
end Go.V

/- Contract: the library's stable sort at notes without ties, of whatever length. -/
namespace Go.V
open Go Go.Proofs Go.Sort Go.RowKit

theorem gN_arr (l : List Nt) (i : Nat) (h : i < l.length) : (l.toArray)[i]! = gN l i := by
  rw [gN_eq h]; simp [h]
/-- What the insertion sort of a middle piece leaves. -/
theorem ins_mid {A X B : List Nt} (hd : Dst X) : (Sort.insertionSort ltN (A ++ (X ++ B)).toArray A.length (A.length + X.length)) = (A ++ (isort X ++ B)).toArray := by
  obtain ⟨⟨hsz, hout, hp⟩, hs⟩ := insertionSort_holds swoN (A ++ (X ++ B)).toArray A.length (A.length + X.length) (Nat.le_add_right _ _) (by simp)
  generalize Sort.insertionSort ltN (A ++ (X ++ B)).toArray A.length (A.length + X.length) = e at hsz hout hp hs
  obtain ⟨e, rfl⟩ : ∃ e' : List Nt, e = e'.toArray := ⟨e.toList, by simp⟩
  have hl : e.length = A.length + X.length + B.length := by simp at hsz; omega
  have hmid : ((e.drop A.length).take X.length) = isort X := by
    refine isort_uniq ?_ ?_
    · have hpx : ((e.drop A.length).take X.length).Perm X := by
        simp at hp
        have h2 : List.take (A.length + X.length - A.length) (List.drop A.length (A ++ (X ++ B))) = X := by
          rw [Nat.add_sub_cancel_left, List.drop_left' rfl, List.take_left' rfl]
        simpa [List.extract] using hp
      have hpw : ((e.drop A.length).take X.length).Pairwise fun a b => ltN b a = false := by
        rw [List.pairwise_iff_getElem]
        intro i j hi hj hij
        rw [List.length_take, List.length_drop] at hi hj
        have := hs (A.length + i) (A.length + j) (by omega) (by omega) (by omega)
        rw [gN_arr _ _ (by omega), gN_arr _ _ (by omega), gN_eq (show A.length + i < e.length by omega), gN_eq (show A.length + j < e.length by omega)] at this
        simpa [List.getElem_take, List.getElem_drop] using this
      exact (List.pairwise_and_iff.2 ⟨hpw, hd.perm hpx.symm⟩).imp fun {a b} e => e.2.elim id fun e2 => by rw [e.1] at e2; cases e2
    · simp at hp
      simpa [List.extract] using hp
  have h1 : e.take A.length = A := by
    apply List.ext_getElem (by rw [List.length_take]; omega)
    intro i hi hi'
    have := hout i (.inl hi')
    rw [gN_arr _ _ (by omega), gN_arr _ _ (by simp; omega), gN_eq (show i < e.length by omega), gN_eq (by simp; omega)] at this
    simpa [List.getElem_take, List.getElem_append_left hi'] using this
  have h3 : e.drop (A.length + X.length) = B := by
    apply List.ext_getElem (by rw [List.length_drop]; omega)
    intro i hi hi'
    have := hout (A.length + X.length + i) (.inr (by omega))
    rw [gN_arr _ _ (by omega), gN_arr _ _ (by simp; omega), gN_eq (show A.length + X.length + i < e.length by omega), gN_eq (by simp; omega)] at this
    rw [List.getElem_drop, this, List.getElem_append_right (by omega), List.getElem_append_right (by omega)]
    congr 1; omega
  have h4 : e = e.take A.length ++ ((e.drop A.length).take X.length ++ e.drop (A.length + X.length)) := by
    rw [← List.drop_drop, List.take_append_drop, List.take_append_drop]
  rw [h4, h1, hmid, h3]
theorem insM_ok (A X B : List Nt) (hd : Dst X) (hl : (A ++ (X ++ B)).length < 2^40) :
    CallC Tryd.prog 84 [.ar 0, .d (int A.length), .d (int ((A.length + X.length : Nat) : Int)), ordF] (arN (A ++ (X ++ B))) 1 (.d (.tup [])) 1 (arN (A ++ (isort X ++ B))) [] := by
  by_cases hne : A ++ (X ++ B) = []
  · obtain ⟨rfl, hxb⟩ := List.append_eq_nil_iff.1 hne
    obtain ⟨rfl, rfl⟩ := List.append_eq_nil_iff.1 hxb
    have : isort [] = [] := List.eq_nil_of_length_eq_zero (isort_length [])
    rw [this]
    exact insE_ok.unit
  refine sort_bridge nt_enc call_84 hne (by simp [isort_length]) ?_
  intro w E β vs hvs hseen g cap hg hE hH
  simp only [Sms, Sm, R, int] at hvs
  obtain ⟨_, _, rfl, rfl, _, _, rfl, rfl, _, _, rfl, ⟨_, rfl, rfl⟩, rfl⟩ := hvs
  have := AnyQ.insertionSortCmpFunc Tryd.insNote 7 isAggN sizeOfN Nt.enc nt_enc.len nt_enc.one cmpN 44 #[] g 0 cap A.length (A.length + X.length) (A ++ (X ++ B)).toArray w enters_order
    (order_lays hseen hE) hH hg (Nat.le_add_right _ _) (by simp) (by simp only [List.size_toArray]; omega)
  change Calls Tryd.prog 84 _ _ _ at this
  rw [show ltOf cmpN = ltN from rfl, ins_mid hd] at this
  simpa only [List.size_toArray] using this
/-- A list of sorted pieces of one length, of which the last may be shorter. -/
inductive Run (s : Nat) : List Nt → Prop
  | last (X : List Nt) : X.length ≤ s → SS X → Run s X
  | cons (X Q : List Nt) : X.length = s → SS X → Run s Q → Run s (X ++ Q)
def Pre (s : Nat) (P : List Nt) : Prop := ∀ Q, Run s Q → Run s (P ++ Q)
theorem Pre.nil {s : Nat} : Pre s [] := fun Q h => h
theorem Pre.snoc {s : Nat} {P X : List Nt} (h : Pre s P) (hl : X.length = s) (hs : SS X) : Pre s (P ++ X) := fun Q hq => by
  rw [List.append_assoc]; exact h _ (.cons X Q hl hs hq)
theorem SS.nil : SS [] := List.Pairwise.nil
theorem Run.split {s : Nat} {L : List Nt} (h : Run s L) (hl : s ≤ L.length) : ∃ X Q, L = X ++ Q ∧ X.length = s ∧ SS X ∧ Run s Q := by
  cases h with
  | last _ h1 h2 => exact ⟨L, [], by simp, by omega, h2, .last [] (by simp) SS.nil⟩
  | cons X Q h1 h2 h3 => exact ⟨X, Q, rfl, h1, h2, h3⟩
theorem Run.short {s : Nat} {L : List Nt} (h : Run s L) (hl : L.length ≤ s) : SS L := by
  cases h with
  | last _ h1 h2 => exact h2
  | cons X Q h1 h2 h3 =>
    rw [List.length_append] at hl
    have : Q = [] := List.eq_nil_of_length_eq_zero (by omega)
    subst this
    simpa using h2
theorem take_split {l : List Nt} {s : Nat} (h : s ≤ l.length) : ∃ X Q, l = X ++ Q ∧ X.length = s := ⟨l.take s, l.drop s, (List.take_append_drop _ _).symm, by rw [List.length_take]; omega⟩
theorem perm_mid {P X Y Q l : List Nt} (h : (P ++ (X ++ Q)).Perm l) (k : Y.Perm X) : (P ++ (Y ++ Q)).Perm l := ((k.append_right Q).append_left P).trans h
set_option maxHeartbeats 4000000 in
theorem stableCA_ok (l : List Nt) (hl : l.length < 2^38) (hd : Dst l) :
    CallC Tryd.prog 62 [.ar 0, .d (int l.length), ordF] (arN l) 1 (.d (.tup [])) 1 (arN (isort l)) [] := by
  refine CallC.unit (callC_of_body mixed Tryd.func62 rfl call_62 (by simp [Sym.los, Sym.lo]) ?_)
  simp (decide := true) [Tryd.f62, int]
  refine loop_rule mixed (fun x : List Nt × List Nt => { n := 63, next := 1, slots := [(0, .ar 0), (1, .d (int l.length)), (2, ordF), (6, .d (int 20)), (7, .d (int x.1.length)), (8, .d (int ((x.1.length + 20 : Nat) : Int)))], own := arN (x.1 ++ x.2), base := 1 })
    (fun x => Pre 20 x.1 ∧ (x.1 ++ x.2).Perm l) (fun x => x.2.length) ([], l) ⟨Pre.nil, List.Perm.refl _⟩ (by simp (decide := true) [int]) ?_
  rintro ⟨P, Q⟩ ⟨hP, hp⟩
  simp only at hP hp ⊢
  have hlen := hp.length_eq
  rw [List.length_append] at hlen
  by_cases h20 : 20 ≤ Q.length
  · obtain ⟨X, Q', rfl, hX⟩ := take_split h20
    rw [List.length_append] at hlen
    have hdX : Dst X := (hd.perm hp.symm).sub ((List.sublist_append_left _ _).trans (List.sublist_append_right _ _))
    have hins := insM_ok P X Q' hdX (by simp; omega)
    rw [hX] at hins
    have hc : (P.length : Int) + 20 ≤ l.length := by omega
    simp (decide := true) [int, hc]
    refine ECall.mut [0] [.ar 0, .d (int P.length), .d (int ((P.length + 20 : Nat) : Int)), ordF] (arN (P ++ (X ++ Q'))) (by rfl) (by simp [int]) (by simp) (by simp) hins ?_
    simp (decide := true) [int, I64]
    refine ⟨by omega, P ++ isort X, Q', ⟨hP.snoc (by rw [isort_length]; exact hX) hdX.isort, ?_⟩, by omega, ?_⟩
    · rw [List.append_assoc]; exact perm_mid hp (isort_perm X)
    · simp [isort_length, hX]
  · have hdQ : Dst Q := (hd.perm hp.symm).sub (List.sublist_append_right _ _)
    have hins := insM_ok P Q [] hdQ (by simp; omega)
    rw [List.append_nil, List.append_nil, hlen] at hins
    have hc : ¬ (P.length : Int) + 20 ≤ l.length := by omega
    simp (decide := true) [int, hc]
    refine ECall.mut [0] [.ar 0, .d (int P.length), .d (int l.length), ordF] (arN (P ++ Q)) (by rfl) (by simp [int]) (by simp) (by simp) hins ?_
    have hR : Run 20 (P ++ isort Q) := hP _ (.last _ (by rw [isort_length]; omega) hdQ.isort)
    have hp2 : (P ++ isort Q).Perm l := ((isort_perm Q).append_left P).trans hp
    generalize P ++ isort Q = c at hR hp2
    clear hins hP hp hlen h20 hc hdQ
    simp (decide := true) [int]
    refine loop_rule mixed (fun x : Nat × List Nt => { n := 63, next := 1, slots := [(0, .ar 0), (1, .d (int l.length)), (2, ordF), (6, .d (int x.1))], own := arN x.2, base := 1 })
      (fun x => 20 ≤ x.1 ∧ x.1 ≤ 20 + 2 * l.length ∧ Run x.1 x.2 ∧ x.2.Perm l) (fun x => 20 + 2 * l.length - x.1) (20, c) ⟨Nat.le_refl _, Nat.le_add_right _ _, hR, hp2⟩ (by simp (decide := true) [int]) ?_
    rintro ⟨s, c⟩ ⟨s1, s2, hR, hp⟩
    simp only at s1 s2 hR hp ⊢
    by_cases hs : s < l.length
    case neg =>
      have hs' : ¬ (s : Int) < l.length := by omega
      have : c = isort l := isort_uniq (hR.short (by rw [hp.length_eq]; omega)) hp
      rw [this]
      simp (decide := true) [int, hs']
    have hs' : (s : Int) < l.length := by omega
    simp (decide := true) [int, hs', I64]
    refine ⟨by omega, ?_⟩
    refine loop_rule mixed (fun x : List Nt × List Nt => { n := 63, next := 1, slots := [(0, .ar 0), (1, .d (int l.length)), (2, ordF), (6, .d (int s)), (7, .d (int x.1.length)), (8, .d (int ((x.1.length + 2 * s : Nat) : Int)))], own := arN (x.1 ++ x.2), base := 1 })
      (fun x => Pre (2 * s) x.1 ∧ Run s x.2 ∧ (x.1 ++ x.2).Perm l) (fun x => x.2.length) ([], c) ⟨Pre.nil, hR, hp⟩ (by simp (decide := true) [int]) ?_
    clear hR hp
    rintro ⟨P, Q⟩ ⟨hP, hQ, hp⟩
    simp only at hP hQ hp ⊢
    have hlen := hp.length_eq
    rw [List.length_append] at hlen
    have hdA := hd.perm hp.symm
    by_cases h2s : 2 * s ≤ Q.length
    · obtain ⟨X, Q1, rfl, hX, sX, hQ1⟩ := hQ.split (by omega)
      rw [List.length_append] at h2s hlen
      obtain ⟨Y, Q2, rfl, hY, sY, hQ2⟩ := hQ1.split (by omega)
      rw [List.length_append] at h2s hlen
      have hdX : Dst (X ++ Y) := hdA.sub (by rw [← List.append_assoc X]; exact (List.sublist_append_left _ _).trans (List.sublist_append_right _ _))
      have hsym := symM_ok _ P X Y Q2 (Nat.le_refl _) (by intro e; rw [e] at hX; simp at hX; omega) (by intro e; rw [e] at hY; simp at hY; omega) sX sY hdX (by simp; omega)
      unfold SymC at hsym
      rw [hX, hY, show P.length + s + s = P.length + 2 * s by omega] at hsym
      have hc : (P.length : Int) + 2 * s ≤ l.length := by omega
      simp (decide := true) [int, hc, I64]
      refine ⟨by omega, ?_⟩
      refine ECall.mut [0] [.ar 0, .d (int P.length), .d (int ((P.length + s : Nat) : Int)), .d (int ((P.length + 2 * s : Nat) : Int)), ordF] (arN (P ++ (X ++ (Y ++ Q2)))) (by rfl) (by simp [int]) (by simp) (by simp) hsym ?_
      simp (decide := true) [int, I64]
      refine ⟨by omega, by omega, P ++ isort (X ++ Y), Q2, ⟨hP.snoc (by rw [isort_length, List.length_append]; omega) hdX.isort, hQ2, ?_⟩, by omega, ?_⟩
      · rw [List.append_assoc]
        refine perm_mid ?_ (isort_perm (X ++ Y))
        rw [List.append_assoc]; exact hp
      · simp [isort_length, hX, hY]; omega
    · have hc : ¬ (P.length : Int) + 2 * s ≤ l.length := by omega
      by_cases h1s : s < Q.length
      · obtain ⟨X, Y, rfl, hX, sX, hQ1⟩ := hQ.split (by omega)
        rw [List.length_append] at h2s h1s hlen
        have sY := hQ1.short (by omega)
        have hdX : Dst (X ++ Y) := hdA.sub (List.sublist_append_right _ _)
        have hsym := symM_ok _ P X Y [] (Nat.le_refl _) (by intro e; rw [e] at hX; simp at hX; omega) (by intro e; rw [e] at h1s; simp at h1s; omega) sX sY hdX (by simp; omega)
        unfold SymC at hsym
        rw [List.append_nil, List.append_nil, hX, show P.length + s + Y.length = l.length by omega] at hsym
        have hc1 : (P.length : Int) + s < l.length := by omega
        simp (decide := true) [int, hc, hc1, I64]
        refine ⟨by omega, ?_⟩
        refine ECall.mut [0] [.ar 0, .d (int P.length), .d (int ((P.length + s : Nat) : Int)), .d (int l.length), ordF] (arN (P ++ (X ++ Y))) (by rfl) (by simp [int]) (by simp) (by simp) hsym ?_
        simp (decide := true) [int, I64]
        refine ⟨by omega, s * 2, P ++ isort (X ++ Y), ⟨by omega, by omega, ?_, ?_⟩, by omega, ?_⟩
        · rw [Nat.mul_comm]; exact hP _ (.last _ (by rw [isort_length, List.length_append]; omega) hdX.isort)
        · exact ((isort_perm _).append_left P).trans hp
        · simp
      · have hc1 : ¬ (P.length : Int) + s < l.length := by omega
        simp (decide := true) [int, hc, hc1, I64]
        refine ⟨by omega, by omega, s * 2, P ++ Q, ⟨by omega, by omega, ?_, hp⟩, by omega, ?_⟩
        · rw [Nat.mul_comm]; exact hP _ (.last _ (by omega) (hQ.short (by omega)))
        · simp
theorem stableA_ok (l : List Nt) (hl : l.length < 2^38) (hd : Dst l) :
    CallC Tryd.prog 43 [.ar 0, .fn 44 []] [(0, .arr 39 7 (l.map Nt.row))] 1 (.d (.tup [])) 1 [(0, .arr 39 7 ((isort l).map Nt.row))] [] := by
  refine CallC.unit (callC_of_body mixed Tryd.func43 rfl call_43 (by simp [Sym.los, Sym.lo]) ?_)
  simp (decide := true) [Tryd.f43, int]
  refine ECall.mut [0] [.ar 0, .d (int l.length), .fn 44 []] [(0, .arr 39 7 (l.map Nt.row))] (by rfl) (by simp [int]) (by simp) (by simp) (stableCA_ok l hl hd) ?_
  simp (decide := true) [int]
end Go.V

/- Contracts: the notes of a tier and the children of a note, by the program, in a right document of whatever size. -/
namespace Go.V
open Go Go.Proofs

theorem kid_dst {d : Dc} (h : Rgt d) (id t : Int) : Dst (d.notes.filter (kidB d id t)) := by
  have hn : (d.notes.filter (kidB d id t)).Nodup := (notes_nodup h).sublist List.filter_sublist
  refine hn.imp_of_mem fun {a b} ha hb hne => ?_
  rw [List.mem_filter] at ha hb
  simp only [kidB, Bool.and_eq_true, decide_eq_true_eq] at ha hb
  obtain ⟨k, rfl⟩ : ∃ k : Nat, t = k := ⟨t.toNat, by omega⟩
  have hk : ¬ keyT d k a = keyT d k b := fun e => hne (h.keys (by omega) ⟨ha.1, ha.2.1.1.1⟩ ⟨hb.1, hb.2.1.1.1⟩ (by rw [ha.2.1.1.2, hb.2.1.1.2]) e)
  rw [ltN_iff, ltN_iff]
  unfold keyT at hk
  split at hk <;> omega
set_option maxHeartbeats 2000000 in
theorem kidsA_ok {d : Dc} (h : Rgt d) (id t : Int) :
    PureR Tryd.prog 26 [docD d, int id, int t] (ints (idsOf (kidsN d id t))) := by
  have hfew := h.few
  refine pure_of_body_frz mixed Tryd.func26 rfl call_26 [3] ?_
  simp (decide := true) [Tryd.f26, docD, Dc.row, int, ints, tiersD, notesD]
  refine loop_rule mixed (fun k : Nat => { n := 61, next := 3, slots := [(1, .d (int id)), (2, .d (int t)), (3, .bp 0 0), (7, .ar 2), (14, .d (notesD d.notes)), (15, .d (.int .i64 d.notes.length)), (16, .d (.int .i64 k))], own := [(0, .box 32 (docCells d)), (2, .arr 39 7 (((d.notes.take k).filter (kidB d id t)).map Nt.row))], moved := [2] })
    (fun k => k ≤ d.notes.length) (fun k => d.notes.length - k) 0 (by simp) (by simp (decide := true) [int, ints, tiersD, notesD]) ?_
  intro k hk
  by_cases hlt : k < d.notes.length
  · have hlt' : (k : Int) < d.notes.length := by omega
    have e1 : d.notes[k]? = some d.notes[k] := List.getElem?_eq_getElem hlt
    have hsn : (d.notes.take (k + 1)).filter (kidB d id t) = (d.notes.take k).filter (kidB d id t) ++ (if kidB d id t d.notes[k] = true then [d.notes[k]] else []) := by
      rw [take_snoc' hlt, List.filter_append]; by_cases h : kidB d id t d.notes[k] = true <;> simp [h]
    have hlen : ((d.notes.take k).filter (kidB d id t)).length ≤ k := Nat.le_trans (List.length_filter_le _ _) (by rw [List.length_take]; omega)
    have no : kidB d id t d.notes[k] = false → (d.notes.take (k + 1)).filter (kidB d id t) = (d.notes.take k).filter (kidB d id t) := by
      intro h; rw [hsn, if_neg (by simp [h]), List.append_nil]
    by_cases h1 : d.notes[k].tier = t
    case neg =>
      have := no (by simp [kidB, h1])
      simp (decide := true) [notesD, Nt.row, int, hlt, hlt', e1, I64, h1]
      exact ⟨⟨by omega, by omega⟩, k + 1, hlt, by omega, by omega, by rw [this]⟩
    by_cases h2 : d.notes[k].par = id
    case neg =>
      have := no (by simp [kidB, h2])
      simp (decide := true) [notesD, Nt.row, int, hlt, hlt', e1, I64, h1, h2]
      exact ⟨⟨by omega, by omega⟩, k + 1, hlt, by omega, by omega, by rw [this]⟩
    by_cases h3 : 0 ≤ t
    case neg =>
      have := no (by simp [kidB, h3])
      simp (decide := true) [notesD, Nt.row, int, hlt, hlt', e1, I64, h1, h2, h3]
      exact ⟨⟨by omega, by omega⟩, k + 1, hlt, by omega, by omega, by rw [this]⟩
    by_cases h4 : t < d.tiers.length
    case neg =>
      have := no (by simp [kidB, h4])
      simp (decide := true) [notesD, tiersD, Nt.row, int, hlt, hlt', e1, I64, h1, h2, h3, h4]
      exact ⟨⟨by omega, by omega⟩, k + 1, hlt, by omega, by omega, by rw [this]⟩
    have hy : kidB d id t d.notes[k] = true := by simp [kidB, h1, h2, h3, h4]
    rw [if_pos hy] at hsn
    simp (decide := true) [notesD, tiersD, Nt.row, int, hlt, hlt', e1, I64, h1, h2, h3, h4]
    exact ⟨by omega, by unfold maxLen; omega, ⟨by omega, by omega⟩, k + 1, hlt, by omega, by omega, by rw [hsn]; simp [Nt.row, int, h1, h2]⟩
  · have : k = d.notes.length := by omega
    subst this
    rw [List.take_length]
    have hol : (d.notes.filter (kidB d id t)).length ≤ d.notes.length := List.length_filter_le _ _
    simp (decide := true) [int]
    refine ECall.mut [2] [.ar 0, .fn 44 []] [(0, .arr 39 7 ((d.notes.filter (kidB d id t)).map Nt.row))] (by rfl) (by simp [int]) (by simp) (by simp) (stableA_ok _ (by omega) (kid_dst h id t)) ?_
    have hsl := isort_length (d.notes.filter (kidB d id t))
    unfold kidsN
    rw [← hsl] at hol
    generalize isort (d.notes.filter (kidB d id t)) = s at hol ⊢
    simp (decide := true) [int]
    refine loop_rule mixed (fun k : Nat => { n := 61, next := 4, slots := [(10, .ar 3), (48, .ar 2), (49, .d (.int .i64 s.length)), (50, .d (.int .i64 k))], own := [(2, .arr 39 7 (s.map Nt.row)), (3, .arr 3 1 ((idsOf (s.take k)).map fun n => [int n]))], moved := [3, 2] })
      (fun k => k ≤ s.length) (fun k => s.length - k) 0 (by simp) (by simp (decide := true) [int, idsOf]) ?_
    intro k hk
    by_cases hlt : k < s.length
    · have hlt' : (k : Int) < s.length := by omega
      have e1 : s[k]? = some s[k] := List.getElem?_eq_getElem hlt
      have hsn : idsOf (s.take (k + 1)) = idsOf (s.take k) ++ [s[k].id] := by unfold idsOf; rw [take_snoc' hlt, List.map_append]; rfl
      have hlen : (idsOf (s.take k)).length ≤ k := by unfold idsOf; rw [List.length_map, List.length_take]; omega
      simp (decide := true) [Nt.row, int, hlt, hlt', e1, I64]
      exact ⟨by omega, by unfold maxLen; omega, ⟨by omega, by omega⟩, k + 1, hlt, by omega, by omega, by rw [hsn]; simp [int]⟩
    · have : k = s.length := by omega
      subst this
      rw [List.take_length]
      simp (decide := true) [int, ints]
set_option maxHeartbeats 2000000 in
theorem ofA_ok {d : Dc} (h : Rgt d) : ∀ (t : Nat), t < d.tiers.length → PureR Tryd.prog 24 [docD d, int t] (ints (idsOf (ofN d t))) := by
  have hfew := h.few
  intro t
  induction t using Nat.strongRecOn with
  | _ t ih =>
    intro ht
    refine pure_of_body_frz mixed Tryd.func24 rfl call_24 [2] ?_
    have e1 : d.tiers[t]? = some d.tiers[t] := List.getElem?_eq_getElem ht
    have ht' : (t : Int) < d.tiers.length := by omega
    have htl : ¬ (d.tiers.length : Int) ≤ t := by omega
    have htn : ¬ (t : Int) < 0 := by omega
    have hof : ofN d t = if (tirAt d t).kind = 0 then kidsN d 0 t else if h : (tirAt d t).par.toNat < t then (ofN d (tirAt d t).par.toNat).flatMap fun p => kidsN d p.id t else [] := by rw [ofN]
    by_cases hk : (tirAt d t).kind = 0
    · rw [if_pos hk] at hof
      rw [hof]
      rw [tirAt_nat d ht] at hk
      simp (decide := true) [Tryd.f24, docD, Dc.row, Tir.row, int, ints, tiersD, notesD, ht, ht', htl, htn, e1, hk]
      refine ECall.pure (by rfl) (kidsA_ok h 0 t) (by simp (decide := true) [docD, Dc.row, int, ints, tiersD, notesD]) ?_
      simp (decide := true) [int, ints]
    · have hu := h.up ht hk
      rw [if_neg hk, dif_pos hu.2] at hof
      have hlen := of_length h ht
      have hL := of_length h (t := (tirAt d t).par.toNat) (by omega)
      have hc := ih _ hu.2 (by omega)
      rw [hof] at hlen ⊢
      generalize ofN d (tirAt d t).par.toNat = L at hlen hL hc ⊢
      obtain ⟨p, hp⟩ : ∃ p : Nat, (tirAt d t).par = p := ⟨(tirAt d t).par.toNat, by omega⟩
      rw [hp, Int.toNat_natCast] at hc
      rw [tirAt_nat d ht] at hk hp
      simp (decide := true) [Tryd.f24, docD, Dc.row, Tir.row, int, ints, tiersD, notesD, ht, ht', htl, htn, e1, hk, hp]
      refine scall_pure (by rfl) (by rfl) hc (by simp (decide := true) [docD, Dc.row, int, ints, tiersD, notesD]) ?_
      simp (decide := true) [int, ints]
      have hil := idsOf_length L
      refine loop_rule mixed (fun k : Nat => { n := 48, next := 3, slots := [(1, .d (int t)), (2, .bp 0 0), (5, .ar 2), (34, .d (ints (idsOf L))), (35, .d (.int .i64 L.length)), (36, .d (.int .i64 k))], own := [(0, .box 32 (docCells d)), (2, .arr 3 1 ((idsOf ((L.take k).flatMap fun p => kidsN d p.id t)).map fun n => [int n]))], moved := [2] })
        (fun k => k ≤ L.length) (fun k => L.length - k) 0 (by simp) (by simp (decide := true) [int, ints, tiersD, notesD, hil, idsOf]) ?_
      intro k hk
      by_cases hlt : k < L.length
      · have hlt' : (k : Int) < L.length := by omega
        have hlt2 : k < (idsOf L).length := by omega
        have e2 : (idsOf L)[k]? = some L[k].id := by unfold idsOf; rw [List.getElem?_map, List.getElem?_eq_getElem hlt]; rfl
        have hsn : idsOf ((L.take (k + 1)).flatMap fun p => kidsN d p.id t) = idsOf ((L.take k).flatMap fun p => kidsN d p.id t) ++ idsOf (kidsN d L[k].id t) := by
          rw [take_snoc' hlt, List.flatMap_append]; unfold idsOf; rw [List.map_append]; simp
        have hb : (idsOf ((L.take (k + 1)).flatMap fun p => kidsN d p.id t)).length ≤ d.notes.length := by
          rw [idsOf_length]
          refine Nat.le_trans ?_ hlen
          have : L.flatMap (fun p => kidsN d p.id t) = (L.take (k + 1)).flatMap (fun p => kidsN d p.id t) ++ (L.drop (k + 1)).flatMap (fun p => kidsN d p.id t) := by rw [← List.flatMap_append, List.take_append_drop]
          rw [this, List.length_append]; omega
        rw [hsn, List.length_append] at hb
        have hgd : (idsOf L)[k]'hlt2 = L[k].id := by simp [idsOf]
        simp (decide := true) [int, ints, hlt, hlt', hlt2, e2, hgd, hil, I64, docD, Dc.row]
        refine ECall.pure (by rfl) (kidsA_ok h L[k].id t) (by simp (decide := true) [docD, Dc.row, int, ints, tiersD, notesD]) ?_
        simp (decide := true) [int, ints, I64]
        refine ⟨by omega, by unfold maxLen; omega, ⟨by omega, by omega⟩, k + 1, hlt, by omega, by omega, by rw [hsn]; simp [int]⟩
      · have : k = L.length := by omega
        subst this
        rw [List.take_length]
        simp (decide := true) [int, ints]
theorem ofA_all {d : Dc} (h : Rgt d) (t : Int) : PureR Tryd.prog 24 [docD d, int t] (ints (idsOf (ofP d t))) := by
  unfold ofP
  split
  · rename_i ht
    obtain ⟨k, rfl⟩ : ∃ k : Nat, t = k := ⟨t.toNat, by omega⟩
    rw [Int.toNat_natCast]
    exact ofA_ok h k (by omega)
  · rename_i ht; exact of_none t ht
end Go.V

/- The law of chapter 12 on where a note is: whatever the document, it returns true. -/
namespace Go.V
open Go Go.Proofs

def cntI (l : List Int) (n : Int) : Nat := (l.filter fun m => decide (m = n)).length
theorem cntI_le (l : List Int) (n : Int) : cntI l n ≤ l.length := List.length_filter_le _ _
theorem count_ok (l : List Int) (n : Int) (hl : l.length < 2^40) : PureR Tryd.prog 30 [ints l, int n] (int (cntI l n)) := by
  refine pure_of_body mixed Tryd.func30 rfl call_30 ?_
  simp (decide := true) [Tryd.f30, int, ints]
  refine loop_rule mixed (fun k : Nat => { n := 22, next := 0, slots := [(0, .d (ints l)), (1, .d (int n)), (5, .d (int (cntI (l.take k) n))), (6, .d (int k))], own := [] })
    (fun k => k ≤ l.length) (fun k => l.length - k) 0 (by simp) (by simp (decide := true) [int, ints, cntI]) ?_
  intro k hk
  by_cases hlt : k < l.length
  · have hlt' : (k : Int) < l.length := by omega
    have e1 : l[k]? = some l[k] := List.getElem?_eq_getElem hlt
    have hs : cntI (l.take (k + 1)) n = cntI (l.take k) n + (if l[k] = n then 1 else 0) := by
      unfold cntI; rw [take_snoc' hlt, List.filter_append, List.length_append]; by_cases e : l[k] = n <;> simp [e]
    have hc := cntI_le (l.take k) n
    rw [List.length_take] at hc
    by_cases e : l[k] = n
    · rw [if_pos e] at hs
      simp (decide := true) [int, ints, hlt, hlt', e1, e, I64]
      exact ⟨by omega, by omega, k + 1, hlt, by omega, by omega, by omega⟩
    · rw [if_neg e] at hs
      simp (decide := true) [int, ints, hlt, hlt', e1, e, I64]
      exact ⟨by omega, k + 1, hlt, by omega, by omega, by omega⟩
  · have : k = l.length := by omega
    subst this
    rw [List.take_length]
    simp (decide := true) [int, ints]
/-! ### once -/
theorem one_id {d : Dc} (h : Rgt d) {n : Nt} (hn : n ∈ d.notes) : d.notes.filter (fun m => decide (m.id = n.id)) = [n] := by
  have h1 : (d.notes.filter fun m => decide (m.id = n.id)).Nodup := (notes_nodup h).sublist List.filter_sublist
  have h2 : ∀ m ∈ d.notes.filter (fun m => decide (m.id = n.id)), m = n := fun m hm => by
    rw [List.mem_filter, decide_eq_true_eq] at hm
    exact ids_uniq h hm.1 hn hm.2
  have h3 : n ∈ d.notes.filter (fun m => decide (m.id = n.id)) := by rw [List.mem_filter]; exact ⟨hn, by simp⟩
  generalize d.notes.filter (fun m => decide (m.id = n.id)) = l at h1 h2 h3
  match l, h1, h2, h3 with
  | [a], _, h2, _ => rw [h2 a (by simp)]
  | a :: b :: r, h1, h2, _ =>
    have := (List.nodup_cons.1 h1).1
    rw [h2 a (by simp), h2 b (by simp)] at this
    exact (this (by simp)).elim
theorem cnt_ids (l : List Nt) (i : Int) : cntI (idsOf l) i = (l.filter fun m => decide (m.id = i)).length := by
  unfold cntI idsOf
  rw [List.filter_map, List.length_map]; rfl
theorem cnt_filter {d : Dc} (h : Rgt d) {n : Nt} (hn : n ∈ d.notes) (p : Nt → Bool) : ((d.notes.filter p).filter fun m => decide (m.id = n.id)).length = if p n = true then 1 else 0 := by
  have : (d.notes.filter p).filter (fun m => decide (m.id = n.id)) = (d.notes.filter fun m => decide (m.id = n.id)).filter p := by
    rw [List.filter_filter, List.filter_filter]
    exact List.filter_congr fun m _ => Bool.and_comm _ _
  rw [this, one_id h hn]
  by_cases e : p n = true <;> simp [e]
theorem once_of {d : Dc} (h : Rgt d) {n : Nt} (hn : n ∈ d.notes) {t : Nat} (ht : t < d.tiers.length) : cntI (idsOf (ofP d t)) n.id = if n.tier = t then 1 else 0 := by
  have e : ofP d t = ofN d t := by unfold ofP; rw [if_pos ⟨by omega, by omega⟩, Int.toNat_natCast]
  rw [cnt_ids, e, ((of_perm h ht).filter _).length_eq]
  unfold ofT
  rw [cnt_filter h hn]
  simp
theorem once_kid {d : Dc} (h : Rgt d) {n : Nt} (hn : n ∈ d.notes) {t : Nat} (ht : t < d.tiers.length) : cntI (idsOf (kidsN d n.par t)) n.id = if n.tier = t then 1 else 0 := by
  rw [cnt_ids, kidsN, ((isort_perm _).filter _).length_eq, cnt_filter h hn]
  have : kidB d n.par t n = decide (n.tier = t) := by unfold kidB; simp [ht]
  rw [this]
  simp
theorem kids_len {d : Dc} (a b : Int) : (idsOf (kidsN d a b)).length ≤ d.notes.length := by
  rw [idsOf_length, kidsN, isort_length]; exact List.length_filter_le _ _
theorem ofs_len {d : Dc} (h : Rgt d) (a : Int) : (idsOf (ofP d a)).length ≤ d.notes.length := by
  rw [idsOf_length]
  unfold ofP
  split
  · exact of_length h (t := a.toNat) (by omega)
  · simp
set_option maxHeartbeats 4000000 in
theorem law_once (d : Dc) (h : d.lim) : PureR Tryd.prog 9 [docD d] (.bool true) := by
  have hl1 := h.notes
  have hl2 := h.tiers
  refine pure_of_body mixed Tryd.func9 rfl call_9 ?_
  by_cases h60 : 60 < d.notes.length
  · have h60' : (60 : Int) < d.notes.length := by omega
    simp (decide := true) [Tryd.f9, docD, Dc.row, int, notesD, h60, h60']
    refine ECall.pure (by rfl) awake12_R (by simp) ?_
    simp (decide := true)
  have h60' : ¬ (60 : Int) < d.notes.length := by omega
  simp (decide := true) [Tryd.f9, docD, Dc.row, int, notesD, h60, h60']
  refine ECall.pure (by rfl) (copyL_ok d h) (by simp (decide := true) [docD, Dc.row, int, notesD]) ?_
  simp (decide := true) [docD, Dc.row, int]
  refine ECall.pure (by rfl) (checkL_ok d h (by omega)) (by simp (decide := true) [docD, Dc.row, int, notesD]) ?_
  by_cases hc : checkE d = 0
  case neg =>
    simp (decide := true) [int, hc]
    refine ECall.pure (by rfl) awake12_R (by simp) ?_
    simp (decide := true)
  have hr := right_iff.1 hc
  simp (decide := true) [int, hc]
  refine loop_rule mixed (fun i : Nat => { n := 64, next := 1, slots := [(1, .bp 0 0), (3, .d (int i))], own := [(0, .box 32 (docCells d))] })
    (fun i => i ≤ d.notes.length) (fun i => d.notes.length - i) 0 (by simp) (by simp (decide := true) [int, ints, tiersD, notesD]) ?_
  intro i hi
  by_cases hil : i < d.notes.length
  case neg =>
    have hil' : ¬ (i : Int) < d.notes.length := by omega
    simp (decide := true) [int, notesD, hil']
    refine ECall.pure (by rfl) awake12_R (by simp) ?_
    simp (decide := true)
  have hil' : (i : Int) < d.notes.length := by omega
  obtain ⟨n, en'⟩ : ∃ n, d.notes[i] = n := ⟨_, rfl⟩
  have en : d.notes[i]? = some n := by rw [List.getElem?_eq_getElem hil, en']
  have hn : n ∈ d.notes := by rw [← en']; exact List.getElem_mem hil
  simp (decide := true) [int, notesD, Nt.row, hil, hil', en, en']
  refine loop_rule mixed (fun t : Nat => { n := 64, next := 2, slots := [(1, .bp 0 0), (3, .d (int i)), (4, .bp 1 0), (5, .d (int t))], own := [(0, .box 32 (docCells d)), (1, .box 39 (noteCells n))] })
    (fun t => t ≤ d.tiers.length) (fun t => d.tiers.length - t) 0 (by simp) (by simp (decide := true) [int, ints, tiersD, notesD]) ?_
  intro t ht
  by_cases htl : t < d.tiers.length
  case neg =>
    have htl' : ¬ (t : Int) < d.tiers.length := by omega
    simp (decide := true) [int, tiersD, htl', I64]
    exact ⟨by omega, i + 1, hil, by omega, by omega⟩
  have htl' : (t : Int) < d.tiers.length := by omega
  have o1 := once_of hr hn htl
  have o2 := once_kid hr hn htl
  have c1 := count_ok (idsOf (ofP d t)) n.id (by have := ofs_len hr t; omega)
  have c2 := count_ok (idsOf (kidsN d n.par t)) n.id (by have := kids_len (d := d) n.par t; omega)
  rw [o1] at c1
  rw [o2] at c2
  have hof := ofA_all hr t
  have hkd := kidsA_ok hr n.par t
  generalize idsOf (ofP d t) = lo at c1 hof
  generalize idsOf (kidsN d n.par t) = lk at c2 hkd
  by_cases hnt : n.tier = t
  · rw [if_pos hnt] at c1 c2
    simp (decide := true) [int, tiersD, Nt.row, htl', hnt]
    refine scall_pure (by rfl) (by rfl) (copyL_ok d h) (by simp (decide := true) [docD, Dc.row, int, tiersD, notesD]) ?_
    simp (decide := true) [int]
    refine scall_pure (by rfl) (by rfl) hof (by simp (decide := true) [docD, Dc.row]) ?_
    simp (decide := true) [int, ints]
    refine scall_pure (by rfl) (by rfl) c1 (by simp (decide := true) [int, ints]) ?_
    simp (decide := true) [int, ints]
    refine scall_pure (by rfl) (by rfl) (copyL_ok d h) (by simp (decide := true) [docD, Dc.row, int, tiersD, notesD]) ?_
    simp (decide := true) [int]
    refine scall_pure (by rfl) (by rfl) hkd (by simp (decide := true) [docD, Dc.row, int]) ?_
    simp (decide := true) [int, ints]
    refine scall_pure (by rfl) (by rfl) c2 (by simp (decide := true) [int, ints]) ?_
    simp (decide := true) [int, ints, I64]
    exact ⟨by omega, t + 1, htl, by omega, by omega⟩
  · rw [if_neg hnt] at c1 c2
    simp (decide := true) [int, tiersD, Nt.row, htl', hnt]
    refine scall_pure (by rfl) (by rfl) (copyL_ok d h) (by simp (decide := true) [docD, Dc.row, int, tiersD, notesD]) ?_
    simp (decide := true) [int]
    refine scall_pure (by rfl) (by rfl) hof (by simp (decide := true) [docD, Dc.row]) ?_
    simp (decide := true) [int, ints]
    refine scall_pure (by rfl) (by rfl) c1 (by simp (decide := true) [int, ints]) ?_
    simp (decide := true) [int, ints]
    refine scall_pure (by rfl) (by rfl) (copyL_ok d h) (by simp (decide := true) [docD, Dc.row, int, tiersD, notesD]) ?_
    simp (decide := true) [int]
    refine scall_pure (by rfl) (by rfl) hkd (by simp (decide := true) [docD, Dc.row, int]) ?_
    simp (decide := true) [int, ints]
    refine scall_pure (by rfl) (by rfl) c2 (by simp (decide := true) [int, ints]) ?_
    simp (decide := true) [int, ints, I64]
    exact ⟨by omega, t + 1, htl, by omega, by omega⟩
end Go.V
