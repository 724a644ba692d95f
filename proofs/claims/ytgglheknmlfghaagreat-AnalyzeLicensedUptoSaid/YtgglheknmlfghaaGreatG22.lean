/- Contracts of chapters 1 and 22: Put, Sorted, the check of a rule, by the reference. -/
import Derived.Test.YtgglheknmlfghaaGreatG21
set_option linter.unusedSimpArgs false
set_option linter.unusedVariables false
set_option maxRecDepth 10000
namespace Go.V
open Go Go.Proofs

/-- As far as the numbers are less. -/
def lessN (l : List Int) (n : Int) : Nat := (l.takeWhile fun x => decide (x < n)).length
def putL (l : List Int) (n : Int) : List Int := l.take (lessN l n) ++ [n] ++ (if l[lessN l n]? = some n then l.drop (lessN l n + 1) else l.drop (lessN l n))
theorem lessN_is {l : List Int} {n : Int} {k : Nat} (hk : k ≤ l.length) (h1 : ∀ x ∈ l.take k, x < n) (h2 : ∀ h : k < l.length, ¬ l[k] < n) : lessN l n = k := by
  unfold lessN
  have e : l = l.take k ++ l.drop k := (List.take_append_drop k l).symm
  have h3 : (l.takeWhile fun x => decide (x < n)) = l.take k := by
    conv => lhs; rw [e]
    rw [List.takeWhile_append_of_pos (by intro a ha; simpa using h1 a ha)]
    by_cases hl : k < l.length
    · rw [List.drop_eq_getElem_cons hl, List.takeWhile_cons_of_neg (by simpa using h2 hl), List.append_nil]
    · rw [List.drop_eq_nil_of_le (by omega)]; simp
  rw [h3, List.length_take]; omega
set_option maxHeartbeats 4000000 in
theorem put_ok (l : List Int) (n : Int) (hl : l.length < 2^40) : PureR Tryz.prog 172 [ints l, int n] (ints (putL l n)) := by
  refine pure_of_body_frz mixed Tryz.func172 rfl call_172 [1] ?_
  simp (decide := true) [Tryz.f172, int, ints]
  refine loop_rule mixed (fun k : Nat => { n := 51, next := 2, slots := [(0, .d (ints l)), (1, .d (int n)), (5, .ar 1), (6, .d (int k))], own := [(1, .arr 3 1 ((l.take k).map fun x => [int x]))], moved := [1] })
    (fun k => k ≤ l.length ∧ ∀ x ∈ l.take k, x < n) (fun k => l.length - k) 0 (by simp) (by simp (decide := true) [int, ints]) ?_
  rintro k ⟨hk, hp⟩
  have hkl : (l.take k).length = k := by rw [List.length_take]; omega
  by_cases hlt : k < l.length
  · have hlt' : (k : Int) < l.length := by omega
    have em : l[k]? = some l[k] := List.getElem?_eq_getElem hlt
    by_cases hx : l[k] < n
    · simp (decide := true) [int, ints, hlt, hlt', em, hx, I64]
      refine ⟨by omega, by unfold maxLen; omega, ⟨by omega, by omega⟩, k + 1, ⟨hlt, fun x hx2 => ?_⟩, by omega, by omega, ?_⟩
      · rw [take_snocG hlt] at hx2
        rcases List.mem_append.1 hx2 with h | h
        · exact hp x h
        · rw [List.mem_singleton] at h; rw [h]; exact hx
      · rw [take_snocG (by rw [List.length_map]; exact hlt), List.getElem_map]
    · have hE : putL l n = l.take k ++ [n] ++ (if l[k]? = some n then l.drop (k + 1) else l.drop k) := by
        unfold putL
        rw [lessN_is hk hp fun _ => hx]
      rw [hE, em]
      by_cases hy : l[k] = n
      · rw [if_pos (by rw [hy])]
        simp (decide := true) [int, ints, hlt, hlt', em, hx, hy, I64]
        refine ⟨by omega, by unfold maxLen; omega, ⟨by omega, by omega⟩, ⟨by omega, by omega⟩, fun r hr => ?_, by omega, by unfold maxLen; omega, ?_⟩
        · have := List.mem_of_mem_take (List.mem_of_mem_drop hr)
          rw [List.mem_map] at this
          obtain ⟨z, _, rfl⟩ := this; rfl
        · rw [List.take_of_length_le (by simp)]
      · rw [if_neg (by simpa using hy)]
        simp (decide := true) [int, ints, hlt, hlt', em, hx, hy, I64]
        refine ⟨by omega, by unfold maxLen; omega, by omega, fun r hr => ?_, by omega, by unfold maxLen; omega, ?_⟩
        · have := List.mem_of_mem_take (List.mem_of_mem_drop hr)
          rw [List.mem_map] at this
          obtain ⟨z, _, rfl⟩ := this; rfl
        · rw [List.take_of_length_le (by simp)]
  · have : k = l.length := by omega
    subst this
    have hE : putL l n = l.take l.length ++ [n] ++ [] := by
      unfold putL
      rw [lessN_is hk hp fun h => absurd h (by omega)]
      simp
    rw [hE]
    simp (decide := true) [int, ints, I64]
    exact ⟨by omega, by unfold maxLen; omega, by omega, by unfold maxLen; omega⟩
theorem lessN_le (l : List Int) (n : Int) : lessN l n ≤ l.length := (List.takeWhile_sublist _).length_le
theorem takeW_mem {p : Int → Bool} : ∀ {l : List Int} {x : Int}, x ∈ l.takeWhile p → p x = true
  | [], x, h => by cases h
  | a :: r, x, h => by
    by_cases e : p a = true
    · rw [List.takeWhile_cons_of_pos e] at h
      rcases List.mem_cons.1 h with rfl | h
      · exact e
      · exact takeW_mem h
    · rw [List.takeWhile_cons_of_neg e] at h; cases h
theorem lessN_take (l : List Int) (n : Int) : ∀ x ∈ l.take (lessN l n), x < n := by
  intro x hx
  have : l.take (lessN l n) = l.takeWhile fun x => decide (x < n) := by
    unfold lessN
    have := List.takeWhile_prefix (l := l) fun x => decide (x < n)
    exact (List.prefix_iff_eq_take.1 this).symm
  rw [this] at hx
  simpa using takeW_mem hx
theorem lessN_stop {l : List Int} {n : Int} (h : lessN l n < l.length) : ¬ l[lessN l n] < n := by
  intro hx
  have e1 : (l.takeWhile fun x => decide (x < n)) ++ (l.dropWhile fun x => decide (x < n)) = l := List.takeWhile_append_dropWhile
  cases hd : l.dropWhile fun x => decide (x < n) with
  | nil =>
    rw [hd, List.append_nil] at e1
    have : lessN l n = l.length := by unfold lessN; rw [e1]
    omega
  | cons y r =>
    have hy := List.head_dropWhile_not (fun x => decide (x < n)) (by rw [hd]; simp : l.dropWhile (fun x => decide (x < n)) ≠ [])
    simp only [hd, List.head_cons, decide_eq_false_iff_not] at hy
    have e0 : ∀ A B : List Int, B = y :: r → (A ++ B)[A.length]? = some y := by
      intro A B h
      rw [h, List.getElem?_append_right (Nat.le_refl _), Nat.sub_self]; rfl
    have e3 := e0 (l.takeWhile fun x => decide (x < n)) _ hd
    rw [e1] at e3
    change l[lessN l n]? = some y at e3
    rw [List.getElem?_eq_getElem h] at e3
    have := Option.some.inj e3
    rw [this] at hx
    exact hy hx
theorem putL_rest {l : List Int} (hs : l.Pairwise fun x y => x < y) (n : Int) : ∀ x, x ∈ (if l[lessN l n]? = some n then l.drop (lessN l n + 1) else l.drop (lessN l n)) ↔ x ∈ l ∧ n < x := by
  intro x
  have hpw := List.pairwise_iff_getElem.1 hs
  have hmem : x ∈ l → n < x → x ∈ l.drop (lessN l n) := fun hx hn => by
    have hx' := hx
    rw [← List.take_append_drop (lessN l n) l] at hx'
    rcases List.mem_append.1 hx' with h | h
    · have := lessN_take l n x h; omega
    · exact h
  by_cases hlt : lessN l n < l.length
  · have hst := lessN_stop hlt
    have hge : ∀ y ∈ l.drop (lessN l n + 1), l[lessN l n] < y := fun y hy => by
      obtain ⟨i, hi, rfl⟩ := List.mem_iff_getElem.1 hy
      rw [List.length_drop] at hi
      rw [List.getElem_drop]
      exact hpw _ _ hlt (by omega) (by omega)
    rw [List.getElem?_eq_getElem hlt]
    by_cases e : l[lessN l n] = n
    · rw [if_pos (by rw [e])]
      constructor
      · intro hx
        have := hge x hx
        exact ⟨List.mem_of_mem_drop hx, by omega⟩
      · rintro ⟨hx, hn⟩
        have := hmem hx hn
        rw [List.drop_eq_getElem_cons hlt] at this
        rcases List.mem_cons.1 this with h | h
        · omega
        · exact h
    · rw [if_neg (by simpa using e)]
      constructor
      · intro hx
        refine ⟨List.mem_of_mem_drop hx, ?_⟩
        rw [List.drop_eq_getElem_cons hlt] at hx
        rcases List.mem_cons.1 hx with h | h
        · omega
        · have := hge x h; omega
      · rintro ⟨hx, hn⟩; exact hmem hx hn
  · have hd : l.drop (lessN l n) = [] := List.drop_eq_nil_of_le (by omega)
    rw [List.getElem?_eq_none (by omega), if_neg (by simp), hd]
    constructor
    · intro h; cases h
    · rintro ⟨hx, hn⟩
      have := hmem hx hn
      rwa [hd] at this
theorem putL_mem {l : List Int} (hs : l.Pairwise fun x y => x < y) {n x : Int} : x ∈ putL l n ↔ x = n ∨ x ∈ l := by
  unfold putL
  rw [List.mem_append, List.mem_append, List.mem_singleton, putL_rest hs]
  constructor
  · rintro ((h | h) | h)
    · exact .inr (List.mem_of_mem_take h)
    · exact .inl h
    · exact .inr h.1
  · rintro (h | h)
    · exact .inl (.inr h)
    · rcases Int.lt_trichotomy x n with q | q | q
      · have h' := h
        rw [← List.take_append_drop (lessN l n) l] at h'
        rcases List.mem_append.1 h' with h2 | h2
        · exact .inl (.inl h2)
        · exfalso
          have hpw := List.pairwise_iff_getElem.1 hs
          obtain ⟨i, hi, rfl⟩ := List.mem_iff_getElem.1 h2
          rw [List.length_drop] at hi
          rw [List.getElem_drop] at q
          have hst := lessN_stop (l := l) (n := n) (by omega)
          rcases Nat.eq_zero_or_pos i with rfl | hi0
          · exact hst q
          · have := hpw (lessN l n) (lessN l n + i) (by omega) (by omega) (by omega)
            omega
      · exact .inl (.inr q)
      · exact .inr ⟨h, q⟩
theorem putL_sorted {l : List Int} (hs : l.Pairwise fun x y => x < y) (n : Int) : (putL l n).Pairwise fun x y => x < y := by
  unfold putL
  rw [List.pairwise_append, List.pairwise_append]
  have hA := lessN_take l n
  have hB := fun x => (putL_rest hs n x).1
  refine ⟨⟨hs.sublist (List.take_sublist _ _), by simp, fun a ha b hb => ?_⟩, ?_, fun a ha b hb => ?_⟩
  · rw [List.mem_singleton] at hb; rw [hb]; exact hA a ha
  · split
    · exact hs.sublist (List.drop_sublist _ _)
    · exact hs.sublist (List.drop_sublist _ _)
  · have h1 := (hB b hb).2
    rcases List.mem_append.1 ha with h | h
    · have := hA a h; omega
    · rw [List.mem_singleton] at h; omega

def sortL (l : List Int) : List Int := l.foldl putL []
theorem sortL_snoc (l : List Int) (n : Int) : sortL (l ++ [n]) = putL (sortL l) n := by unfold sortL; rw [List.foldl_append]; rfl
theorem putL_len {l : List Int} (hs : l.Pairwise fun x y => x < y) (n : Int) : (putL l n).length = l.length + (if n ∈ l then 0 else 1) := by
  have hle := lessN_le l n
  have hin : n ∈ l ↔ l[lessN l n]? = some n := by
    constructor
    · intro hm
      obtain ⟨k, hk, ek⟩ := List.mem_iff_getElem.1 hm
      have hpw := List.pairwise_iff_getElem.1 hs
      have : lessN l n = k := by
        refine lessN_is (Nat.le_of_lt hk) (fun x hx => ?_) (fun h => by rw [ek]; omega)
        obtain ⟨i, hi, rfl⟩ := List.mem_iff_getElem.1 hx
        rw [List.length_take] at hi
        rw [List.getElem_take, ← ek]
        exact hpw i k (by omega) hk (by omega)
      rw [this, List.getElem?_eq_getElem hk, ek]
    · intro h; exact List.mem_of_getElem? h
  unfold putL
  by_cases h : l[lessN l n]? = some n
  · rw [if_pos h, if_pos (hin.2 h)]
    have : lessN l n < l.length := by
      rcases Nat.lt_or_ge (lessN l n) l.length with h' | h'
      · exact h'
      · rw [List.getElem?_eq_none h'] at h; cases h
    simp; omega
  · rw [if_neg h, if_neg (fun h' => h (hin.1 h'))]
    simp; omega
theorem sortL_facts : ∀ (m : Nat) (l : List Int), l.length = m → (sortL l).Pairwise (fun x y => x < y) ∧ (∀ x, x ∈ sortL l ↔ x ∈ l) ∧ (sortL l).length ≤ l.length ∧ ((sortL l).length = l.length → l.Nodup)
  | 0, l, h => by
    have : l = [] := List.length_eq_zero_iff.mp h
    subst this
    exact ⟨List.Pairwise.nil, fun x => Iff.rfl, Nat.le_refl _, fun _ => List.nodup_nil⟩
  | m + 1, l, h => by
    have hne : l ≠ [] := by intro e; subst e; cases h
    obtain ⟨a, n, rfl⟩ : ∃ a n, l = a ++ [n] := ⟨l.dropLast, l.getLast hne, (List.dropLast_concat_getLast hne).symm⟩
    have hm : a.length = m := by simpa using h
    obtain ⟨h1, h2, h3, h4⟩ := sortL_facts m a hm
    rw [sortL_snoc]
    have hl := putL_len h1 n
    refine ⟨putL_sorted h1 n, fun x => ?_, ?_, fun he => ?_⟩
    · rw [putL_mem h1, h2, List.mem_append, List.mem_singleton]
      exact Or.comm
    · rw [hl, List.length_append]; split <;> simp <;> omega
    · rw [hl, List.length_append] at he
      simp only [List.length_singleton] at he
      by_cases hn : n ∈ sortL a
      · rw [if_pos hn] at he; omega
      · rw [if_neg hn] at he
        rw [List.nodup_append]
        refine ⟨h4 (by omega), by simp, fun x hx y hy => ?_⟩
        rw [List.mem_singleton] at hy
        subst hy
        intro e; subst e
        exact hn ((h2 x).2 hx)
theorem sortL_nodup {l : List Int} (h : (sortL l).length = l.length) : l.Nodup := (sortL_facts _ l rfl).2.2.2 h
theorem sortL_len (l : List Int) : (sortL l).length ≤ l.length := (sortL_facts _ l rfl).2.2.1
set_option maxHeartbeats 4000000 in
theorem sorted_ok (l : List Int) (hl : l.length < 2^40) : PureR Tryz.prog 152 [ints l] (ints (sortL l)) := by
  refine pure_of_body mixed Tryz.func152 rfl call_152 ?_
  simp (decide := true) [Tryz.f152, int, ints]
  refine triple_frz [1] ?_
  refine loop_rule mixed (fun k : Nat => { n := 18, next := 2, slots := [(0, .d (ints l)), (3, .d (ints (sortL (l.take k)))), (6, .d (int l.length)), (7, .d (int k))], own := [], moved := [] })
    (fun k => k ≤ l.length) (fun k => l.length - k) 0 (by simp) (by simp (decide := true) [int, ints, sortL]) ?_
  intro k hk
  by_cases hlt : k < l.length
  case neg =>
    have : k = l.length := by omega
    subst this
    rw [List.take_length]
    simp (decide := true) [int, ints]
  have hlt' : (k : Int) < l.length := by omega
  have hsn : sortL (l.take (k + 1)) = putL (sortL (l.take k)) l[k] := by rw [take_snocG hlt, sortL_snoc]
  have hsl := sortL_len (l.take k)
  rw [List.length_take] at hsl
  obtain ⟨n, en⟩ : ∃ n, l[k] = n := ⟨_, rfl⟩
  have e1 : l[k]? = some n := by rw [List.getElem?_eq_getElem hlt, en]
  rw [en] at hsn
  have hP := put_ok (sortL (l.take k)) n (by omega)
  rw [← hsn] at hP
  simp (decide := true) [int, ints, hlt, hlt', e1, en]
  refine ECall.pure (by rfl) hP (by simp [int, ints]) ?_
  simp (decide := true) [int, ints]
  exact ⟨⟨by omega, by omega⟩, k + 1, hlt, by omega, rfl, by omega⟩
def segBad (inv : List Phon) (r : Rule) (k : Nat) : Bool := !(isSeg inv (r.src[k]?.getD 0)) || (decide (r.dst[k]?.getD 0 ≠ 0) && !(isSeg inv (r.dst[k]?.getD 0)))
def ruleC (inv : List Phon) (r : Rule) : Int :=
  if r.src.length = 0 ∨ r.dst.length ≠ r.src.length then 1 else if ((List.range r.src.length).any fun k => segBad inv r k) = true then 19
  else if (sortL r.src).length ≠ r.src.length then 8 else if 2 < r.left.length ∨ 2 < r.right.length then 5 else 0
set_option maxHeartbeats 8000000 in
theorem check22_ok (inv : List Phon) (r : Rule) (hs : r.src.length ≤ 1048576) (hd : r.dst.length ≤ 1048576) : PureR Tryz.prog 116 [.agg [invD inv], .agg r.row] (int (ruleC inv r)) := by
  obtain ⟨src, dst, left, right, beg, fin⟩ := r
  simp only at hs hd
  have hS := sorted_ok src (by omega)
  refine pure_of_body mixed Tryz.func116 rfl call_116 ?_
  obtain ⟨R, hR⟩ : ∃ R, ruleC inv ⟨src, dst, left, right, beg, fin⟩ = R := ⟨_, rfl⟩
  rw [hR]
  unfold ruleC at hR
  simp only at hR
  by_cases h0 : src.length = 0
  · have : R = 1 := by rw [← hR, if_pos (.inl h0)]
    subst this
    have h0' : (src.length : Int) = 0 := by omega
    simp (decide := true) [Tryz.f116, int, ints, Rule.row, h0, h0']
    done
  have h0' : ¬ (src.length : Int) = 0 := by omega
  by_cases h1 : dst.length = src.length
  case neg =>
    have : R = 1 := by rw [← hR, if_pos (.inr h1)]
    subst this
    have h1' : ¬ (dst.length : Int) = src.length := by omega
    simp (decide := true) [Tryz.f116, int, ints, Rule.row, h0, h0', h1, h1']
    done
  have h1' : (dst.length : Int) = src.length := by omega
  rw [if_neg (by rintro (h | h); exact h0 h; exact h h1)] at hR
  simp (decide := true) [Tryz.f116, int, ints, Rule.row, h0, h0', h1, h1']
  refine loop_rule mixed (fun k : Nat => { n := 70, next := 2, slots := [(2, .bp 0 0), (3, .bp 1 0), (21, .d (int src.length)), (22, .d (int k))], own := [(0, .box 24 [.d (invD inv)]), (1, .box 77 [.d (ints src), .d (ints dst), .d (clsD left), .d (clsD right), .d (.bool beg), .d (.bool fin)])] })
    (fun k => k ≤ src.length ∧ ∀ j, j < k → segBad inv ⟨src, dst, left, right, beg, fin⟩ j = false) (fun k => src.length - k) 0 (by simp) (by simp (decide := true) [int, ints]) ?_
  intro k ⟨hk, hp⟩
  by_cases hlt : k < src.length
  · have hlt' : (k : Int) < src.length := by omega
    have hld : k < dst.length := by omega
    have hld' : (k : Int) < dst.length := by omega
    obtain ⟨x, ex⟩ : ∃ x, src[k] = x := ⟨_, rfl⟩
    obtain ⟨y, ey⟩ : ∃ y, dst[k] = y := ⟨_, rfl⟩
    have ex1 : src[k]? = some x := by rw [List.getElem?_eq_getElem hlt, ex]
    have ey1 : dst[k]? = some y := by rw [List.getElem?_eq_getElem hld, ey]
    have hI := refIs_ok inv x
    have hJ := refIs_ok inv y
    have hsb : segBad inv ⟨src, dst, left, right, beg, fin⟩ k = (!(isSeg inv x) || (decide (y ≠ 0) && !(isSeg inv y))) := by unfold segBad; simp only; rw [ex1, ey1]; rfl
    have hbad : segBad inv ⟨src, dst, left, right, beg, fin⟩ k = true → R = 19 := by
      intro h
      rw [← hR, if_pos (List.any_eq_true.2 ⟨k, List.mem_range.2 hlt, h⟩)]
    have hgood : segBad inv ⟨src, dst, left, right, beg, fin⟩ k = false → ∀ j, j < k + 1 → segBad inv ⟨src, dst, left, right, beg, fin⟩ j = false := by
      intro h j hj
      rcases Nat.lt_succ_iff_lt_or_eq.mp hj with h' | h'
      · exact hp j h'
      · rw [h']; exact h
    rw [hsb] at hbad hgood
    simp (decide := true) [int, ints, hlt, hlt', ex, ex1]
    refine scall_pure (by rfl) (by rfl) hI (by simp [int]) ?_
    cases hx : isSeg inv x with
    | false =>
      rw [hx] at hbad
      have := hbad rfl
      subst this
      simp (decide := true) [int]
    | true =>
      rw [hx] at hbad hgood
      by_cases hy : y = 0
      · rw [decide_eq_false (by simpa using hy)] at hgood
        have hg := hgood rfl
        simp (decide := true) [int, ints, hlt, hlt', hld, hld', ex, ex1, ey, ey1, hy, I64]
        exact ⟨⟨by omega, by omega⟩, k + 1, ⟨hlt, hg⟩, by omega, by omega⟩
      · rw [decide_eq_true (by simpa using hy)] at hgood hbad
        simp (decide := true) [int, ints, hlt, hlt', hld, hld', ex, ex1, ey, ey1, hy, I64]
        refine scall_pure (by rfl) (by rfl) hJ (by simp [int]) ?_
        cases hz : isSeg inv y with
        | false =>
          rw [hz] at hbad
          have := hbad rfl
          subst this
          simp (decide := true) [int]
        | true =>
          rw [hz] at hgood
          have hg := hgood rfl
          simp (decide := true) [int, I64]
          exact ⟨⟨by omega, by omega⟩, k + 1, ⟨hlt, hg⟩, by omega, by omega⟩
  · have : k = src.length := by omega
    subst this
    have hany : ((List.range src.length).any fun k => segBad inv ⟨src, dst, left, right, beg, fin⟩ k) = false := by
      rw [List.any_eq_false]
      intro j hj
      rw [hp j (List.mem_range.1 hj)]; decide
    rw [if_neg (by rw [hany]; decide)] at hR
    simp (decide := true) [int, ints]
    refine scall_pure (by rfl) (by rfl) hS (by simp [int, ints]) ?_
    by_cases hn : (sortL src).length = src.length
    · have hn' : ((sortL src).length : Int) = src.length := by omega
      rw [if_neg (by simpa using hn)] at hR
      by_cases hl : 2 < left.length
      · have hl' : (2 : Int) < left.length := by omega
        rw [if_pos (.inl hl)] at hR
        subst hR
        simp (decide := true) [int, ints, clsD, hn, hn', hl, hl']
      · have hl' : ¬ (2 : Int) < left.length := by omega
        by_cases hr : 2 < right.length
        · have hr' : (2 : Int) < right.length := by omega
          rw [if_pos (.inr hr)] at hR
          subst hR
          simp (decide := true) [int, ints, clsD, hn, hn', hl, hl', hr, hr']
        · have hr' : ¬ (2 : Int) < right.length := by omega
          rw [if_neg (by rintro (h | h); exact hl h; exact hr h)] at hR
          subst hR
          simp (decide := true) [int, ints, clsD, hn, hn', hl, hl', hr, hr']
    · have hn' : ¬ ((sortL src).length : Int) = src.length := by omega
      rw [if_pos (by simpa using hn)] at hR
      subst hR
      simp (decide := true) [int, ints, clsD, hn, hn']
theorem ruleC_zero {inv : List Phon} {r : Rule} (h : ruleC inv r = 0) (hs : r.src.length ≤ 1048576) : RuleL r := by
  unfold ruleC at h
  split at h
  · cases h
  rename_i h1
  split at h
  · cases h
  split at h
  · cases h
  rename_i h3
  split at h
  · cases h
  rename_i h4
  have h1' : r.dst.length = r.src.length := Classical.byContradiction fun e => h1 (.inr e)
  have h3' : (sortL r.src).length = r.src.length := Classical.byContradiction fun e => h3 e
  exact { src := by omega, left := by omega, right := by omega, dst := h1', once := sortL_nodup h3' }
structure RulesC (rs : List Rule) : Prop where
  few : rs.length ≤ 1048576
  each : ∀ r ∈ rs, r.src.length ≤ 1048576 ∧ r.dst.length ≤ 1048576
set_option maxHeartbeats 4000000 in
theorem rules29_ok (g : Lang) (hr : RulesC g.rules) : PureE Tryz.prog 76 [g.d] (fun x => ∃ e, x = int e ∧ (e = 0 → ∀ r ∈ g.rules, RuleL r)) := by
  have hfew := hr.few
  refine some_of_body mixed Tryz.func76 rfl call_76 ?_
  by_cases h0 : (12 : Int) < g.rules.length
  · simp (decide := true) [Tryz.f76, Lang.d, int, rulesD, h0]
  simp (decide := true) [Tryz.f76, Lang.d, int, rulesD, h0]
  refine loop_rule mixed (fun k : Nat => { n := 27, next := 1, slots := [(1, .bp 0 0), (3, .d (int k))], own := [(0, .box 36 (unAgg g.d))] })
    (fun k => k ≤ g.rules.length ∧ ∀ r ∈ g.rules.take k, RuleL r) (fun k => g.rules.length - k) 0 (by simp) (by simp (decide := true) [int, rulesD, unAgg, Lang.d]) ?_
  intro k ⟨hk, hp⟩
  by_cases hlt : k < g.rules.length
  · have hlt' : (k : Int) < g.rules.length := by omega
    have he := hr.each g.rules[k] (List.getElem_mem hlt)
    obtain ⟨r, er⟩ : ∃ r, g.rules[k] = r := ⟨_, rfl⟩
    have er1 : g.rules[k]? = some r := by rw [List.getElem?_eq_getElem hlt, er]
    have hsn := take_snocG hlt
    rw [er] at he hsn
    have hC := check22_ok g.inv r he.1 he.2
    simp (decide := true) [int, rulesD, unAgg, Lang.d, hlt, hlt', er, er1, Rule.row]
    refine scall_pure (by rfl) (by rfl) hC (by simp [int, Rule.row]) ?_
    by_cases hz : ruleC g.inv r = 0
    · rw [hz]
      simp (decide := true) [int, I64, unAgg, Lang.d, rulesD]
      refine ⟨⟨by omega, by omega⟩, k + 1, ⟨hlt, fun x hx => ?_⟩, by omega, by omega⟩
      rw [hsn] at hx
      rcases List.mem_append.1 hx with h | h
      · exact hp x h
      · rw [List.mem_singleton] at h; rw [h]; exact ruleC_zero hz he.1
    · simp (decide := true) [int, hz]
  · have : k = g.rules.length := by omega
    subst this
    rw [List.take_length] at hp
    simp (decide := true) [int, rulesD, unAgg, Lang.d]
    exact hp
end Go.V
