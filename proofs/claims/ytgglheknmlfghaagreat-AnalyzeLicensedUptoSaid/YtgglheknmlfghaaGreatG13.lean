/- Contracts of chapter 23: set, after, both, run and Accepts of the reference, over sets as numbers. -/
import Derived.Test.YtgglheknmlfghaaGreatG12
set_option linter.unusedSimpArgs false
set_option linter.unusedVariables false
set_option maxRecDepth 10000
namespace Go.V
open Go Go.Proofs

/-- A set as a list of marks. -/
def bls (S m : Nat) : List Bool := (List.range S).map fun q => m.testBit q
def boolsD (l : List Bool) : D := .sl (l.map fun b => [.bool b])
@[simp] theorem bls_len (S m : Nat) : (bls S m).length = S := by simp [bls]
theorem bls_get {S m q : Nat} (h : q < S) : (bls S m)[q]? = some (m.testBit q) := by simp [bls, h]
theorem bls_el {S m q : Nat} (h : q < (bls S m).length) : (bls S m)[q] = m.testBit q := by simp [bls]
theorem bls_zero (S : Nat) : bls S 0 = List.replicate S false := by
  apply List.ext_getElem <;> simp [bls]
theorem testBit_with (m q j : Nat) : (m ||| (1 <<< q)).testBit j = (m.testBit j || decide (q = j)) := by
  rw [Nat.testBit_or, Nat.one_shiftLeft, Nat.testBit_two_pow]
theorem bls_set {S m q : Nat} (h : q < S) : (bls S m).set q true = bls S (withS m (q : Int)) := by
  apply List.ext_getElem
  · simp
  · intro i h1 h2
    have hi : i < S := by simpa using h2
    rw [List.getElem_set]
    unfold withS
    simp only [bls, List.getElem_map, List.getElem_range, Int.toNat_natCast, testBit_with]
    by_cases e : q = i
    · subst e; simp
    · simp [e]
/-- A net as it is in a light language. -/
structure NetL (n : Nett) : Prop where
  lo : 1 ≤ n.states
  hi : n.states ≤ 3
  steps : ∀ s ∈ n.steps, (0 ≤ s.src ∧ s.src < n.states) ∧ (0 ≤ s.dst ∧ s.dst < n.states) ∧ 1 ≤ s.cls
  final : ∀ q ∈ n.final, 0 ≤ q ∧ q < n.states
  few : n.steps.length < 2^40
  few2 : n.final.length < 2^40
theorem NetL.ok {n : Nett} (h : NetL n) : NetOk n := by
  refine ⟨fun s hs => ?_, fun q hq => ?_, h.few, h.few2⟩
  · have := h.steps s hs; have := h.hi; omega
  · have := h.final q hq; have := h.hi; omega
set_option maxHeartbeats 4000000 in
theorem set23_ok (n : Nett) (hn : NetL n) (l : List Int) (hl : ∀ q ∈ l, 0 ≤ q ∧ q < n.states) (hlen : l.length < 2^40) :
    PureR Tryz.prog 159 [.agg n.cells, ints l] (boolsD (bls n.states.toNat (finalS l))) := by
  have h1 := hn.lo
  have h3 := hn.hi
  refine pure_of_body mixed Tryz.func159 rfl call_159 ?_
  simp (decide := true) [Tryz.f159, Nett.cells, int, ints]
  refine ⟨by omega, by omega, by unfold maxLen; omega, ?_⟩
  refine loop_rule mixed (fun k : Nat => { n := 23, next := 3, slots := [(1, .d (ints l)), (5, .ar 2), (6, .d (int k))], own := [(2, .arr 4 1 ((bls n.states.toNat (finalS (l.take k))).map fun b => [.bool b]))], moved := [] })
    (fun k => k ≤ l.length) (fun k => l.length - k) 0 (by simp) (by simp (decide := true) [int, ints, finalS, bls_zero]) ?_
  intro k hk
  by_cases hlt : k < l.length
  case neg =>
    have : k = l.length := by omega
    subst this
    rw [List.take_length]
    simp (decide := true) [int, ints, boolsD]
  have hlt' : (k : Int) < l.length := by omega
  have hq := hl l[k] (List.getElem_mem hlt)
  have hsn : finalS (l.take (k + 1)) = withS (finalS (l.take k)) l[k] := by unfold finalS; rw [take_snocG hlt, List.foldl_append]; rfl
  obtain ⟨q, eq⟩ : ∃ q, l[k] = q := ⟨_, rfl⟩
  have e1 : l[k]? = some q := by rw [List.getElem?_eq_getElem hlt, eq]
  rw [eq] at hq hsn
  have hst := bls_set (S := n.states.toNat) (m := finalS (l.take k)) (q := q.toNat) (by omega)
  rw [show ((q.toNat : Nat) : Int) = q by omega, ← hsn] at hst
  have hgt := bls_get (S := n.states.toNat) (m := finalS (l.take k)) (q := q.toNat) (by omega)
  have hms : (List.map (fun b => [D.bool b]) (bls n.states.toNat (finalS (l.take k)))).set q.toNat [D.bool true] = List.map (fun b => [D.bool b]) (bls n.states.toNat (finalS (l.take (k + 1)))) := by
    rw [← hst, List.map_set]
  simp (decide := true) [int, ints, hlt, hlt', e1, eq, hq.1, hq.2, hgt]
  exact ⟨by omega, by omega, ⟨by omega, by omega⟩, k + 1, hlt, by omega, by omega, hms⟩
/-- One step of a class (0: of any class), by the reference. -/
def takeStepR (m : Nat) (c : Int) (out : Nat) (s : Stp) : Nat := if hasS m s.src = true ∧ (c = 0 ∨ s.cls = c) then withS out s.dst else out
def afterR (l : List Stp) (m : Nat) (c : Int) : Nat := l.foldl (takeStepR m c) 0
set_option maxHeartbeats 4000000 in
theorem after23_ok (n : Nett) (hn : NetL n) (m : Nat) (c : Int) :
    PureR Tryz.prog 162 [.agg n.cells, boolsD (bls n.states.toNat m), int c] (boolsD (bls n.states.toNat (afterR n.steps m c))) := by
  have h1 := hn.lo
  have h3 := hn.hi
  have hfew := hn.few
  refine pure_of_body mixed Tryz.func162 rfl call_162 ?_
  simp (decide := true) [Tryz.f162, Nett.cells, int, ints, boolsD]
  refine ⟨by omega, by omega, by unfold maxLen; omega, ?_⟩
  refine loop_rule mixed (fun k : Nat => { n := 45, next := 3, slots := [(1, .d (boolsD (bls n.states.toNat m))), (2, .d (int c)), (3, .bp 0 0), (7, .ar 2), (8, .d (int k))], own := [(0, .box 33 (n.cells.map .d)), (2, .arr 4 1 ((bls n.states.toNat (afterR (n.steps.take k) m c)).map fun b => [.bool b]))], moved := [] })
    (fun k => k ≤ n.steps.length) (fun k => n.steps.length - k) 0 (by simp) (by simp (decide := true) [int, ints, afterR, bls_zero, Nett.cells, boolsD]) ?_
  intro k hk
  by_cases hlt : k < n.steps.length
  case neg =>
    have : k = n.steps.length := by omega
    subst this
    rw [List.take_length]
    simp (decide := true) [int, ints, boolsD, Nett.cells, stepsD]
  have hlt' : (k : Int) < n.steps.length := by omega
  have hq := hn.steps n.steps[k] (List.getElem_mem hlt)
  have hsn : afterR (n.steps.take (k + 1)) m c = takeStepR m c (afterR (n.steps.take k) m c) n.steps[k] := by unfold afterR; rw [take_snocG hlt, List.foldl_append]; rfl
  obtain ⟨x, eq⟩ : ∃ x, n.steps[k] = x := ⟨_, rfl⟩
  have e1 : n.steps[k]? = some x := by rw [List.getElem?_eq_getElem hlt, eq]
  rw [eq] at hq hsn
  obtain ⟨⟨q1, q2⟩, ⟨q3, q4⟩, q5⟩ := hq
  have hb := bls_get (S := n.states.toNat) (m := m) (q := x.src.toNat) (by omega)
  have hst := bls_set (S := n.states.toNat) (m := afterR (n.steps.take k) m c) (q := x.dst.toNat) (by omega)
  rw [show ((x.dst.toNat : Nat) : Int) = x.dst by omega] at hst
  have hgt := bls_get (S := n.states.toNat) (m := afterR (n.steps.take k) m c) (q := x.dst.toNat) (by omega)
  have hms : (List.map (fun b => [D.bool b]) (bls n.states.toNat (afterR (n.steps.take k) m c))).set x.dst.toNat [D.bool true] = List.map (fun b => [D.bool b]) (bls n.states.toNat (withS (afterR (n.steps.take k) m c) x.dst)) := by
    rw [← hst, List.map_set]
  unfold takeStepR hasS at hsn
  cases hx : m.testBit x.src.toNat with
  | false =>
    rw [hx] at hb hsn
    rw [if_neg (by simp)] at hsn
    simp (decide := true) [int, ints, hlt, hlt', e1, eq, q1, q2, q3, q4, hb, boolsD, Nett.cells, stepsD, Stp.row]
    exact ⟨by omega, ⟨by omega, by omega⟩, k + 1, hlt, by omega, by omega, by rw [hsn]⟩
  | true =>
    rw [hx] at hb hsn
    by_cases hc : c = 0 ∨ x.cls = c
    · rw [if_pos ⟨rfl, hc⟩] at hsn
      simp (decide := true) [int, ints, hlt, hlt', e1, eq, q1, q2, q3, q4, hb, boolsD, Nett.cells, stepsD, Stp.row, hc, hgt]
      refine ⟨by omega, fun h0 => ⟨fun h => ⟨by omega, by omega, ⟨by omega, by omega⟩, k + 1, hlt, by omega, by omega, by rw [hsn]; exact hms⟩, fun h => absurd hc (by rintro (h' | h'); exact h0 h'; exact h h')⟩, fun h0 => ⟨by omega, by omega, ⟨by omega, by omega⟩, k + 1, hlt, by omega, by omega, by rw [hsn]; exact hms⟩⟩
    · rw [if_neg (fun h => hc h.2)] at hsn
      have hc1 : ¬ c = 0 := fun h => hc (.inl h)
      have hc2 : ¬ x.cls = c := fun h => hc (.inr h)
      simp (decide := true) [int, ints, hlt, hlt', e1, eq, q1, q2, q3, q4, hb, boolsD, Nett.cells, stepsD, Stp.row, hc1, hc2]
      exact ⟨by omega, ⟨by omega, by omega⟩, k + 1, hlt, by omega, by omega, by rw [hsn]⟩
def bothS (S a b : Nat) : Bool := (List.range S).any fun q => a.testBit q && b.testBit q
theorem both23_ok (S a b : Nat) (hS : S ≤ 3) : PureR Tryz.prog 157 [boolsD (bls S a), boolsD (bls S b)] (.bool (bothS S a b)) := by
  refine pure_of_body mixed Tryz.func157 rfl call_157 ?_
  simp (decide := true) [Tryz.f157, int, boolsD]
  refine loop_rule mixed (fun k : Nat => { n := 22, next := 0, slots := [(0, .d (boolsD (bls S a))), (1, .d (boolsD (bls S b))), (5, .d (int k))], own := [], moved := [] })
    (fun k => k ≤ S ∧ ∀ j, j < k → (a.testBit j && b.testBit j) = false) (fun k => S - k) 0 (by simp) (by simp (decide := true) [int, boolsD]) ?_
  intro k ⟨hk, hp⟩
  by_cases hlt : k < S
  case neg =>
    have : k = S := by omega
    subst this
    have : bothS k a b = false := by
      unfold bothS
      rw [List.any_eq_false]
      intro j hj
      rw [hp j (List.mem_range.mp hj)]; decide
    rw [this]
    simp (decide := true) [int, boolsD]
  have hlt' : (k : Int) < S := by omega
  have ha := bls_get (S := S) (m := a) (q := k) hlt
  have hb := bls_get (S := S) (m := b) (q := k) hlt
  have hnx : (a.testBit k && b.testBit k) = false → ∀ j, j < k + 1 → (a.testBit j && b.testBit j) = false := by
    intro h j hj
    rcases Nat.lt_succ_iff_lt_or_eq.mp hj with h' | h'
    · exact hp j h'
    · rw [h']; exact h
  have hyes : (a.testBit k && b.testBit k) = true → bothS S a b = true := by
    intro h
    unfold bothS
    rw [List.any_eq_true]
    exact ⟨k, List.mem_range.mpr hlt, h⟩
  cases hx : a.testBit k with
  | false =>
    rw [hx] at ha
    simp (decide := true) [int, hlt, hlt', ha, boolsD, bls_el, hx]
    exact ⟨⟨by omega, by omega⟩, k + 1, ⟨hlt, fun j hj => by simpa using hnx (by rw [hx]; rfl) j hj⟩, by omega, by omega⟩
  | true =>
    rw [hx] at ha
    cases hy : b.testBit k with
    | false =>
      rw [hy] at hb
      simp (decide := true) [int, hlt, hlt', ha, hb, boolsD, bls_el, hx, hy]
      exact ⟨⟨by omega, by omega⟩, k + 1, ⟨hlt, fun j hj => by simpa using hnx (by rw [hx, hy]; rfl) j hj⟩, by omega, by omega⟩
    | true =>
      rw [hy] at hb
      rw [hyes (by rw [hx, hy]; rfl)]
      simp (decide := true) [int, hlt, hlt', ha, hb, boolsD, bls_el, hx, hy]
theorem withS_lt2 {S m : Nat} {q : Int} (hm : m < 2^S) (h0 : 0 ≤ q) (h1 : q < S) : withS m q < 2^S := by
  unfold withS
  refine Nat.or_lt_two_pow hm ?_
  rw [Nat.one_shiftLeft]
  exact Nat.pow_lt_pow_right (by omega) (by omega)
theorem afterS_eq {n : Nett} (hn : NetL n) (m : Nat) {c : Int} (hc : 1 ≤ c) : afterR n.steps m c = afterS n.steps m c := by
  unfold afterR afterS
  congr 1
  funext out s
  unfold takeStepR takeStep
  have : ¬ c = 0 := by omega
  simp [this]
theorem afterS_low {n : Nett} (hn : NetL n) (m : Nat) {c : Int} (hc : c < 1) : afterS n.steps m c = 0 := by
  unfold afterS
  have key : ∀ l : List Stp, (∀ s ∈ l, 1 ≤ s.cls) → l.foldl (takeStep m c) 0 = 0 := by
    intro l
    induction l with
    | nil => intro _; rfl
    | cons s l ih =>
      intro h
      rw [List.foldl_cons]
      have h1 := h s (List.mem_cons_self ..)
      have : takeStep m c 0 s = 0 := by unfold takeStep; rw [if_neg (fun h => by omega)]
      rw [this]
      exact ih fun x hx => h x (List.mem_cons_of_mem _ hx)
  exact key _ fun s hs => (hn.steps s hs).2.2
theorem fold_low {m : Nat} {c : Int} {S : Nat} : ∀ (l : List Stp) (out : Nat), (∀ s ∈ l, 0 ≤ s.dst ∧ s.dst < S) → out < 2^S → l.foldl (takeStep m c) out < 2^S
  | [], out, _, h => h
  | s :: l, out, hl, h => by
    rw [List.foldl_cons]
    refine fold_low l _ (fun x hx => hl x (List.mem_cons_of_mem _ hx)) ?_
    have := hl s (List.mem_cons_self ..)
    unfold takeStep
    split
    · exact withS_lt2 h this.1 this.2
    · exact h
theorem afterS_lt2 {n : Nett} (hn : NetL n) (m : Nat) (c : Int) : afterS n.steps m c < 2^n.states.toNat :=
  fold_low _ _ (fun s hs => by have := (hn.steps s hs).2.1; have := hn.lo; omega) (Nat.two_pow_pos _)
theorem afterS_none {n : Nett} (c : Int) : afterS n.steps 0 c = 0 := by
  unfold afterS
  induction n.steps with
  | nil => rfl
  | cons s l ih =>
    rw [List.foldl_cons]
    have : takeStep 0 c 0 s = 0 := by unfold takeStep hasS; rw [if_neg (fun h => by simp at h)]
    rw [this]; exact ih
theorem run_none {n : Nett} : ∀ cs : List Int, cs.foldl (fun m c => afterS n.steps m c) 0 = 0
  | [] => rfl
  | c :: cs => by rw [List.foldl_cons, afterS_none]; exact run_none cs
theorem runS_low {n : Nett} (hn : NetL n) {cs : List Int} {k : Nat} (hk : k < cs.length) (hc : cs[k] < 1) : runS n.steps cs = 0 := by
  unfold runS
  have : cs = cs.take k ++ cs[k] :: cs.drop (k + 1) := by rw [← List.drop_eq_getElem_cons hk, List.take_append_drop]
  rw [this, List.foldl_append, List.foldl_cons, afterS_low hn _ hc]
  exact run_none _
theorem runS_lt2 {n : Nett} (hn : NetL n) (cs : List Int) : runS n.steps cs < 2^n.states.toNat := by
  unfold runS
  have key : ∀ (cs : List Int) (m : Nat), m < 2^n.states.toNat → cs.foldl (fun m c => afterS n.steps m c) m < 2^n.states.toNat := by
    intro cs
    induction cs with
    | nil => intro m h; exact h
    | cons c cs ih => intro m h; rw [List.foldl_cons]; exact ih _ (afterS_lt2 hn _ _)
  refine key cs 1 ?_
  have := hn.lo
  exact Nat.one_lt_two_pow (by omega)
end Go.V
