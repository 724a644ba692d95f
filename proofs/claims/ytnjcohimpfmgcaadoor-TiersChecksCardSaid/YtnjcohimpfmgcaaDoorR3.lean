/- Contracts: spans, by the reference of chapter 9: what is left of a span without others. -/
import Derived.Test.YtnjcohimpfmgcaaDoorR2
set_option linter.unusedSimpArgs false
set_option linter.unusedVariables false
set_option maxRecDepth 10000
namespace Go.V
open Go Go.Proofs

structure Sp where
  (fr : Int)
  (tO : Int)
  deriving Inhabited, DecidableEq
def Sp.row (s : Sp) : List D := [int s.fr, int s.tO]
def spansD (l : List Sp) : D := .sl (l.map Sp.row)
abbrev Sp.rt (s : Sp) : Bool := rightS s.fr s.tO
def cut1 (x s : Sp) : List Sp := (if rightS x.fr (min x.tO s.fr) = true then [⟨x.fr, min x.tO s.fr⟩] else []) ++ (if rightS (max x.fr s.tO) x.tO = true then [⟨max x.fr s.tO, x.tO⟩] else [])
def withoutS (l : List Sp) (s : Sp) : List Sp := l.flatMap fun x => cut1 x s
def minusS (a b : List Sp) : List Sp := b.foldl (fun out y => if y.rt = true then withoutS out y else out) a
def coversS (l : List Sp) (s : Sp) : Bool := s.rt && (minusS [s] l).isEmpty
theorem cut1_len (x s : Sp) : (cut1 x s).length ≤ 2 := by
  unfold cut1; split <;> split <;> simp
theorem without_len (l : List Sp) (s : Sp) : (withoutS l s).length ≤ 2 * l.length := by
  unfold withoutS
  induction l with
  | nil => simp
  | cons x r ih =>
    have := cut1_len x s
    rw [List.flatMap_cons, List.length_append, List.length_cons]; omega
theorem without_snoc {l : List Sp} {s : Sp} {k : Nat} (h : k < l.length) : withoutS (l.take (k + 1)) s = withoutS (l.take k) s ++ cut1 l[k] s := by
  unfold withoutS
  rw [take_snoc' h, List.flatMap_append]; simp
/-! ### what is left is no more than there was -/
def spSum (l : List Sp) : Int := (l.map fun x => x.tO - x.fr).sum
theorem spSum_append (a b : List Sp) : spSum (a ++ b) = spSum a + spSum b := by simp [spSum]
theorem cut1_sum {x s : Sp} (hx : x.rt = true) (hs : s.rt = true) : spSum (cut1 x s) ≤ x.tO - x.fr := by
  simp only [Sp.rt, rightS, Bool.and_eq_true, decide_eq_true_eq] at hx hs
  unfold cut1
  split <;> split <;> simp [spSum] <;> omega
theorem cut1_rt (x s : Sp) : ∀ y ∈ cut1 x s, y.rt = true := by
  intro y hy
  unfold cut1 at hy
  rcases List.mem_append.1 hy with h | h
  · split at h
    · rename_i e; simp at h; subst h; exact e
    · cases h
  · split at h
    · rename_i e; simp at h; subst h; exact e
    · cases h
theorem without_rt {l : List Sp} {s : Sp} : ∀ y ∈ withoutS l s, y.rt = true := by
  intro y hy
  unfold withoutS at hy
  obtain ⟨x, _, h⟩ := List.mem_flatMap.1 hy
  exact cut1_rt x s y h
theorem without_sum {s : Sp} (hs : s.rt = true) : ∀ {l : List Sp}, (∀ x ∈ l, x.rt = true) → spSum (withoutS l s) ≤ spSum l
  | [], _ => by simp [withoutS, spSum]
  | x :: r, h => by
    have h1 := cut1_sum (h x (by simp)) hs
    have h2 := without_sum hs (l := r) (fun y hy => h y (by simp [hy]))
    have e1 : withoutS (x :: r) s = cut1 x s ++ withoutS r s := by unfold withoutS; rw [List.flatMap_cons]
    have e2 : spSum (x :: r) = (x.tO - x.fr) + spSum r := by simp [spSum]
    rw [e1, spSum_append, e2]; omega
theorem len_sum : ∀ {l : List Sp}, (∀ x ∈ l, x.rt = true) → (l.length : Int) ≤ spSum l
  | [], _ => by simp [spSum]
  | x :: r, h => by
    have h1 := h x (by simp)
    simp only [Sp.rt, rightS, Bool.and_eq_true, decide_eq_true_eq] at h1
    have h2 := len_sum (l := r) (fun y hy => h y (by simp [hy]))
    have e2 : spSum (x :: r) = (x.tO - x.fr) + spSum r := by simp [spSum]
    rw [e2, List.length_cons]; omega
theorem minus_inv : ∀ (b a : List Sp), (∀ x ∈ a, x.rt = true) → (∀ x ∈ minusS a b, x.rt = true) ∧ spSum (minusS a b) ≤ spSum a
  | [], a, h => ⟨h, Int.le_refl _⟩
  | y :: r, a, h => by
    have e : minusS a (y :: r) = minusS (if y.rt = true then withoutS a y else a) r := rfl
    rw [e]
    by_cases hy : y.rt = true
    · rw [if_pos hy]
      have h1 := minus_inv r (withoutS a y) without_rt
      have h2 := without_sum hy h
      exact ⟨h1.1, by omega⟩
    · rw [if_neg hy]; exact minus_inv r a h
theorem minus_len {s : Sp} (hs : s.rt = true) (b : List Sp) : (minusS [s] b).length ≤ 86400000 := by
  obtain ⟨h1, h2⟩ := minus_inv b [s] (by simpa using hs)
  have h3 := len_sum h1
  simp only [Sp.rt, rightS, Bool.and_eq_true, decide_eq_true_eq] at hs
  have h4 : spSum [s] = s.tO - s.fr := by simp [spSum]
  omega
theorem minus_snoc {a b : List Sp} {k : Nat} (h : k < b.length) : minusS a (b.take (k + 1)) = if b[k].rt = true then withoutS (minusS a (b.take k)) b[k] else minusS a (b.take k) := by
  unfold minusS
  rw [take_snoc' h, List.foldl_append]; rfl

/-! ### the walks -/
theorem insertNil_ok (s : Sp) : PureR Tryd.prog 104 [spansD [], .agg s.row] (spansD [s]) := by
  refine pure_of_body_frz mixed Tryd.func104 rfl call_104 [2] ?_
  simp (decide := true) [Tryd.f104, spansD, Sp.row, int]
  refine loop_rule mixed (fun k : Nat => { n := 69, next := 4, slots := [(0, .d (.sl [])), (3, .bp 0 0), (5, .ar 2), (6, .ar 3), (7, .d (.int .i64 k))], own := [(0, .box 37 [.d (int s.fr), .d (int s.tO)]), (2, .arr 37 2 []), (3, .arr 37 2 [])] })
    (fun k => k = 0) (fun k => 0) 0 (by simp) (by simp (decide := true) [int]) ?_
  rintro k rfl
  simp (decide := true) [int, maxLen]
set_option maxHeartbeats 1000000 in
theorem without_ok (l : List Sp) (s : Sp) (hl : l.length < 2^40) : PureR Tryd.prog 97 [spansD l, .agg s.row] (spansD (withoutS l s)) := by
  refine pure_of_body_frz mixed Tryd.func97 rfl call_97 [2] ?_
  simp (decide := true) [Tryd.f97, Sp.row, int]
  refine loop_rule mixed (fun k : Nat => { n := 57, next := 3, slots := [(0, .d (spansD l)), (3, .bp 0 0), (5, .ar 2), (6, .d (.int .i64 k))], own := [(0, .box 37 [.d (int s.fr), .d (int s.tO)]), (2, .arr 37 2 ((withoutS (l.take k) s).map Sp.row))], moved := [2] })
    (fun k => k ≤ l.length) (fun k => l.length - k) 0 (by simp) (by simp (decide := true) [int, withoutS]) ?_
  intro k hk
  by_cases hlt : k < l.length
  · have hlt' : (k : Int) < l.length := by omega
    obtain ⟨x, ex'⟩ : ∃ x, l[k] = x := ⟨_, rfl⟩
    have ex : l[k]? = some x := by rw [List.getElem?_eq_getElem hlt, ex']
    have hsn := without_snoc (s := s) hlt
    rw [ex'] at hsn
    have hw := without_len (l.take k) s
    have hwk : (l.take k).length = k := by rw [List.length_take]; omega
    rw [hwk] at hw
    generalize withoutS (l.take k) s = W at hw hsn ⊢
    simp (decide := true) [int, spansD, Sp.row, hlt, hlt', ex, ex']
    have m1 : (if s.fr < x.tO then s.fr else x.tO) = min x.tO s.fr := by rw [Int.min_def]; split <;> split <;> omega
    have m2 : (if x.fr < s.tO then s.tO else x.fr) = max x.fr s.tO := by rw [Int.max_def]; split <;> split <;> omega
    refine draw_new mixed (by rfl) (by rfl) ti_37 (by rfl) (by rfl) (by decide) (by rfl) (by rfl) ?_
    simp (decide := true) [int, spansD, Sp.row, hlt, hlt', ex, ex']
    refine draw_new mixed (by rfl) (by rfl) ti_37 (by rfl) (by rfl) (by decide) (by rfl) (by rfl) ?_
    simp (decide := true) [int, spansD, Sp.row, hlt, hlt', ex, ex']
    rw [m1, m2]
    have hC : cut1 x s = (if rightS x.fr (min x.tO s.fr) = true then [⟨x.fr, min x.tO s.fr⟩] else []) ++ (if rightS (max x.fr s.tO) x.tO = true then [⟨max x.fr s.tO, x.tO⟩] else []) := rfl
    generalize min x.tO s.fr = mn at hC ⊢
    generalize max x.fr s.tO = mx at hC ⊢
    refine ECall.pure (by rfl) (rightR_ok _ _) (by simp [int]) ?_
    by_cases r1 : rightS x.fr mn = true
    · rw [if_pos r1] at hC
      simp (decide := true) [int, spansD, Sp.row, r1]
      refine ⟨by omega, by unfold maxLen; omega, ?_⟩
      refine ECall.pure (by rfl) (rightR_ok _ _) (by simp [int]) ?_
      by_cases r2 : rightS mx x.tO = true
      · rw [if_pos r2] at hC
        rw [hC] at hsn
        simp (decide := true) [int, spansD, Sp.row, r2, I64]
        refine ⟨by omega, by unfold maxLen; omega, by omega, k + 1, hlt, by omega, by omega, ?_⟩
        rw [hsn]; simp [Sp.row, int]
      · rw [if_neg r2] at hC
        rw [hC] at hsn
        simp (decide := true) [int, spansD, Sp.row, r2, I64]
        refine ⟨by omega, k + 1, hlt, by omega, by omega, ?_⟩
        rw [hsn]; simp [Sp.row, int]
    · rw [if_neg r1] at hC
      simp (decide := true) [int, spansD, Sp.row, r1]
      refine ECall.pure (by rfl) (rightR_ok _ _) (by simp [int]) ?_
      by_cases r2 : rightS mx x.tO = true
      · rw [if_pos r2] at hC
        rw [hC] at hsn
        simp (decide := true) [int, spansD, Sp.row, r2, I64]
        refine ⟨by omega, by unfold maxLen; omega, by omega, k + 1, hlt, by omega, by omega, ?_⟩
        rw [hsn]; simp [Sp.row, int]
      · rw [if_neg r2] at hC
        rw [hC] at hsn
        simp (decide := true) [int, spansD, Sp.row, r2, I64]
        refine ⟨by omega, k + 1, hlt, by omega, by omega, ?_⟩
        rw [hsn]; simp
  · have : k = l.length := by omega
    subst this
    rw [List.take_length]
    simp (decide := true) [int, spansD, Sp.row]
end Go.V
