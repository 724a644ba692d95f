/- Contracts of chapter 22: what rules make of a word, by the program. -/
import Derived.Test.YtgglheknmlfghaaGreatG6
set_option linter.unusedSimpArgs false
set_option linter.unusedVariables false
set_option maxRecDepth 10000
namespace Go.V
open Go Go.Proofs

/-- Whether an index is a site. -/
def siteE (inv : List Phon) (r : Rule) (w : List Int) (k : Nat) : Bool :=
  decide (w[k]?.getD 0 ∈ r.src) && decide (r.left.length ≤ k) && decide (k + 1 + r.right.length ≤ w.length) && !(r.beg && decide (r.left.length < k)) && !(r.fin && decide (k + 1 + r.right.length < w.length)) &&
    fitsE inv r.left ((w.take k).drop (k - r.left.length)) && fitsE inv r.right ((w.take (k + 1 + r.right.length)).drop (k + 1))
structure RuleFit (r : Rule) : Prop where
  src : r.src.length < 2^40
  left : r.left.length < 2^40
  right : r.right.length < 2^40
set_option maxHeartbeats 4000000 in
theorem site_ok (inv : List Phon) (hl : inv.length < 2^62) (r : Rule) (hr : RuleFit r) (w : List Int) (hw : w.length < 2^40) (k : Nat) (hk : k < w.length) :
    PureR Tryz.prog 147 [.agg [invD inv], .agg r.row, ints w, int k] (.bool (siteE inv r w k)) := by
  obtain ⟨h1, h2, h3⟩ := hr
  obtain ⟨x, ex⟩ : ∃ x, w[k] = x := ⟨_, rfl⟩
  have e1 : w[k]? = some x := by rw [List.getElem?_eq_getElem hk, ex]
  have hk' : (k : Int) < w.length := by omega
  have hH := numHas_ok r.src x (by omega)
  obtain ⟨R, hR⟩ : ∃ R, siteE inv r w k = R := ⟨_, rfl⟩
  rw [hR]
  unfold siteE at hR
  rw [e1, Option.getD_some] at hR
  refine pure_of_body mixed Tryz.func147 rfl call_147 ?_
  obtain ⟨src, dst, left, right, beg, fin⟩ := r
  simp only at h1 h2 h3 hH hR
  simp (decide := true) [Tryz.f147, int, Rule.row, clsD, I64]
  refine ⟨by omega, by omega, by omega, ?_⟩
  simp (decide := true) [ints, e1, ex, hk, hk']
  refine scall_pure (by rfl) (by rfl) hH (by simp [int, ints]) ?_
  by_cases hx : x ∈ src
  case neg =>
    have : R = false := by rw [← hR]; simp [hx]
    subst this
    simp (decide := true) [int, hx]
  by_cases hf : left.length ≤ k
  case neg =>
    have : R = false := by rw [← hR]; simp [hf]
    subst this
    have hf' : (k : Int) - left.length < 0 := by omega
    simp (decide := true) [int, hx, hf, hf']
  have hf' : ¬ (k : Int) - left.length < 0 := by omega
  by_cases ht : k + 1 + right.length ≤ w.length
  case neg =>
    have : R = false := by rw [← hR]; simp [ht]
    subst this
    have ht' : (w.length : Int) < k + 1 + right.length := by omega
    simp (decide := true) [int, hx, hf, hf', ht, ht']
  have ht' : ¬ (w.length : Int) < k + 1 + right.length := by omega
  by_cases hb : beg = true ∧ left.length < k
  case pos =>
    obtain ⟨hb1, hb2⟩ := hb
    subst hb1
    have : R = false := by rw [← hR]; simp [hb2]
    subst this
    have hb' : (0 : Int) < (k : Int) - left.length := by omega
    simp (decide := true) [int, hx, hf, hf', ht, ht', hb', hb2]
  have hb2 : (beg && decide (left.length < k)) = false := by
    cases beg
    · rfl
    · simp at hb; simp [hb]
  by_cases he : fin = true ∧ k + 1 + right.length < w.length
  case pos =>
    obtain ⟨he1, he2⟩ := he
    subst he1
    have : R = false := by rw [← hR]; simp [he2]
    subst this
    have he' : (k : Int) + 1 + right.length < w.length := by omega
    cases beg
    · simp (decide := true) [int, hx, hf, hf', ht, ht', he', he2]
    · have hb' : ¬ (0 : Int) < (k : Int) - left.length := by simp at hb; omega
      simp (decide := true) [int, hx, hf, hf', ht, ht', he', he2, hb']
  have he2 : (fin && decide (k + 1 + right.length < w.length)) = false := by
    cases fin
    · rfl
    · simp at he; simp [he]
  have hL1 : ((w.take k).drop (k - left.length)).length = left.length := by rw [List.length_drop, List.length_take]; omega
  have hR1 : ((w.take (k + 1 + right.length)).drop (k + 1)).length = right.length := by rw [List.length_drop, List.length_take]; omega
  have hFl := fits_ok inv left _ hL1 hl (by omega)
  have hFr := fits_ok inv right _ hR1 hl (by omega)
  have eL : ∀ a b, ints ((w.take a).drop b) = .sl (((w.map fun n => [D.int .i64 n]).take a).drop b) := fun a b => by simp [ints, List.map_drop, List.map_take]
  rw [eL] at hFl hFr
  rw [hb2, he2] at hR
  generalize fitsE inv left ((w.take k).drop (k - left.length)) = b1 at hFl hR
  generalize fitsE inv right ((w.take (k + 1 + right.length)).drop (k + 1)) = b2 at hFr hR
  have hR : R = (b1 && b2) := by rw [← hR]; simp [hx, hf, ht]
  subst hR
  have hbeg : beg = true → ¬ (0 : Int) < (k : Int) - left.length := by
    intro e; subst e; simp at hb; omega
  have hfin : fin = true → ¬ (k : Int) + 1 + right.length < w.length := by
    intro e; subst e; simp at he; omega
  have ek : ((k : Int) + 1 + right.length).toNat = k + 1 + right.length := by omega
  have ek1 : ((k : Int) + 1).toNat = k + 1 := by omega
  rw [← ek] at hFr
  cases beg with
  | false =>
    cases fin with
    | false =>
      simp (decide := true) [int, hx, hf, hf', ht, ht']
      refine ⟨⟨by omega, by omega⟩, ?_⟩
      refine scall_pure (by rfl) (by rfl) hFl (by simp [int, ints]) ?_
      cases b1 with
      | false => simp (decide := true) [int]
      | true =>
        simp (decide := true) [int, ints, I64]
        refine ⟨⟨by omega, by omega⟩, ⟨by omega, by omega, by omega⟩, ?_⟩
        refine scall_pure (by rfl) (by rfl) hFr (by simp [int, ints]) ?_
        simp (decide := true) [int]
    | true =>
      have := hfin rfl
      simp (decide := true) [int, hx, hf, hf', ht, ht', this]
      refine ⟨⟨by omega, by omega⟩, ?_⟩
      refine scall_pure (by rfl) (by rfl) hFl (by simp [int, ints]) ?_
      cases b1 with
      | false => simp (decide := true) [int]
      | true =>
        simp (decide := true) [int, ints, I64]
        refine ⟨⟨by omega, by omega⟩, ⟨by omega, by omega, by omega⟩, ?_⟩
        refine scall_pure (by rfl) (by rfl) hFr (by simp [int, ints]) ?_
        simp (decide := true) [int]
  | true =>
    have hb' := hbeg rfl
    have hb3 : ¬ left.length < k := by omega
    cases fin with
    | false =>
      simp (decide := true) [int, hx, hf, hf', ht, ht', hb', hb3]
      refine ⟨⟨by omega, by omega⟩, ?_⟩
      refine scall_pure (by rfl) (by rfl) hFl (by simp [int, ints]) ?_
      cases b1 with
      | false => simp (decide := true) [int]
      | true =>
        simp (decide := true) [int, ints, I64]
        refine ⟨⟨by omega, by omega⟩, ⟨by omega, by omega, by omega⟩, ?_⟩
        refine scall_pure (by rfl) (by rfl) hFr (by simp [int, ints]) ?_
        simp (decide := true) [int]
    | true =>
      have := hfin rfl
      simp (decide := true) [int, hx, hf, hf', ht, ht', hb', hb3, this]
      refine ⟨⟨by omega, by omega⟩, ?_⟩
      refine scall_pure (by rfl) (by rfl) hFl (by simp [int, ints]) ?_
      cases b1 with
      | false => simp (decide := true) [int]
      | true =>
        simp (decide := true) [int, ints, I64]
        refine ⟨⟨by omega, by omega⟩, ⟨by omega, by omega, by omega⟩, ?_⟩
        refine scall_pure (by rfl) (by rfl) hFr (by simp [int, ints]) ?_
        simp (decide := true) [int]
/-- What a rule makes of a segment. -/
def segE (inv : List Phon) (r : Rule) (w : List Int) (k : Nat) (x : Int) : List Int :=
  if siteE inv r w k = true then (if r.dst[(idxL r.src x).toNat]?.getD 0 = 0 then [] else [r.dst[(idxL r.src x).toNat]?.getD 0]) else [x]
/-- What a rule makes of the segments from an index on. -/
def applyE (inv : List Phon) (r : Rule) (w : List Int) : List Int := (w.zipIdx.map fun x => segE inv r w x.2 x.1).flatten
theorem zipIdx_snoc {α : Type} {l : List α} {k : Nat} (h : k < l.length) : l.zipIdx.take (k + 1) = l.zipIdx.take k ++ [(l[k], k)] := by
  have h' : k < l.zipIdx.length := by simpa using h
  rw [take_snocG h']
  simp
def applyK (inv : List Phon) (r : Rule) (w : List Int) (k : Nat) : List Int := ((w.zipIdx.take k).map fun x => segE inv r w x.2 x.1).flatten
theorem applyK_snoc {inv : List Phon} {r : Rule} {w : List Int} {k : Nat} (h : k < w.length) : applyK inv r w (k + 1) = applyK inv r w k ++ segE inv r w k w[k] := by
  unfold applyK; rw [zipIdx_snoc h, List.map_append, List.flatten_append]; simp
theorem segE_len (inv : List Phon) (r : Rule) (w : List Int) (k : Nat) (x : Int) : (segE inv r w k x).length ≤ 1 := by
  unfold segE; split
  · split <;> simp
  · simp
theorem applyK_len (inv : List Phon) (r : Rule) (w : List Int) : ∀ k, k ≤ w.length → (applyK inv r w k).length ≤ k
  | 0, _ => by simp [applyK]
  | k + 1, h => by
    rw [applyK_snoc (by omega), List.length_append]
    have h1 := applyK_len inv r w k (by omega)
    have h2 := segE_len inv r w k (w[k]'(by omega))
    omega
theorem applyK_all (inv : List Phon) (r : Rule) (w : List Int) : applyK inv r w w.length = applyE inv r w := by
  unfold applyK applyE
  rw [List.take_of_length_le (by simp)]
/-- A rule as it must be for the program. -/
structure RuleOk (r : Rule) : Prop extends RuleFit r where
  dst : r.dst.length = r.src.length
set_option maxHeartbeats 4000000 in
theorem apply_ok (inv : List Phon) (hl : inv.length < 2^62) (r : Rule) (hr : RuleOk r) (w : List Int) (hw : w.length < 2^40) :
    PureR Tryz.prog 102 [.agg [invD inv], .agg r.row, ints w] (ints (applyE inv r w)) := by
  rw [← applyK_all]
  refine pure_of_body mixed Tryz.func102 rfl call_102 ?_
  simp (decide := true) [Tryz.f102, int, ints, Rule.row]
  refine loop_rule mixed (fun k : Nat => { n := 38, next := 4, slots := [(2, .d (ints w)), (3, .bp 0 0), (4, .bp 1 0), (7, .ar 3), (10, .d (ints w)), (11, .d (int w.length)), (12, .d (int k))], own := [(0, .box 24 [.d (invD inv)]), (1, .box 77 (r.row.map .d)), (3, .arr 3 1 ((applyK inv r w k).map fun n => [int n]))], moved := [3] })
    (fun k => k ≤ w.length) (fun k => w.length - k) 0 (by simp) (by simp (decide := true) [int, ints, Rule.row, applyK]) ?_
  intro k hk
  by_cases hlt : k < w.length
  case neg =>
    have : k = w.length := by omega
    subst this
    simp (decide := true) [int, ints]
  have hlt' : (k : Int) < w.length := by omega
  have hsn := applyK_snoc (inv := inv) (r := r) hlt
  have hlen := applyK_len inv r w k hk
  have hS := site_ok inv hl r hr.toRuleFit w hw k hlt
  obtain ⟨x, ex⟩ : ∃ x, w[k] = x := ⟨_, rfl⟩
  have e1 : w[k]? = some x := by rw [List.getElem?_eq_getElem hlt, ex]
  rw [ex] at hsn
  have hI := index_ok r.src x (by have := hr.src; omega)
  have hmem := idxL_mem r.src x
  have hidx : x ∈ r.src → ∃ j : Nat, j < r.src.length ∧ idxL r.src x = j := by
    intro hx
    unfold idxL at hmem ⊢
    cases hq : r.src.findIdx? (· = x) with
    | none => rw [hq] at hmem; exact absurd (hmem.2 hx) (by decide)
    | some j =>
      rw [List.findIdx?_eq_some_iff_getElem] at hq
      exact ⟨j, hq.1, rfl⟩
  have hsite : siteE inv r w k = true → x ∈ r.src := by
    intro h
    unfold siteE at h
    simp only [Bool.and_eq_true, decide_eq_true_eq] at h
    have := h.1.1.1.1.1.1
    rwa [e1, Option.getD_some] at this
  have hdst := hr.dst
  unfold segE at hsn
  simp (decide := true) [int, ints, Rule.row, hlt, hlt', e1, ex, I64]
  refine ECall.pure (by rfl) hS (by simp) ?_
  cases hb : siteE inv r w k with
  | false =>
    rw [hb] at hsn
    simp only [Bool.false_eq_true, if_false] at hsn
    simp (decide := true) [int, ints, Rule.row, I64]
    exact ⟨by omega, by unfold maxLen; omega, ⟨by omega, by omega⟩, k + 1, hlt, by omega, by omega, by rw [hsn]; simp⟩
  | true =>
    rw [hb] at hsn
    simp only [if_true] at hsn
    obtain ⟨j, hj, ej⟩ := hidx (hsite hb)
    have hjd : j < r.dst.length := by omega
    obtain ⟨y, ey⟩ : ∃ y, r.dst[j] = y := ⟨_, rfl⟩
    have e2 : r.dst[j]? = some y := by rw [List.getElem?_eq_getElem hjd, ey]
    rw [ej, Int.toNat_natCast, e2, Option.getD_some] at hsn
    rw [ej] at hI
    have hj' : (j : Int) < r.dst.length := by omega
    simp (decide := true) [int, ints, Rule.row, I64]
    refine scall_pure (by rfl) (by rfl) hI (by simp [int]) ?_
    simp (decide := true) [int, ints, Rule.row, hjd, hj', e2, ey, I64]
    by_cases hy : y = 0
    · rw [if_pos hy, List.append_nil] at hsn
      simp (decide := true) [int, ints, Rule.row, hy, I64]
      exact ⟨⟨by omega, by omega⟩, k + 1, hlt, by omega, by omega, by rw [hsn]⟩
    · rw [if_neg hy] at hsn
      simp (decide := true) [int, ints, Rule.row, hy, I64]
      exact ⟨by omega, by unfold maxLen; omega, ⟨by omega, by omega⟩, k + 1, hlt, by omega, by omega, by rw [hsn]; simp⟩
theorem applyE_len (inv : List Phon) (r : Rule) (w : List Int) : (applyE inv r w).length ≤ w.length := by
  rw [← applyK_all]; exact applyK_len inv r w _ (Nat.le_refl _)
def lastE (inv : List Phon) (rs : List Rule) (w : List Int) : List Int := rs.foldl (fun w r => applyE inv r w) w
theorem lastE_len (inv : List Phon) : ∀ (rs : List Rule) (w : List Int), (lastE inv rs w).length ≤ w.length
  | [], w => Nat.le_refl _
  | r :: rs, w => by
    have h1 := lastE_len inv rs (applyE inv r w)
    have h2 := applyE_len inv r w
    unfold lastE at h1 ⊢
    rw [List.foldl_cons]; omega
set_option maxHeartbeats 2000000 in
theorem last_ok (inv : List Phon) (hl : inv.length < 2^62) (rs : List Rule) (hr : ∀ r ∈ rs, RuleOk r) (hn : rs.length < 2^40) (w : List Int) (hw : w.length < 2^40) :
    PureR Tryz.prog 61 [.agg [invD inv], rulesD rs, ints w] (ints (lastE inv rs w)) := by
  refine pure_of_body mixed Tryz.func61 rfl call_61 ?_
  simp (decide := true) [Tryz.f61, int, ints, rulesD]
  refine loop_rule mixed (fun k : Nat => { n := 21, next := 2, slots := [(2, .d (ints (lastE inv (rs.take k) w))), (3, .bp 0 0), (9, .d (rulesD rs)), (10, .d (int rs.length)), (11, .d (int k))], own := [(0, .box 24 [.d (invD inv)])] })
    (fun k => k ≤ rs.length) (fun k => rs.length - k) 0 (by simp) (by simp (decide := true) [int, ints, rulesD, lastE]) ?_
  intro k hk
  by_cases hlt : k < rs.length
  case neg =>
    have : k = rs.length := by omega
    subst this
    rw [List.take_length]
    simp (decide := true) [int, ints, rulesD]
  have hlt' : (k : Int) < rs.length := by omega
  have hsn : lastE inv (rs.take (k + 1)) w = applyE inv rs[k] (lastE inv (rs.take k) w) := by unfold lastE; rw [take_snocG hlt, List.foldl_append]; rfl
  have hll := lastE_len inv (rs.take k) w
  have hro := hr rs[k] (List.getElem_mem hlt)
  obtain ⟨r, er⟩ : ∃ r, rs[k] = r := ⟨_, rfl⟩
  have e1 : rs[k]? = some r := by rw [List.getElem?_eq_getElem hlt, er]
  rw [er] at hsn hro
  generalize lastE inv (rs.take k) w = u at hsn hll
  have hA := apply_ok inv hl r hro u (by omega)
  simp (decide := true) [int, ints, rulesD, Rule.row, hlt, hlt', e1, er, I64]
  refine ECall.pure (by rfl) hA (by simp [Rule.row, int]) ?_
  simp (decide := true) [int, ints, rulesD, Rule.row, I64]
  exact ⟨⟨by omega, by omega⟩, k + 1, hlt, by omega, by rw [hsn], by omega⟩
end Go.V
