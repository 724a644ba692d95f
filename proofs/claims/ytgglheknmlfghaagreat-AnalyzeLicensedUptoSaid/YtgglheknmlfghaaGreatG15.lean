/- Contracts of chapters 16 and 22: In, site of the reference. -/
import Derived.Test.YtgglheknmlfghaaGreatG14
set_option linter.unusedSimpArgs false
set_option linter.unusedVariables false
set_option maxRecDepth 10000
namespace Go.V
open Go Go.Proofs

section
variable {P : Program}
theorem pure_of_bodyT {f : Nat} {fn : Func} {c : Code} (hf : P.funcs[f]? = some fn) (hb : fn.body = some c) (hcall : callable P f = true) {args : List D} {r : D}
    (h : Triple P c (atRet (resIs P fn.results.toList r)) (initSt fn.ntmps args)) : PureR P f args r := by
  refine ⟨hcall, fun w E vs hE hr => ?_⟩
  refine calls_of_wp hf hb ?_
  refine wp_mono (h E (.of w) _ _ w (Mods.init hE hr)) ?_
  rintro e a' w' ⟨de, st', β', he, hq, hm'⟩
  cases e <;> cases de <;> simp only [exM] at he
  · obtain ⟨v, h1, h2⟩ := res_sound hm' hq
    exact ⟨hm'.defers, v, h1, v, rfl, hm'.below.below, h2⟩
  · exact hq.elim
  · obtain ⟨v, h1, h2⟩ := res_sound hm' hq
    exact ⟨hm'.defers, v, h1, v, rfl, hm'.below.below, h2⟩
end
theorem refIn_ok (inv : List Phon) (n : Int) (c : Cls) (hl : inv.length < 2^62) : PureR Tryz.prog 177 [.agg [invD inv], int n, .agg c.row] (.bool (inCls inv n c)) := by
  refine pure_of_body mixed Tryz.func177 rfl call_177 ?_
  simp (decide := true) [Tryz.f177, int, Cls.row]
  refine scall_pure (by rfl) (by rfl) (refIs_ok inv n) (by simp) ?_
  by_cases hs : isSeg inv n = true
  · have hs' := hs
    simp only [isSeg, Bool.and_eq_true, decide_eq_true_eq] at hs'
    have hlt : n.toNat - 1 < inv.length := by omega
    have e1 : inv[n.toNat - 1]? = some inv[n.toNat - 1] := List.getElem?_eq_getElem hlt
    have e2 : ¬ n < 1 := by omega
    simp (decide := true) [invD, hs, hlt, e1, Phon.row, int, I64, inCls]
    omega
  · simp (decide := true) [hs, inCls]
theorem fitsE_iff {inv : List Phon} {cs : List Cls} {ws : List Int} (h : ws.length = cs.length) : fitsE inv cs ws = true ↔ ∀ j (h1 : j < cs.length) (h2 : j < ws.length), inCls inv ws[j] cs[j] = true := by
  unfold fitsE
  rw [List.all_eq_true]
  constructor
  · intro hh j h1 h2
    exact hh (ws[j], cs[j]) (by rw [List.mem_iff_getElem]; exact ⟨j, by simp; omega, by simp⟩)
  · intro hh x hx
    obtain ⟨j, hj, e⟩ := List.mem_iff_getElem.mp hx
    rw [← e]
    simp only [List.length_zip] at hj
    simp only [List.getElem_zip]
    exact hh j (by omega) (by omega)
set_option maxHeartbeats 8000000 in
theorem refSite_ok (inv : List Phon) (hl : inv.length < 2^62) (r : Rule) (hr : RuleFit r) (w : List Int) (hw : w.length < 2^40) (k : Nat) (hk : k < w.length) :
    PureR Tryz.prog 160 [.agg [invD inv], .agg r.row, ints w, int k] (.bool (siteE inv r w k)) := by
  obtain ⟨h1, h2, h3⟩ := hr
  obtain ⟨x, ex⟩ : ∃ x, w[k] = x := ⟨_, rfl⟩
  have e1 : w[k]? = some x := by rw [List.getElem?_eq_getElem hk, ex]
  have hk' : (k : Int) < w.length := by omega
  have hH := refHas_ok r.src x (by omega)
  obtain ⟨R, hR⟩ : ∃ R, siteE inv r w k = R := ⟨_, rfl⟩
  rw [hR]
  unfold siteE at hR
  rw [e1, Option.getD_some] at hR
  obtain ⟨src, dst, left, right, beg, fin⟩ := r
  simp only at h1 h2 h3 hH hR
  by_cases hall : x ∈ src ∧ left.length ≤ k ∧ k + 1 + right.length ≤ w.length ∧ ¬ (beg = true ∧ left.length < k) ∧ ¬ (fin = true ∧ k + 1 + right.length < w.length)
  case neg =>
    refine pure_of_body mixed Tryz.func160 rfl call_160 ?_
    simp (decide := true) [Tryz.f160, int, Rule.row, clsD, I64]
    refine ⟨by omega, by omega, by omega, ?_⟩
    simp (decide := true) [ints, e1, ex, hk, hk']
    refine scall_pure (by rfl) (by rfl) hH (by simp [int, ints]) ?_
    by_cases hx : x ∈ src
    case neg =>
      have : R = false := by rw [← hR]; simp [hx]
      subst this
      simp (decide := true) [int, hx]
    by_cases hf : left.length ≤ k
    case neg =>
      have : R = false := by rw [← hR]; simp [hf]
      subst this
      have hf' : (k : Int) - left.length < 0 := by omega
      simp (decide := true) [int, hx, hf, hf']
    have hf' : ¬ (k : Int) - left.length < 0 := by omega
    by_cases ht : k + 1 + right.length ≤ w.length
    case neg =>
      have : R = false := by rw [← hR]; simp [ht]
      subst this
      have ht' : (w.length : Int) < k + 1 + right.length := by omega
      simp (decide := true) [int, hx, hf, hf', ht, ht']
    have ht' : ¬ (w.length : Int) < k + 1 + right.length := by omega
    by_cases hb : beg = true ∧ left.length < k
    case pos =>
      obtain ⟨hb1, hb2⟩ := hb
      subst hb1
      have : R = false := by rw [← hR]; simp [hb2]
      subst this
      have hb' : ¬ ((k : Int) - left.length = 0) := by omega
      simp (decide := true) [int, hx, hf, hf', ht, ht', hb', hb2]
    by_cases he : fin = true ∧ k + 1 + right.length < w.length
    case pos =>
      obtain ⟨he1, he2⟩ := he
      subst he1
      have : R = false := by rw [← hR]; simp [he2]
      subst this
      have he' : ¬ ((k : Int) + 1 + right.length = w.length) := by omega
      cases beg
      · simp (decide := true) [int, hx, hf, hf', ht, ht', he', he2]
      · have hb' : (k : Int) - left.length = 0 := by simp at hb; omega
        simp (decide := true) [int, hx, hf, hf', ht, ht', he', he2, hb']
    exact absurd ⟨hx, hf, ht, hb, he⟩ hall
  obtain ⟨hx, hf, ht, hb, he⟩ := hall
  have hL1 : ((w.take k).drop (k - left.length)).length = left.length := by rw [List.length_drop, List.length_take]; omega
  have hR1 : ((w.take (k + 1 + right.length)).drop (k + 1)).length = right.length := by rw [List.length_drop, List.length_take]; omega
  have gL : ∀ j (h1 : j < left.length), ∃ h2, ((w.take k).drop (k - left.length))[j]'h2 = w[k - left.length + j]'(by omega) := fun j h1 => ⟨by omega, by rw [List.getElem_drop, List.getElem_take]⟩
  have gR : ∀ j (h1 : j < right.length), ∃ h2, ((w.take (k + 1 + right.length)).drop (k + 1))[j]'h2 = w[k + 1 + j]'(by omega) := fun j h1 => ⟨by omega, by rw [List.getElem_drop, List.getElem_take]⟩
  have iL := fitsE_iff (inv := inv) hL1
  have iR := fitsE_iff (inv := inv) hR1
  have hb2 : (beg && decide (left.length < k)) = false := by
    cases beg
    · rfl
    · simp at hb; simp [hb]
  have he2 : (fin && decide (k + 1 + right.length < w.length)) = false := by
    cases fin
    · rfl
    · simp at he; simp [he]
  rw [hb2, he2] at hR
  have hR : R = (fitsE inv left ((w.take k).drop (k - left.length)) && fitsE inv right ((w.take (k + 1 + right.length)).drop (k + 1))) := by rw [← hR]; simp [hx, hf, ht]
  refine pure_of_bodyT Tryz.func160 rfl call_160 ?_
  let S1 : St := { n := 103, next := 2, slots := [(2, .d (ints w)), (3, .d (int k)), (4, .bp 0 0), (5, .bp 1 0), (9, .d (int ((k : Int) - left.length)))], own := [(0, .box 24 [.d (invD inv)]), (1, .box 77 [.d (ints src), .d (ints dst), .d (clsD left), .d (clsD right), .d (.bool beg), .d (.bool fin)])] }
  let S2 : St := { n := 103, next := 2, slots := [(2, .d (ints w)), (3, .d (int k)), (4, .bp 0 0), (5, .bp 1 0)], own := [(0, .box 24 [.d (invD inv)]), (1, .box 77 [.d (ints src), .d (ints dst), .d (clsD left), .d (clsD right), .d (.bool beg), .d (.bool fin)])] }
  have hf' : ¬ (k : Int) - left.length < 0 := by omega
  have ht' : ¬ (w.length : Int) < k + 1 + right.length := by omega
  refine cut_ev mixed 3 S1 rfl ?_ ?_
  · simp (decide := true) [Tryz.f160, headC, int, Rule.row, clsD, I64, S1]
    refine ⟨by omega, by omega, by omega, ?_⟩
    simp (decide := true) [ints, e1, ex, hk, hk']
    refine scall_pure (by rfl) (by rfl) hH (by simp [int, ints]) ?_
    have hb3 : beg = true → (k : Int) - left.length = 0 := by intro e; subst e; simp at hb; omega
    have he3 : fin = true → (k : Int) + 1 + right.length = w.length := by intro e; subst e; simp at he; omega
    cases beg with
    | false =>
      cases fin with
      | false => simp (decide := true) [int, hx, hf, hf', ht, ht', cutK]
      | true =>
        have he' := he3 rfl
        simp (decide := true) [int, hx, hf, hf', ht, ht', he', cutK]
    | true =>
      have hb' := hb3 rfl
      cases fin with
      | false => simp (decide := true) [int, hx, hf, hf', ht, ht', hb', cutK]
      | true =>
        have he' := he3 rfl
        simp (decide := true) [int, hx, hf, hf', ht, ht', hb', he', cutK]
  refine ev_sound mixed ?_
  simp (decide := true) [Tryz.f160, tailC, int, ints, clsD, S1]
  refine loop_rule mixed (fun j : Nat => { n := 103, next := 2, slots := [(2, .d (ints w)), (3, .d (int k)), (4, .bp 0 0), (5, .bp 1 0), (9, .d (int ((k : Int) - left.length))), (62, .d (int left.length)), (63, .d (int j))], own := [(0, .box 24 [.d (invD inv)]), (1, .box 77 [.d (ints src), .d (ints dst), .d (clsD left), .d (clsD right), .d (.bool beg), .d (.bool fin)])] })
    (fun j => j ≤ left.length ∧ ∀ i (h1 : i < left.length) (h2 : i < j), inCls inv (w[k - left.length + i]'(by omega)) left[i] = true) (fun j => left.length - j) 0 (by simp) (by simp (decide := true) [int, ints, clsD]) ?_
  intro j ⟨hj, hp⟩
  by_cases hlt : j < left.length
  · have hlt' : (j : Int) < left.length := by omega
    obtain ⟨h2, gv⟩ := gL j hlt
    have hb0 := hp
    obtain ⟨c, ec⟩ : ∃ c, left[j] = c := ⟨_, rfl⟩
    have ec1 : left[j]? = some c := by rw [List.getElem?_eq_getElem hlt, ec]
    have hin : k - left.length + j < w.length := by omega
    obtain ⟨y, ey⟩ : ∃ y, w[k - left.length + j] = y := ⟨_, rfl⟩
    have ey1 : w[k - left.length + j]? = some y := by rw [List.getElem?_eq_getElem hin, ey]
    have ix : (k : Int) - left.length + j = ((k - left.length + j : Nat) : Int) := by omega
    have hI := refIn_ok inv y c hl
    have ixT : ((k : Int) - left.length + j).toNat = k - left.length + j := by omega
    have ix0 : 0 ≤ (k : Int) - left.length + j := by omega
    have ix1 : (k : Int) - left.length + j < w.length := by omega
    simp (decide := true) [int, ints, clsD, hlt, hlt', ec, ec1, ixT, ix0, ix1, ey1, hin, ey, Cls.row, I64]
    refine ⟨⟨by omega, by omega⟩, ?_⟩
    refine scall_pure (by rfl) (by rfl) hI (by simp [int, Cls.row]) ?_
    cases hc : inCls inv y c with
    | false =>
      have : R = false := by
        rw [hR, Bool.and_eq_false_iff]
        left
        rw [Bool.eq_false_iff, Ne, iL]
        intro hh
        have := hh j hlt h2
        rw [gv, ey, ec, hc] at this
        cases this
      subst this
      simp (decide := true) [int]
    | true =>
      simp (decide := true) [int]
      refine ⟨⟨by omega, by omega⟩, j + 1, ⟨hlt, fun i h1 h2 => ?_⟩, by omega, by simp⟩
      rcases Nat.lt_succ_iff_lt_or_eq.mp h2 with h' | h'
      · exact hp i h1 h'
      · subst h'
        rw [ey, ec]; exact hc
  · have : j = left.length := by omega
    subst this
    have hfl : fitsE inv left ((w.take k).drop (k - left.length)) = true := by
      rw [iL]
      intro i h1 h2
      obtain ⟨h3, gv⟩ := gL i h1
      rw [gv]
      exact hp i h1 h1
    rw [hfl, Bool.true_and] at hR
    simp (decide := true) [int, ints, clsD]
    refine loop_rule mixed (fun j : Nat => { n := 103, next := 2, slots := [(2, .d (ints w)), (3, .d (int k)), (4, .bp 0 0), (5, .bp 1 0), (83, .d (int right.length)), (84, .d (int j))], own := [(0, .box 24 [.d (invD inv)]), (1, .box 77 [.d (ints src), .d (ints dst), .d (clsD left), .d (clsD right), .d (.bool beg), .d (.bool fin)])] })
      (fun j => j ≤ right.length ∧ ∀ i (h1 : i < right.length) (h2 : i < j), inCls inv (w[k + 1 + i]'(by omega)) right[i] = true) (fun j => right.length - j) 0 (by simp) (by simp (decide := true) [int, ints, clsD]) ?_
    intro j ⟨hj, hp⟩
    by_cases hlt : j < right.length
    · have hlt' : (j : Int) < right.length := by omega
      obtain ⟨h2, gv⟩ := gR j hlt
      obtain ⟨c, ec⟩ : ∃ c, right[j] = c := ⟨_, rfl⟩
      have ec1 : right[j]? = some c := by rw [List.getElem?_eq_getElem hlt, ec]
      have hin : k + 1 + j < w.length := by omega
      obtain ⟨y, ey⟩ : ∃ y, w[k + 1 + j] = y := ⟨_, rfl⟩
      have ey1 : w[k + 1 + j]? = some y := by rw [List.getElem?_eq_getElem hin, ey]
      have hI := refIn_ok inv y c hl
      have ixT : ((k : Int) + 1 + j).toNat = k + 1 + j := by omega
      have ix0 : 0 ≤ (k : Int) + 1 + j := by omega
      have ix1 : (k : Int) + 1 + j < w.length := by omega
      simp (decide := true) [int, ints, clsD, hlt, hlt', ec, ec1, ixT, ix0, ix1, ey1, hin, ey, Cls.row, I64]
      refine ⟨⟨by omega, by omega⟩, ⟨by omega, by omega⟩, ?_⟩
      refine scall_pure (by rfl) (by rfl) hI (by simp [int, Cls.row]) ?_
      cases hc : inCls inv y c with
      | false =>
        have : R = false := by
          rw [hR, Bool.eq_false_iff, Ne, iR]
          intro hh
          have := hh j hlt h2
          rw [gv, ey, ec, hc] at this
          cases this
        subst this
        simp (decide := true) [int]
      | true =>
        simp (decide := true) [int]
        refine ⟨⟨by omega, by omega⟩, j + 1, ⟨hlt, fun i h1 h2 => ?_⟩, by omega, by simp⟩
        rcases Nat.lt_succ_iff_lt_or_eq.mp h2 with h' | h'
        · exact hp i h1 h'
        · subst h'
          rw [ey, ec]; exact hc
    · have : j = right.length := by omega
      subst this
      have hfr : fitsE inv right ((w.take (k + 1 + right.length)).drop (k + 1)) = true := by
        rw [iR]
        intro i h1 h2
        obtain ⟨h3, gv⟩ := gR i h1
        rw [gv]
        exact hp i h1 h1
      have : R = true := by rw [hR, hfr]
      subst this
      simp (decide := true) [int, ints, clsD]
end Go.V
