/- Contracts of chapters 22, 29 and 30: Apply, Last, Form, Licensed of the reference. -/
import Derived.Test.YtgglheknmlfghaaGreatG15
set_option linter.unusedSimpArgs false
set_option linter.unusedVariables false
set_option maxRecDepth 10000
namespace Go.V
open Go Go.Proofs

/-- A rule of a light language. -/
structure RuleL (r : Rule) : Prop extends RuleOk r where
  once : r.src.Nodup
def NoZero (w : List Int) : Prop := ∀ x ∈ w, x ≠ 0
set_option maxHeartbeats 8000000 in
theorem refApply_ok (inv : List Phon) (hl : inv.length < 2^62) (r : Rule) (hr : RuleL r) (w : List Int) (hw : w.length < 2^40) (hz : NoZero w) :
    PureR Tryz.prog 130 [.agg [invD inv], .agg r.row, ints w] (ints (applyE inv r w)) := by
  rw [← applyK_all]
  refine pure_of_body mixed Tryz.func130 rfl call_130 ?_
  simp (decide := true) [Tryz.f130, int, ints, Rule.row]
  refine loop_rule mixed (fun k : Nat => { n := 55, next := 4, slots := [(2, .d (ints w)), (3, .bp 0 0), (4, .bp 1 0), (7, .ar 3), (12, .d (int w.length)), (13, .d (int k))], own := [(0, .box 24 [.d (invD inv)]), (1, .box 77 (r.row.map .d)), (3, .arr 3 1 ((applyK inv r w k).map fun n => [int n]))], moved := [3] })
    (fun k => k ≤ w.length) (fun k => w.length - k) 0 (by simp) (by simp (decide := true) [int, ints, Rule.row, applyK]) ?_
  intro k hk
  by_cases hlt : k < w.length
  case neg =>
    have : k = w.length := by omega
    subst this
    simp (decide := true) [int, ints]
  have hlt' : (k : Int) < w.length := by omega
  have hsn := applyK_snoc (inv := inv) (r := r) hlt
  have hlen := applyK_len inv r w k hk
  have hS := refSite_ok inv hl r hr.toRuleFit w hw k hlt
  have hx0 := hz w[k] (List.getElem_mem hlt)
  obtain ⟨x, ex⟩ : ∃ x, w[k] = x := ⟨_, rfl⟩
  have e1 : w[k]? = some x := by rw [List.getElem?_eq_getElem hlt, ex]
  rw [ex] at hsn hx0
  have hmem := idxL_mem r.src x
  have hidx : x ∈ r.src → ∃ j : Nat, ∃ hj : j < r.src.length, idxL r.src x = j ∧ r.src[j] = x := by
    intro hx
    unfold idxL at hmem ⊢
    cases hq : r.src.findIdx? (· = x) with
    | none => rw [hq] at hmem; exact absurd (hmem.2 hx) (by decide)
    | some j =>
      rw [List.findIdx?_eq_some_iff_getElem] at hq
      exact ⟨j, hq.1, rfl, by simpa using hq.2.1⟩
  have hsite : siteE inv r w k = true → x ∈ r.src := by
    intro h
    unfold siteE at h
    simp only [Bool.and_eq_true, decide_eq_true_eq] at h
    have := h.1.1.1.1.1.1
    rwa [e1, Option.getD_some] at this
  have hdst := hr.dst
  have hsl := hr.src
  unfold segE at hsn
  simp (decide := true) [int, ints, Rule.row, hlt, hlt', e1, ex, I64]
  refine ECall.pure (by rfl) hS (by simp) ?_
  cases hb : siteE inv r w k with
  | false =>
    rw [hb] at hsn
    simp only [Bool.false_eq_true, if_false] at hsn
    simp (decide := true) [int, ints, Rule.row, I64, hx0]
    exact ⟨by omega, by unfold maxLen; omega, ⟨by omega, by omega⟩, k + 1, hlt, by omega, by omega, by rw [hsn]; simp⟩
  | true =>
    rw [hb] at hsn
    simp only [if_true] at hsn
    obtain ⟨j, hj, ej, exj⟩ := hidx (hsite hb)
    have hjd : j < r.dst.length := by omega
    obtain ⟨y, ey⟩ : ∃ y, r.dst[j] = y := ⟨_, rfl⟩
    have e2 : r.dst[j]? = some y := by rw [List.getElem?_eq_getElem hjd, ey]
    rw [ej, Int.toNat_natCast, e2, Option.getD_some] at hsn
    have hj' : (j : Int) < r.dst.length := by omega
    simp (decide := true) [int, ints, Rule.row, I64]
    refine loop_rule mixed (fun m : Nat => { n := 55, next := 4, slots := [(2, .d (ints w)), (3, .bp 0 0), (4, .bp 1 0), (7, .ar 3), (8, .d (int k)), (9, .d (int (if j < m then y else x))), (12, .d (int w.length)), (13, .d (int k)), (27, .d (int r.src.length)), (28, .d (int m))], own := [(0, .box 24 [.d (invD inv)]), (1, .box 77 (r.row.map .d)), (3, .arr 3 1 ((applyK inv r w k).map fun n => [int n]))], moved := [3] })
      (fun m => m ≤ r.src.length) (fun m => r.src.length - m) 0 (by simp) (by simp (decide := true) [int, ints, Rule.row]) ?_
    intro m hm
    by_cases hlm : m < r.src.length
    · have hlm' : (m : Int) < r.src.length := by omega
      have hmd : m < r.dst.length := by omega
      have hmd' : (m : Int) < r.dst.length := by omega
      obtain ⟨z, ez⟩ : ∃ z, r.src[m] = z := ⟨_, rfl⟩
      have ez1 : r.src[m]? = some z := by rw [List.getElem?_eq_getElem hlm, ez]
      by_cases hmj : m = j
      · subst hmj
        have hzx : z = x := by rw [← ez, exj]
        subst hzx
        simp (decide := true) [int, ints, Rule.row, I64, hlm, hlm', hlt, hlt', e1, ex, ez, ez1, hmd, hmd', e2, ey]
        exact ⟨⟨by omega, by omega⟩, m + 1, hlm, by omega, fun h => absurd h (by omega), by omega⟩
      · have hzx : ¬ z = x := by
          intro h
          have hp := List.pairwise_iff_getElem.mp hr.once
          rcases Nat.lt_or_gt_of_ne hmj with h' | h'
          · exact hp m j hlm hj h' (by rw [ez, exj, h])
          · exact hp j m hj hlm h' (by rw [ez, exj, h])
        have hlj : (j < m + 1) ↔ (j < m) := by omega
        simp (decide := true) [int, ints, Rule.row, I64, hlm, hlm', hlt, hlt', e1, ex, ez, ez1, hmd, hmd', hzx]
        exact ⟨⟨by omega, by omega⟩, m + 1, hlm, by omega, by simp only [hlj], by omega⟩
    · have : m = r.src.length := by omega
      subst this
      by_cases hy : y = 0
      · rw [if_pos hy, List.append_nil] at hsn
        simp (decide := true) [int, ints, Rule.row, hj, hy, I64]
        exact ⟨⟨by omega, by omega⟩, k + 1, hlt, by omega, by omega, by rw [hsn]⟩
      · rw [if_neg hy] at hsn
        simp (decide := true) [int, ints, Rule.row, hj, hy, I64]
        exact ⟨by omega, by unfold maxLen; omega, ⟨by omega, by omega⟩, k + 1, hlt, by omega, by omega, by rw [hsn]; simp⟩
theorem segE_nz {inv : List Phon} {r : Rule} {w : List Int} {k : Nat} {x : Int} (hx : x ≠ 0) : NoZero (segE inv r w k x) := by
  unfold segE NoZero
  intro y hy
  split at hy
  · split at hy
    · cases hy
    · rename_i h; rw [List.mem_singleton] at hy; rw [hy]; exact h
  · rw [List.mem_singleton] at hy; rw [hy]; exact hx
theorem applyE_nz {inv : List Phon} {r : Rule} {w : List Int} (hw : NoZero w) : NoZero (applyE inv r w) := by
  intro y hy
  unfold applyE at hy
  rw [List.mem_flatten] at hy
  obtain ⟨l, hl, hy⟩ := hy
  rw [List.mem_map] at hl
  obtain ⟨⟨a, i⟩, ha, rfl⟩ := hl
  refine segE_nz (hw a ?_) y hy
  exact (List.mem_zipIdx' ha).2 ▸ List.getElem_mem _
theorem lastE_nz {inv : List Phon} : ∀ (rs : List Rule) {w : List Int}, NoZero w → NoZero (lastE inv rs w)
  | [], _, h => h
  | r :: rs, w, h => by
    have := lastE_nz (inv := inv) rs (applyE_nz (inv := inv) (r := r) h)
    exact this
set_option maxHeartbeats 4000000 in
theorem refLast_ok (inv : List Phon) (hl : inv.length < 2^62) (rs : List Rule) (hr : ∀ r ∈ rs, RuleL r) (hn : rs.length < 2^40) (w : List Int) (hw : w.length < 2^40) (hz : NoZero w) :
    PureR Tryz.prog 82 [.agg [invD inv], rulesD rs, ints w] (ints (lastE inv rs w)) := by
  refine pure_of_body mixed Tryz.func82 rfl call_82 ?_
  simp (decide := true) [Tryz.f82, int, ints, rulesD]
  refine loop_rule mixed (fun k : Nat => { n := 22, next := 2, slots := [(1, .d (rulesD rs)), (2, .d (ints (lastE inv (rs.take k) w))), (3, .bp 0 0), (9, .d (int rs.length)), (10, .d (int k))], own := [(0, .box 24 [.d (invD inv)])], moved := [] })
    (fun k => k ≤ rs.length) (fun k => rs.length - k) 0 (by simp) (by simp (decide := true) [int, ints, rulesD, lastE]) ?_
  intro k hk
  by_cases hlt : k < rs.length
  case neg =>
    have : k = rs.length := by omega
    subst this
    rw [List.take_length]
    simp (decide := true) [int, ints, rulesD]
  have hlt' : (k : Int) < rs.length := by omega
  have hsn : lastE inv (rs.take (k + 1)) w = applyE inv rs[k] (lastE inv (rs.take k) w) := by unfold lastE; rw [take_snocG hlt, List.foldl_append]; rfl
  have hll := lastE_len inv (rs.take k) w
  have hnz := lastE_nz (inv := inv) (rs.take k) hz
  have hR := hr rs[k] (List.getElem_mem hlt)
  obtain ⟨r, er⟩ : ∃ r, rs[k] = r := ⟨_, rfl⟩
  have e1 : rs[k]? = some r := by rw [List.getElem?_eq_getElem hlt, er]
  rw [er] at hsn hR
  generalize lastE inv (rs.take k) w = u at hsn hll hnz
  have hA := refApply_ok inv hl r hR u (by omega) hnz
  simp (decide := true) [int, ints, rulesD, hlt, hlt', e1, er, I64, Rule.row]
  refine scall_pure (by rfl) (by rfl) hA (by simp [int, ints, Rule.row]) ?_
  simp (decide := true) [int, ints, rulesD]
  exact ⟨⟨by omega, by omega⟩, k + 1, hlt, by omega, by rw [hsn], by simp⟩
/-- A light language, for the reference. -/
structure LangR (g : Lang) : Prop extends LangL g where
  rulesL : ∀ r ∈ g.rules, RuleL r
  nz : ∀ e ∈ g.lex, ∀ w ∈ e.forms, NoZero w
theorem baseE_nz {g : Lang} (hg : LangR g) (ps : List Prt) : NoZero (baseE g.lex ps) := by
  intro x hx
  unfold baseE at hx
  rw [List.mem_flatMap] at hx
  obtain ⟨p, _, hx⟩ := hx
  split at hx
  · rename_i hf
    unfold formE at hx hf
    split at hx
    · rename_i hc
      simp only at hx
      obtain ⟨c1, c2, c3⟩ := hc
      have hlt : p.alt.toNat < (getE g.lex p.entry).1.forms.length := by omega
      rw [List.getElem?_eq_getElem hlt, Option.getD_some] at hx
      exact hg.nz _ (getE_mem c1) _ (List.getElem_mem hlt) x hx
    · cases hx
  · cases hx
set_option maxHeartbeats 4000000 in
theorem refForm29_ok (g : Lang) (hg : LangR g) (ps : List Prt) (hp : ps.length < 2^20) : PureR Tryz.prog 40 [g.d, anaD ps] (.tup [ints (formA g ps).1, int (formA g ps).2]) := by
  have hR := refRight29_ok g hg.toLangL ps hp
  have hB := refBase_ok g hg.lex ps hp
  have hbl : rightE g ps = 0 → (baseE g.lex ps).length < 2^40 := by
    intro h
    unfold rightE at h
    repeat' split at h
    all_goals first | omega | skip
  have hL := fun h => refLast_ok g.inv (by have := hg.inv; omega) g.rules hg.rulesL hg.rules.2 (baseE g.lex ps) (hbl h) (baseE_nz hg ps)
  have hll := lastE_len g.inv g.rules (baseE g.lex ps)
  unfold formA
  generalize rightE g ps = R at hR hL hbl ⊢
  refine pure_of_body mixed Tryz.func40 rfl call_40 ?_
  simp (decide := true) [Tryz.f40, int, Lang.d, anaD, unAgg]
  refine ECall.pure (by rfl) hR (by simp [Lang.d, anaD, unAgg, int]) ?_
  by_cases h0 : R = 0
  · subst h0
    have hL := hL rfl
    have hbl := hbl rfl
    generalize lastE g.inv g.rules (baseE g.lex ps) = v at hL hll ⊢
    simp (decide := true) [int, Lang.d, unAgg]
    refine scall_pure (by rfl) (by rfl) hB (by simp [Lang.d, anaD, unAgg]) ?_
    simp (decide := true) [int, Lang.d, unAgg, ints]
    refine scall_pure (by rfl) (by rfl) hL (by simp [Lang.d, anaD, unAgg, ints]) ?_
    by_cases hv : v.length = 0
    · simp (decide := true) [int, Lang.d, unAgg, ints, hv, List.length_eq_zero_iff.mp hv]
    · have hv' : v ≠ [] := fun h => hv (by rw [h]; rfl)
      simp (decide := true) [int, Lang.d, unAgg, ints, hv, hv']
  · simp (decide := true) [int, ints, h0]
theorem refSame01_ok (a b : List Int) (ha : a.length < 2^62) (hb : b.length < 2^62) : PureR Tryz.prog 19 [ints a, ints b] (.bool (decide (a = b))) := by
  refine pure_of_body mixed Tryz.func19 rfl call_19 ?_
  by_cases hl : a.length = b.length
  case neg =>
    have : ¬ a = b := fun h => hl (by rw [h])
    have hl' : ¬ (a.length : Int) = b.length := by omega
    simp (decide := true) [Tryz.f19, ints, int, hl, hl', this]
  have hl' : (a.length : Int) = b.length := by omega
  simp (decide := true) [Tryz.f19, ints, int, hl, hl']
  refine loop_rule mixed (fun k : Nat => { n := 26, next := 0, slots := [(0, .d (ints a)), (1, .d (ints b)), (12, .d (int b.length)), (13, .d (int k))], own := [], moved := [] })
    (fun k => k ≤ a.length ∧ a.take k = b.take k) (fun k => a.length - k) 0 (by simp) (by simp (decide := true) [int, ints, hl']) ?_
  intro k ⟨hk, hp⟩
  by_cases hlt : k < a.length
  case neg =>
    have : k = a.length := by omega
    subst this
    rw [List.take_length, hl, List.take_length] at hp
    subst hp
    simp (decide := true) [int, ints]
  have hlt' : (k : Int) < a.length := by omega
  have hlb : k < b.length := by omega
  have hlb' : (k : Int) < b.length := by omega
  obtain ⟨x, ex⟩ : ∃ x, a[k] = x := ⟨_, rfl⟩
  obtain ⟨y, ey⟩ : ∃ y, b[k] = y := ⟨_, rfl⟩
  have ex1 : a[k]? = some x := by rw [List.getElem?_eq_getElem hlt, ex]
  have ey1 : b[k]? = some y := by rw [List.getElem?_eq_getElem hlb, ey]
  by_cases hxy : x = y
  · subst hxy
    simp (decide := true) [int, ints, hlt, hlt', hlb, hlb', ex, ey, ex1, ey1]
    exact ⟨⟨by omega, by omega⟩, k + 1, ⟨hlt, by rw [take_snocG hlt, take_snocG hlb, hp, ex, ey]⟩, by omega, by omega⟩
  · have : ¬ a = b := by
      intro h
      subst h
      exact hxy (by rw [← ex, ← ey])
    simp (decide := true) [int, ints, hlt, hlt', hlb, hlb', ex, ey, ex1, ey1, hxy, this]
def licE (g : Lang) (w : List Int) (ps : List Prt) : Bool := decide ((formA g ps).2 = 0 ∧ (formA g ps).1 = w)
theorem formA_len {g : Lang} (ps : List Prt) : (formA g ps).1.length ≤ (baseE g.lex ps).length := by
  unfold formA
  have := lastE_len g.inv g.rules (baseE g.lex ps)
  repeat' split
  all_goals simp; try omega
set_option maxHeartbeats 4000000 in
theorem refLicensed_ok (g : Lang) (hg : LangR g) (w : List Int) (hw : w.length < 2^40) (ps : List Prt) (hp : ps.length < 2^20) : PureR Tryz.prog 16 [g.d, ints w, anaD ps] (.bool (licE g w ps)) := by
  have hF := refForm29_ok g hg ps hp
  have hl := formA_len (g := g) ps
  have hb := baseE_len hg.lex ps
  have hE := refSame01_ok (formA g ps).1 w (by omega) (by omega)
  unfold licE
  generalize formA g ps = q at hF hE ⊢
  obtain ⟨v, e⟩ := q
  refine pure_of_body mixed Tryz.func16 rfl call_16 ?_
  simp (decide := true) [Tryz.f16, int, Lang.d, anaD, unAgg]
  refine ECall.pure (by rfl) hF (by simp [Lang.d, anaD, unAgg, int]) ?_
  by_cases h0 : e = 0
  · subst h0
    simp (decide := true) [int, ints]
    refine ECall.pure (by rfl) hE (by simp [ints]) ?_
    simp (decide := true) [int, ints]
  · simp (decide := true) [int, ints, h0]
end Go.V
