/- Whether a language is light, by the reference of chapter 29. -/
import Derived.Test.YtgglheknmlfghaaGreatG29
set_option linter.unusedSimpArgs false
set_option linter.unusedVariables false
set_option maxRecDepth 10000
namespace Go.V
open Go Go.Proofs

structure SmallL (l : List Ent) : Prop where
  few : l.length ≤ 5
  forms : ∀ e ∈ l, e.form.length ≤ 3 ∧ e.alts.length ≤ 1 ∧ ∀ w ∈ e.alts, w.length ≤ 3
set_option maxHeartbeats 8000000 in
theorem small29_ok (l : List Ent) (hl : l.length ≤ 1048576) : PureE Tryz.prog 35 [lexD l] (fun x => ∃ b, x = .bool b ∧ (b = true → SmallL l)) := by
  refine some_of_body mixed Tryz.func35 rfl call_35 ?_
  by_cases h0 : (5 : Int) < l.length
  · simp (decide := true) [Tryz.f35, int, lexD, h0]
  simp (decide := true) [Tryz.f35, int, lexD, h0]
  refine loop_rule mixed (fun i : Nat => { n := 50, next := 0, slots := [(0, .d (lexD l)), (3, .d (int i))], own := [] }) (fun i => i ≤ l.length ∧ ∀ e ∈ l.take i, e.form.length ≤ 3 ∧ e.alts.length ≤ 1 ∧ ∀ w ∈ e.alts, w.length ≤ 3) (fun i => l.length - i) 0 (by simp) (by simp (decide := true) [int, lexD]) ?_
  intro i ⟨hi, hp⟩
  by_cases hli : i < l.length
  · have hli' : (i : Int) < l.length := by omega
    obtain ⟨e, ee⟩ : ∃ e, l[i] = e := ⟨_, rfl⟩
    have e1 : l[i]? = some e := by rw [List.getElem?_eq_getElem hli, ee]
    have hsn := take_snocG hli
    rw [ee] at hsn
    by_cases c1 : (3 : Int) < e.form.length
    · simp (decide := true) [int, ints, lexD, Ent.row, hli, hli', ee, e1, c1]
    by_cases c2 : (1 : Int) < e.alts.length
    · simp (decide := true) [int, ints, lexD, listsD, Ent.row, hli, hli', ee, e1, c1, c2]
    simp (decide := true) [int, ints, lexD, listsD, Ent.row, hli, hli', ee, e1, c1, c2]
    refine loop_rule mixed (fun k : Nat => { n := 50, next := 0, slots := [(0, .d (lexD l)), (3, .d (int i)), (4, .d (int k))], own := [] }) (fun k => k ≤ e.alts.length ∧ ∀ w ∈ e.alts.take k, w.length ≤ 3) (fun k => e.alts.length - k) 0 (by simp) (by simp (decide := true) [int, lexD]) ?_
    intro k ⟨hk, hq⟩
    by_cases hlk : k < e.alts.length
    · have hlk' : (k : Int) < e.alts.length := by omega
      obtain ⟨w, ew⟩ : ∃ w, e.alts[k] = w := ⟨_, rfl⟩
      have ew1 : e.alts[k]? = some w := by rw [List.getElem?_eq_getElem hlk, ew]
      have hsk := take_snocG hlk
      rw [ew] at hsk
      by_cases c3 : (3 : Int) < w.length
      · simp (decide := true) [int, ints, lexD, listsD, Ent.row, hli, hli', ee, e1, hlk, hlk', ew, ew1, c3]
      · simp (decide := true) [int, ints, lexD, listsD, Ent.row, hli, hli', ee, e1, hlk, hlk', ew, ew1, c3, I64]
        refine ⟨⟨by omega, by omega⟩, k + 1, ⟨hlk, fun x hx => ?_⟩, by omega, by omega⟩
        rw [hsk] at hx
        rcases List.mem_append.1 hx with h' | h'
        · exact hq x h'
        · rw [List.mem_singleton] at h'; rw [h']; omega
    · have : k = e.alts.length := by omega
      subst this
      rw [List.take_length] at hq
      simp (decide := true) [int, ints, lexD, listsD, Ent.row, hli, hli', ee, e1, I64]
      refine ⟨⟨by omega, by omega⟩, i + 1, ⟨hli, fun x hx => ?_⟩, by omega, by omega⟩
      rw [hsn] at hx
      rcases List.mem_append.1 hx with h' | h'
      · exact hp x h'
      · rw [List.mem_singleton] at h'; rw [h']; exact ⟨by omega, by omega, hq⟩
  · have : i = l.length := by omega
    subst this
    rw [List.take_length] at hp
    simp (decide := true) [int, lexD]
    exact ⟨by omega, hp⟩
structure LangC (g : Lang) : Prop where
  inv : InvC g.inv
  orth : OrthC g.orth
  rules : RulesC g.rules
  steps : g.net.steps.length ≤ 1048576
  final : g.net.final.length ≤ 1048576
  lex : LexC g.lex
structure RightF (g : Lang) : Prop where
  rules : ∀ r ∈ g.rules, RuleL r
  net : NetF g.net
  lex : LexF g.inv g.lex
  main : MainF g.lex
set_option maxHeartbeats 8000000 in
theorem check29_ok (g : Lang) (hg : LangC g) (h5 : g.lex.length ≤ 5) : PureE Tryz.prog 36 [g.d] (fun x => ∃ n, x = int n ∧ (n = 0 → RightF g)) := by
  have hil := hg.inv.1
  refine some_of_body mixed Tryz.func36 rfl call_36 ?_
  simp (decide := true) [Tryz.f36, int, Lang.d]
  refine ECall.some (by rfl) (check16_ok g.inv hg.inv) ?_
  rintro r ⟨n, rfl⟩
  by_cases z1 : n = 0
  case neg => simp (decide := true) [int, z1]
  simp (decide := true) [int, z1]
  refine ECall.some (by rfl) (check17_ok g.inv g.orth hg.orth (by omega)) ?_
  rintro r ⟨n, rfl⟩
  by_cases z2 : n = 0
  case neg => simp (decide := true) [int, z2]
  simp (decide := true) [int, z2]
  refine ECall.some (by rfl) (rules29_ok g hg.rules) ?_
  rintro r ⟨n, rfl, hR⟩
  by_cases z3 : n = 0
  case neg => simp (decide := true) [int, z3]
  have hR := hR z3
  simp (decide := true) [int, z3]
  refine ECall.some (by rfl) (check23_ok g.net hg.steps hg.final) ?_
  rintro r ⟨n, rfl, hN⟩
  by_cases z4 : n = 0
  case neg => simp (decide := true) [int, z4]
  have hN := hN z4
  simp (decide := true) [int, z4]
  refine ECall.some (by rfl) (check25_ok g.inv g.lex hg.lex) ?_
  rintro r ⟨n, rfl, hL⟩
  by_cases z5 : n = 0
  case neg => simp (decide := true) [int, z5]
  have hL := hL z5
  simp (decide := true) [int, z5]
  refine ECall.some (by rfl) (check26_ok g.lex h5 fun e he => (hL.each e he).links) ?_
  rintro r ⟨n, rfl⟩
  by_cases z6 : n = 0
  case neg => simp (decide := true) [int, z6]
  simp (decide := true) [int, z6]
  refine ECall.some (by rfl) (check27_ok g.lex (by omega)) ?_
  rintro r ⟨n, rfl, hM⟩
  simp (decide := true) [int]
  exact fun h => ⟨hR, hN, hL, hM h⟩
structure LightF (g : Lang) : Prop extends RightF g where
  small : SmallL g.lex
  segs : g.inv.length ≤ 8
  units : g.orth.units.length ≤ 10
  few : g.rules.length ≤ 2
  states : g.net.states ≤ 3
  steps : g.net.steps.length ≤ 6
  final : g.net.final.length ≤ 3
set_option maxHeartbeats 16000000 in
theorem light29_ok (g : Lang) (hg : LangC g) : PureE Tryz.prog 13 [g.d] (fun x => ∃ b, x = .bool b ∧ (b = true → LightF g)) := by
  have hlf := hg.lex.few
  have hrf := hg.rules.few
  refine some_of_body mixed Tryz.func13 rfl call_13 ?_
  by_cases c1 : (8 : Int) < g.inv.length
  · simp (decide := true) [Tryz.f13, int, Lang.d, invD, c1]
  by_cases c2 : (10 : Int) < g.orth.units.length
  · simp (decide := true) [Tryz.f13, int, Lang.d, invD, unitsD, c1, c2]
  by_cases c3 : (2 : Int) < g.rules.length
  · simp (decide := true) [Tryz.f13, int, Lang.d, invD, unitsD, rulesD, c1, c2, c3]
  by_cases c4 : 3 < g.net.states
  · simp (decide := true) [Tryz.f13, int, Lang.d, invD, unitsD, rulesD, c1, c2, c3, c4]
  by_cases c5 : (6 : Int) < g.net.steps.length
  · simp (decide := true) [Tryz.f13, int, Lang.d, invD, unitsD, rulesD, stepsD, c1, c2, c3, c4, c5]
  by_cases c6 : (3 : Int) < g.net.final.length
  · simp (decide := true) [Tryz.f13, int, ints, Lang.d, invD, unitsD, rulesD, stepsD, c1, c2, c3, c4, c5, c6]
  simp (decide := true) [Tryz.f13, int, ints, Lang.d, invD, unitsD, rulesD, stepsD, c1, c2, c3, c4, c5, c6]
  refine ECall.some (by rfl) (small29_ok g.lex hlf) ?_
  rintro r ⟨b, rfl, hS⟩
  cases b with
  | false => simp (decide := true) [int]
  | true =>
    have hS := hS rfl
    simp (decide := true) [int]
    refine loop_rule mixed (fun k : Nat => { n := 66, next := 1, slots := [(1, .bp 0 0), (3, .d (int k))], own := [(0, .box 36 (unAgg g.d))] })
      (fun k => k ≤ g.rules.length) (fun k => g.rules.length - k) 0 (by simp) (by simp (decide := true) [int, ints, invD, unitsD, rulesD, stepsD, unAgg, Lang.d]) ?_
    intro k hk
    by_cases hlt : k < g.rules.length
    · have hlt' : (k : Int) < g.rules.length := by omega
      obtain ⟨r, er⟩ : ∃ r, g.rules[k] = r := ⟨_, rfl⟩
      have er1 : g.rules[k]? = some r := by rw [List.getElem?_eq_getElem hlt, er]
      by_cases d1 : (8 : Int) < r.src.length
      · simp (decide := true) [int, ints, rulesD, unAgg, Lang.d, hlt, hlt', er, er1, Rule.row, d1]
      · simp (decide := true) [int, ints, rulesD, unAgg, Lang.d, hlt, hlt', er, er1, Rule.row, d1, I64]
        exact ⟨⟨by omega, by omega⟩, k + 1, hlt, by omega, by omega⟩
    · have hlt' : ¬ (k : Int) < g.rules.length := by omega
      simp (decide := true) [int, rulesD, unAgg, Lang.d, hlt']
      refine ECall.some (by rfl) (check29_ok g hg hS.few) ?_
      rintro r ⟨n, rfl, hF⟩
      simp (decide := true) [int]
      by_cases z : n = 0
      · exact .inr ⟨z, hF z, hS, by omega, by omega, by omega, by omega, by omega, by omega⟩
      · exact .inl z
theorem LightF.net' {g : Lang} (h : LightF g) : NetL g.net :=
  { lo := h.net.lo, hi := h.states, steps := fun s hs => ⟨(h.net.steps s hs).1, (h.net.steps s hs).2.1, (h.net.steps s hs).2.2.1⟩, final := h.net.final, few := by have := h.steps; omega, few2 := by have := h.final; omega }
theorem LightF.langR {g : Lang} (h : LightF g) (hc : LangC g) : LangR g := by
  have hs := h.small
  have hform : ∀ e ∈ g.lex, ∀ w ∈ e.forms, WordF g.inv w := by
    intro e he w hw
    have hE := h.lex.each e he
    rcases List.mem_cons.1 hw with e1 | e1
    · rw [e1]; exact hE.form
    · exact hE.alts w e1
  refine { lex := ⟨by have := hs.few; omega, fun e he => by have := (hs.forms e he).2.1; omega, fun e he w hw => by have := (hform e he w hw).len; omega, fun e he => by have := (hc.lex.each e he).senses.1; omega⟩,
           inv := by have := h.segs; omega, rules := ⟨fun r hr => (h.rules r hr).toRuleOk, by have := h.few; omega⟩, net := h.net'.ok, light := h.net', rulesL := h.rules, nz := fun e he w hw x hx => ?_ }
  have := (hform e he w hw).segs x hx
  simp only [isSeg, Bool.and_eq_true, decide_eq_true_eq] at this
  omega
end Go.V
