/- Contracts of chapter 23: whether a net accepts classes, by the program. -/
import Derived.Test.YtgglheknmlfghaaGreatC9
import Derived.Test.YtgglheknmlfghaaGreatW1
set_option linter.unusedSimpArgs false
set_option linter.unusedVariables false
set_option maxRecDepth 10000
namespace Go.V
open Go Go.Proofs

theorem take_snocG {α : Type} {l : List α} {k : Nat} (h : k < l.length) : l.take (k + 1) = l.take k ++ [l[k]] := by
  rw [List.take_succ_eq_append_getElem h]
/-- Sets of at most three states. -/
def u32 (m : Nat) : D := .int .u32 m
def hasS (m : Nat) (q : Int) : Bool := m.testBit q.toNat
def withS (m : Nat) (q : Int) : Nat := m ||| (1 <<< q.toNat)
theorem has_bits : ∀ (m : Fin 8) (q : Fin 3), (decide (bitsD .and .u32 (shiftD .shr .u32 (m.val : Int) (q.val : Int)) 1 = 1)) = m.val.testBit q.val := by decide +kernel
theorem with_bits : ∀ (m : Fin 8) (q : Fin 3), bitsD .or .u32 (m.val : Int) (shiftD .shl .u32 1 (q.val : Int)) = ((m.val ||| (1 <<< q.val) : Nat) : Int) := by decide +kernel
theorem with_lt : ∀ (m : Fin 8) (q : Fin 3), m.val ||| (1 <<< q.val) < 8 := by decide +kernel
theorem hasS_bits {m : Nat} {q : Int} (hm : m < 8) (h0 : 0 ≤ q) (h1 : q < 3) : (decide (bitsD .and .u32 (shiftD .shr .u32 (m : Int) q) 1 = 1)) = hasS m q := by
  have := has_bits ⟨m, hm⟩ ⟨q.toNat, by omega⟩
  simp only [show ((q.toNat : Nat) : Int) = q by omega] at this
  exact this
theorem withS_bits {m : Nat} {q : Int} (hm : m < 8) (h0 : 0 ≤ q) (h1 : q < 3) : bitsD .or .u32 (m : Int) (shiftD .shl .u32 1 q) = ((withS m q : Nat) : Int) := by
  have := with_bits ⟨m, hm⟩ ⟨q.toNat, by omega⟩
  simp only [show ((q.toNat : Nat) : Int) = q by omega] at this
  exact this
theorem withS_lt {m : Nat} {q : Int} (hm : m < 8) (h0 : 0 ≤ q) (h1 : q < 3) : withS m q < 8 := with_lt ⟨m, hm⟩ ⟨q.toNat, by omega⟩
theorem setHas_ok (m : Nat) (q : Int) (hm : m < 8) (h0 : 0 ≤ q) (h1 : q < 3) : PureR Tryz.prog 188 [u32 m, int q] (.bool (hasS m q)) := by
  refine pure_of_body mixed Tryz.func188 rfl call_188 ?_
  simp (decide := true) [Tryz.f188, u32, int]
  have hw : IntKind.u64.wrap q = q := by rw [IntKind.wrap_u64]; omega
  rw [hw]
  exact .inl ⟨h0, hasS_bits hm h0 h1⟩
theorem setWith_ok (m : Nat) (q : Int) (hm : m < 8) (h0 : 0 ≤ q) (h1 : q < 3) : PureR Tryz.prog 166 [u32 m, int q] (u32 (withS m q)) := by
  refine pure_of_body mixed Tryz.func166 rfl call_166 ?_
  simp (decide := true) [Tryz.f166, u32, int]
  have hw : IntKind.u64.wrap q = q := by rw [IntKind.wrap_u64]; omega
  rw [hw]
  exact .inl ⟨h0, withS_bits hm h0 h1⟩
abbrev stepsFn (n : Nett) (m : Nat) : D := .fn 187 [.ptr n.cells, .ptr [u32 m]]
theorem steps_ok (n : Nett) (m : Nat) : PureR Tryz.prog 179 [.agg n.cells, u32 m] (stepsFn n m) := by
  refine pure_of_body mixed Tryz.func179 rfl call_179 ?_
  simp (decide := true) [Tryz.f179, u32, int, Nett.cells]
def takeStep (m : Nat) (c : Int) (out : Nat) (s : Stp) : Nat := if hasS m s.src = true ∧ s.cls = c then withS out s.dst else out
def afterS (l : List Stp) (m : Nat) (c : Int) : Nat := l.foldl (takeStep m c) 0
def StepsOk (l : List Stp) : Prop := ∀ s ∈ l, (0 ≤ s.src ∧ s.src < 3) ∧ (0 ≤ s.dst ∧ s.dst < 3)
theorem fold_lt8 {m : Nat} {c : Int} : ∀ {l : List Stp} {out : Nat}, StepsOk l → out < 8 → l.foldl (takeStep m c) out < 8
  | [], out, _, h => h
  | s :: l, out, hl, h => by
    rw [List.foldl_cons]
    refine fold_lt8 (fun x hx => hl x (by simp [hx])) ?_
    unfold takeStep
    split
    · have := (hl s (by simp)).2; exact withS_lt h this.1 this.2
    · exact h
theorem afterS_lt {l : List Stp} (h : StepsOk l) (m : Nat) (c : Int) : afterS l m c < 8 := fold_lt8 h (by omega)
/-! the loop of tactics.after over the steps from a set -/
def aftCells (n : Nett) (m : Nat) : List Sym := [.junk, .junk, .junk, .junk, .junk, .bp 2 0, .junk, .bp 1 0, .junk, .junk, .junk, .d (stepsFn n m), .junk, .junk, .junk, .junk, .junk, .junk, .junk, .junk, .junk, .junk]
@[simp] theorem aftCells_lo (n : Nett) (m : Nat) : Sym.los 3 (aftCells n m) := by simp [aftCells, Sym.los, Sym.lo]
noncomputable def aftOwn (n : Nett) (m : Nat) (c : Int) (out : Nat) (s : LoopState) : List (Nat × Obj') :=
  [(0, .raw (.lp #[12] (rAs Tryz.f165) (rBd Tryz.f165) s none) (aftCells n m)), (1, .box 188 [.d (u32 out)]), (2, .box 3 [.d (int c)])]
theorem aft_round (n : Nett) (m : Nat) (c : Int) (out : Nat) (hout : out < 8) (s : Stp) (hs : 0 ≤ s.dst ∧ s.dst < 3) :
    RoundC Tryz.prog 0 [.d (.agg s.row)] (aftOwn n m c out .ready) 3 (.d (.bool true)) 3 (aftOwn n m c (if s.cls = c then withS out s.dst else out) .ready) [] := by
  refine round_ev (cells := aftCells n m) (ps := #[12]) (aS := rAs Tryz.f165) (bd := rBd Tryz.f165) rfl (by simp) (by simp [aftCells]) (by omega) (by simp [Sym.los, Sym.lo]) ?_
  have hw := setWith_ok out s.dst hout hs.1 hs.2
  by_cases hc : s.cls = c
  · rw [if_pos hc]
    simp (decide := true) [aftOwn, aftCells, rAs, rBd, theRange, Tryz.f165, Stp.row, int, u32, hc]
    refine ECall.pure (by rfl) hw (by simp [u32, int]) ?_
    simp (decide := true) [u32, int]
  · rw [if_neg hc]
    simp (decide := true) [aftOwn, aftCells, rAs, rBd, theRange, Tryz.f165, Stp.row, int, u32, hc]
set_option maxHeartbeats 2000000 in
theorem aft_iter (n : Nett) (m : Nat) (c : Int) (hok : StepsOk n.steps) (hm : m < 8) (hl : n.steps.length < 2^40) :
    CallC Tryz.prog 187 [.yd 0, .d (.ptr n.cells), .d (.ptr [u32 m])] (aftOwn n m c 0 .ready) 3 (.d (.tup [])) 3 (aftOwn n m c (afterS n.steps m c) .ready) [] := by
  refine CallC.unitX (callC_of_body mixed Tryz.func187 rfl call_187 (by simp [Sym.los, Sym.lo]) ?_)
  simp (decide := true) [Tryz.f187, Nett.cells, stepsD, int, u32]
  refine loop_ruleT mixed (fun k : Nat => { n := 24, next := 3, base := 3, slots := [(0, .yd 0), (1, .d (.ptr n.cells)), (2, .d (.ptr [u32 m])), (7, .d (stepsD n.steps)), (8, .d (int n.steps.length)), (9, .d (int k))], own := aftOwn n m c ((n.steps.take k).foldl (takeStep m c) 0) .ready })
    (fun k => k ≤ n.steps.length) (fun k => n.steps.length - k) 0 (by simp) (by simp (decide := true) [int, u32, stepsD, Nett.cells, aftOwn]) ?_
  intro k hk
  refine triple_of_evX ?_
  by_cases hlt : k < n.steps.length
  case neg =>
    have : k = n.steps.length := by omega
    subst this
    rw [List.take_length]
    have ha : (n.steps.foldl (takeStep m c) 0) = afterS n.steps m c := rfl
    rw [ha]
    simp (decide := true) [int, u32, stepsD, Nett.cells, aftOwn]
  have hlt' : (k : Int) < n.steps.length := by omega
  have hsn : (n.steps.take (k + 1)).foldl (takeStep m c) 0 = takeStep m c ((n.steps.take k).foldl (takeStep m c) 0) n.steps[k] := by rw [take_snocG hlt, List.foldl_append]; rfl
  have ho8 : (n.steps.take k).foldl (takeStep m c) 0 < 8 := fold_lt8 (fun x hx => hok x (List.mem_of_mem_take hx)) (by omega)
  obtain ⟨s, es⟩ : ∃ s, n.steps[k] = s := ⟨_, rfl⟩
  have e1 : n.steps[k]? = some s := by rw [List.getElem?_eq_getElem hlt, es]
  have hsok := hok s (by rw [← es]; exact List.getElem_mem hlt)
  rw [es] at hsn
  generalize (n.steps.take k).foldl (takeStep m c) 0 = out at hsn ho8
  have hH := setHas_ok m s.src hm hsok.1.1 hsok.1.2
  have hR := aft_round n m c out ho8 s hsok.2
  simp (decide := true) [int, u32, stepsD, Nett.cells, Stp.row, aftOwn, hlt, hlt', e1, es, I64]
  refine ECall.pure (by rfl) hH (by simp [u32, int]) ?_
  cases hb : hasS m s.src with
  | false =>
    have h2 : takeStep m c out s = out := by unfold takeStep; rw [if_neg (by rw [hb]; simp)]
    rw [h2] at hsn
    simp (decide := true) [int, u32, stepsD, Nett.cells, Stp.row, aftOwn, hlt, hlt', e1, es, I64]
    exact ⟨⟨by omega, by omega⟩, k + 1, hlt, by omega, by omega, by rw [hsn]⟩
  | true =>
    have h2 : takeStep m c out s = if s.cls = c then withS out s.dst else out := by unfold takeStep; rw [hb]; simp
    rw [h2] at hsn
    simp (decide := true) [int, u32, stepsD, Nett.cells, Stp.row, aftOwn, hlt, hlt', e1, es, I64]
    refine EYield.to 0 [0, 1, 2] [.d (.agg s.row)] (aftOwn n m c out .ready) (by simp [rho]) (by simp [Stp.row, int]) (by simp [Sym.los, Sym.lo]) (by simp [aftOwn, aftCells, u32, int]; rfl) hR ?_
    simp (decide := true) [int, u32, stepsD, Nett.cells, Stp.row, aftOwn, aftCells, hlt, hlt', e1, es, I64]
    exact ⟨⟨by omega, by omega⟩, k + 1, hlt, by omega, by omega, by rw [hsn]⟩
set_option maxHeartbeats 2000000 in
theorem after_ok (n : Nett) (m : Nat) (c : Int) (hok : StepsOk n.steps) (hm : m < 8) (hl : n.steps.length < 2^40) :
    PureR Tryz.prog 165 [.agg n.cells, u32 m, int c] (u32 (afterS n.steps m c)) := by
  refine pureN_of_bodyN Tryz.func165 rfl call_165 ?_
  refine cutN_ev mixed 2 { n := 22, next := 3, slots := [(1, .d (u32 m)), (3, .bp 0 0), (5, .bp 1 0), (7, .bp 2 0)], own := [(0, .box 33 (n.cells.map .d)), (1, .box 3 [.d (int c)]), (2, .box 188 [.d (u32 0)])] } rfl ?_ ?_
  · simp (decide := true) [Tryz.f165, headC, Nett.cells, int, u32]
  simp only [tailC]
  refine tripleN_seqR (cutN_ev mixed 1 { n := 22, next := 3, slots := [(5, .bp 1 0), (7, .bp 2 0), (11, .d (stepsFn n m))], own := [(1, .box 3 [.d (int c)]), (2, .box 188 [.d (u32 0)])] } rfl ?_ ?_)
  · simp (decide := true) [headC, Nett.cells, int, u32]
    refine ECall.pure (by rfl) (steps_ok n m) (by simp [Nett.cells, int, u32]) ?_
    simp (decide := true) [Nett.cells, int, u32]
  simp only [tailC]
  refine tripleN_block (tripleN_range (k := 0) (ids := [3, 2, 1]) (args0 := [.yd 0, .d (.ptr n.cells), .d (.ptr [u32 m])]) (own0 := aftOwn n m c 0 .ready) (by rfl) (by simp [rho]) (by simp) (by simp [Sym.los, Sym.lo]) ?_ (aft_iter n m c hok hm hl) ?_)
  · simp (decide := true) [aftOwn, aftCells, rAs, rBd, theRange, Tryz.f165, u32, int]
  · simp (decide := true) [aftOwn, aftCells, u32, int]
end Go.V
