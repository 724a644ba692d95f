/- Contracts and plain laws of this seat: part M2. It needs no conditions. -/
import Derived.Test.YtgglheknmlfghaaGreatM1
import Derived.Test.YtgglheknmlfghaaGreatW1
set_option linter.unusedVariables false
set_option linter.unusedSimpArgs false
set_option linter.unusedSectionVars false
set_option maxRecDepth 100000
namespace Go.V
open Go Go.Proofs
theorem take_snocG {α : Type} {l : List α} {k : Nat} (h : k < l.length) : l.take (k + 1) = l.take k ++ [l[k]] := by
  rw [List.take_succ_eq_append_getElem h]
def u32 (m : Nat) : D := .int .u32 m
def hasS (m : Nat) (q : Int) : Bool := m.testBit q.toNat
def withS (m : Nat) (q : Int) : Nat := m ||| (1 <<< q.toNat)
theorem has_bits : ∀ (m : Fin 8) (q : Fin 3), (decide (bitsD .and .u32 (shiftD .shr .u32 (m.val : Int) (q.val : Int)) 1 = 1)) = m.val.testBit q.val := by decide +kernel
theorem with_bits : ∀ (m : Fin 8) (q : Fin 3), bitsD .or .u32 (m.val : Int) (shiftD .shl .u32 1 (q.val : Int)) = ((m.val ||| (1 <<< q.val) : Nat) : Int) := by decide +kernel
theorem with_lt : ∀ (m : Fin 8) (q : Fin 3), m.val ||| (1 <<< q.val) < 8 := by decide +kernel
theorem hasS_bits {m : Nat} {q : Int} (hm : m < 8) (h0 : 0 ≤ q) (h1 : q < 3) : (decide (bitsD .and .u32 (shiftD .shr .u32 (m : Int) q) 1 = 1)) = hasS m q := by
  have := has_bits ⟨m, hm⟩ ⟨q.toNat, by omega⟩
  simp only [show ((q.toNat : Nat) : Int) = q by omega] at this
  exact this
theorem withS_bits {m : Nat} {q : Int} (hm : m < 8) (h0 : 0 ≤ q) (h1 : q < 3) : bitsD .or .u32 (m : Int) (shiftD .shl .u32 1 q) = ((withS m q : Nat) : Int) := by
  have := with_bits ⟨m, hm⟩ ⟨q.toNat, by omega⟩
  simp only [show ((q.toNat : Nat) : Int) = q by omega] at this
  exact this
theorem withS_lt {m : Nat} {q : Int} (hm : m < 8) (h0 : 0 ≤ q) (h1 : q < 3) : withS m q < 8 := with_lt ⟨m, hm⟩ ⟨q.toNat, by omega⟩
abbrev stepsFn (n : Nett) (m : Nat) : D := .fn 187 [.ptr n.cells, .ptr [u32 m]]
def takeStep (m : Nat) (c : Int) (out : Nat) (s : Stp) : Nat := if hasS m s.src = true ∧ s.cls = c then withS out s.dst else out
def afterS (l : List Stp) (m : Nat) (c : Int) : Nat := l.foldl (takeStep m c) 0
def StepsOk (l : List Stp) : Prop := ∀ s ∈ l, (0 ≤ s.src ∧ s.src < 3) ∧ (0 ≤ s.dst ∧ s.dst < 3)
theorem fold_lt8 {m : Nat} {c : Int} : ∀ {l : List Stp} {out : Nat}, StepsOk l → out < 8 → l.foldl (takeStep m c) out < 8
  | [], out, _, h => h
  | s :: l, out, hl, h => by
    rw [List.foldl_cons]
    refine fold_lt8 (fun x hx => hl x (by simp [hx])) ?_
    unfold takeStep
    split
    · have := (hl s (by simp)).2; exact withS_lt h this.1 this.2
    · exact h
theorem afterS_lt {l : List Stp} (h : StepsOk l) (m : Nat) (c : Int) : afterS l m c < 8 := fold_lt8 h (by omega)
def aftCells (n : Nett) (m : Nat) : List Sym := [.junk, .junk, .junk, .junk, .junk, .bp 2 0, .junk, .bp 1 0, .junk, .junk, .junk, .d (stepsFn n m), .junk, .junk, .junk, .junk, .junk, .junk, .junk, .junk, .junk, .junk]
@[simp] theorem aftCells_lo (n : Nett) (m : Nat) : Sym.los 3 (aftCells n m) := by simp [aftCells, Sym.los, Sym.lo]
end Go.V
namespace Go.V
open Go Go.Proofs
def runS (l : List Stp) (cs : List Int) : Nat := cs.foldl (fun m c => afterS l m c) 1
def finalS (l : List Int) : Nat := l.foldl withS 0
theorem finalS_lt : ∀ (l : List Int) (m : Nat), (∀ q ∈ l, 0 ≤ q ∧ q < 3) → m < 8 → l.foldl withS m < 8
  | [], m, _, hm => hm
  | q :: l, m, h, hm => by
    rw [List.foldl_cons]
    exact finalS_lt l _ (fun x hx => h x (by simp [hx])) (withS_lt hm (h q (by simp)).1 (h q (by simp)).2)
def NetOk (n : Nett) : Prop := StepsOk n.steps ∧ (∀ q ∈ n.final, 0 ≤ q ∧ q < 3) ∧ n.steps.length < 2^40 ∧ n.final.length < 2^40
def acceptsS (n : Nett) (cs : List Int) : Bool := decide (runS n.steps cs &&& finalS n.final ≠ 0)
theorem getF1_ok (e : Ent) (id : Int) : PureR Tryz.prog 144 [.agg e.row, .ptr [int id]] (.bool (decide (e.id = id))) := by
  refine pure_of_body mixed Tryz.func144 rfl call_144 ?_
  simp (decide := true) [Tryz.f144, Ent.row, int]
theorem indexE_ok (l : List Ent) (id : Int) (hl : l.length < 2^62) : PureR Tryz.prog 143 [lexD l, .fn 144 [.ptr [int id]]] (int (findE l id)) := by
  refine pure_of_body mixed Tryz.func143 rfl call_143 ?_
  simp [Tryz.f143, lexD]
  refine loop_rule mixed (fun k : Nat => { n := 19, next := 0, slots := [(0, .d (lexD l)), (1, .d (.fn 144 [.ptr [int id]])), (6, .d (lexD l)), (7, .d (.int .i64 l.length)), (8, .d (.int .i64 k))], own := [] })
    (fun k => k ≤ l.length ∧ ∀ e ∈ l.take k, e.id ≠ id) (fun k => l.length - k) 0 (by simp) (by simp [lexD]) ?_
  intro k ⟨hk, hp⟩
  by_cases hlt : k < l.length
  · have hlt' : (k : Int) < l.length := by omega
    obtain ⟨e, ee⟩ : ∃ e, l[k] = e := ⟨_, rfl⟩
    have e1 : l[k]? = some e := by rw [List.getElem?_eq_getElem hlt, ee]
    simp (decide := true) [lexD, Ent.row, int, e1, ee, hlt, hlt', I64]
    refine ECall.pure (by rfl) (getF1_ok e id) (by simp [Ent.row, int]) ?_
    by_cases he : e.id = id
    · have := findE_hit hlt hp (by rw [ee]; exact he)
      simp (decide := true) [lexD, int, he, I64, findE, this]
    · simp (decide := true) [lexD, int, he, I64]
      exact ⟨⟨by omega, by omega⟩, k + 1, ⟨hlt, take_all hlt hp (by rw [ee]; exact he)⟩, by omega, by omega⟩
  · have : k = l.length := by omega
    subst this
    simp (decide := true) [lexD, int]
    simp [findE, findE_miss (by simpa using hp)]
theorem findE_get (l : List Ent) (id : Int) : (findE l id < 0 ∧ getE l id = (Ent.zero, false)) ∨ ∃ k : Nat, ∃ h : k < l.length, findE l id = k ∧ getE l id = (l[k], true) := by
  unfold findE getE
  cases h : l.findIdx? (·.id = id) with
  | none =>
    left
    rw [List.findIdx?_eq_none_iff] at h
    have : l.find? (·.id = id) = none := by rw [List.find?_eq_none]; intro x hx; simpa using h x hx
    rw [this]
    exact ⟨by simp, rfl⟩
  | some k =>
    right
    rw [List.findIdx?_eq_some_iff_getElem] at h
    obtain ⟨h1, h2, h3⟩ := h
    refine ⟨k, h1, rfl, ?_⟩
    have : l.find? (·.id = id) = some l[k] := by
      rw [List.find?_eq_some_iff_getElem]
      exact ⟨h2, k, h1, rfl, fun j hj => by simpa using h3 j hj⟩
    rw [this]
theorem lexGet_ok (l : List Ent) (id : Int) (hl : l.length < 2^40) : PureR Tryz.prog 99 [lexD l, int id] (.tup [.agg (getE l id).1.row, .bool (getE l id).2]) := by
  refine pure_of_body mixed Tryz.func99 rfl call_99 ?_
  simp (decide := true) [Tryz.f99, lexD, int]
  refine ECall.pure (by rfl) (indexE_ok l id (by omega)) (fun _ => rfl) ?_
  rcases findE_get l id with ⟨h1, h2⟩ | ⟨k, hk, h1, h2⟩
  · rw [h2]
    simp (decide := true) [lexD, int, h1, Ent.zero, Ent.row, ints, listsD, sensD, lnkD, rfD]
  · rw [h2, h1]
    have hk0 : ¬ (k : Int) < 0 := by omega
    have hk' : (k : Int) < l.length := by omega
    simp (decide := true) [lexD, int, hk0, hk, hk', Ent.row, ints, listsD, sensD, lnkD, rfD]
end Go.V
namespace Go.V
open Go Go.Proofs
def wayR (l : List Ent) : Nat → Int → Option (List Sens)
  | 0, _ => none
  | f + 1, id => if (getE l id).2 = true then (if (getE l id).1.senses ≠ [] then some (getE l id).1.senses else if (getE l id).1.main = 0 then none else wayR l f (getE l id).1.main) else none
def sensesE (l : List Ent) (id : Int) : List Sens := (wayR l (l.length + 1) id).getD []
theorem cloneSens_ok (l : List Sens) (hl : l.length < 2^40) : PureR Tryz.prog 139 [sensD l] (sensD l) := by
  refine pure_of_body mixed Tryz.func139 rfl call_139 ?_
  simp (decide := true) [Tryz.f139, sensD, maxLen]
  exact ⟨fun a _ => rfl, by omega, by omega⟩
def senCells : List Sym := [.junk, .junk, .junk, .junk, .bp 1 0, .junk, .junk, .junk, .fn 163 [.bp 2 0, .bp 3 0], .junk, .junk, .junk, .junk, .junk, .junk, .junk, .junk]
@[simp] theorem senCells_lo : Sym.los 4 senCells := by simp [senCells, Sym.los, Sym.lo]
@[simp] theorem senCells_ren : rens (rho' [0, 1, 2, 3] 5) senCells = senCells := rfl
noncomputable def senRaw (s : LoopState) (pd : Option Code) : Obj' := .raw (.lp #[9] (rAs Tryz.f93) (rBd Tryz.f93) s pd) senCells
noncomputable def senOwn (l : List Ent) (id : Int) : List (Nat × Obj') :=
  [(0, senRaw .ready none), (1, .box 55 [.nils]), (2, .box 34 [.d (lexD l)]), (3, .box 3 [.d (int id)])]
noncomputable def senOwn1 (l : List Ent) (id : Int) (ss : List Sens) : List (Nat × Obj') :=
  [(0, senRaw .done (some .ret)), (1, .box 55 [.d (sensD ss)]), (2, .box 34 [.d (lexD l)]), (3, .box 3 [.d (int id)])]
theorem sen_round0 (l : List Ent) (id : Int) (e : Ent) (he : e.senses = []) :
    RoundC Tryz.prog 0 [.d (.agg e.row)] (senOwn l id) 4 (.d (.bool true)) 4 (senOwn l id) [] := by
  refine round_ev (cells := senCells) (ps := #[9]) (aS := rAs Tryz.f93) (bd := rBd Tryz.f93) rfl (by simp) (by simp [senCells]) (by omega) (by simp [Sym.los, Sym.lo]) ?_
  simp (decide := true) [senOwn, senRaw, senCells, rAs, rBd, theRange, Tryz.f93, Ent.row, int, he, sensD]
theorem sen_round1 (l : List Ent) (id : Int) (e : Ent) (he : e.senses ≠ []) (hl : e.senses.length < 2^40) :
    RoundC Tryz.prog 0 [.d (.agg e.row)] (senOwn l id) 4 (.d (.bool false)) 4 (senOwn1 l id e.senses) [] := by
  refine round_ev (cells := senCells) (ps := #[9]) (aS := rAs Tryz.f93) (bd := rBd Tryz.f93) rfl (by simp) (by simp [senCells]) (by omega) (by simp [Sym.los, Sym.lo]) ?_
  have hC := cloneSens_ok e.senses hl
  have hp : (0 : Int) < e.senses.length := by
    have : e.senses.length ≠ 0 := fun e2 => he (List.eq_nil_of_length_eq_zero e2)
    omega
  simp (decide := true) [senOwn, senOwn1, senRaw, senCells, rAs, rBd, theRange, Tryz.f93, Ent.row, int, he, hp, sensD]
  intro _
  refine ECall.pure (by rfl) hC (by simp [sensD]) ?_
  simp (decide := true) [senOwn, senOwn1, senRaw, senCells, int, sensD]
noncomputable def senFin : Option (List Sens) → List (Nat × Obj')
  | none => [(0, senRaw .ready none), (1, .box 55 [.nils])]
  | some ss => [(0, senRaw .done (some .ret)), (1, .box 55 [.d (sensD ss)])]
set_option maxHeartbeats 4000000 in
theorem sen_iter (l : List Ent) (id : Int) (hl : l.length < 2^40) (hs : ∀ e ∈ l, e.senses.length < 2^40) :
    CallC Tryz.prog 163 [.yd 0, .bp 2 0, .bp 3 0] (senOwn l id) 4 (.d (.tup [])) 4 (senFin (wayR l (l.length + 1) id)) [] := by
  refine CallC.unitX (callC_of_body mixed Tryz.func163 rfl call_163 (by simp [Sym.los, Sym.lo]) ?_)
  simp (decide := true) [Tryz.f163, senOwn, lexD, int, I64]
  refine ⟨⟨by omega, by omega⟩, ?_⟩
  refine loop_ruleT mixed (fun x : Nat × Int => { n := 33, next := 4, base := 4, slots := [(0, .yd 0), (1, .bp 2 0), (2, .bp 3 0), (8, .d (int (l.length + 1))), (9, .d (int x.1))], own := senOwn l x.2 })
    (fun x => x.1 ≤ l.length + 1 ∧ wayR l (l.length + 1 - x.1) x.2 = wayR l (l.length + 1) id) (fun x => l.length + 1 - x.1) (0, id) (by simp) (by simp (decide := true) [int, lexD, senOwn, senRaw]) ?_
  rintro ⟨k, i⟩ ⟨hk, hw⟩
  simp only at hk hw
  refine triple_of_evX ?_
  by_cases hlt : k < l.length + 1
  case neg =>
    have : k = l.length + 1 := by omega
    subst this
    rw [Nat.sub_self] at hw
    rw [← hw]
    simp (decide := true) [int, lexD, senOwn, senRaw, wayR, senFin]
  have hlt' : (k : Int) < l.length + 1 := by omega
  rw [show l.length + 1 - k = (l.length - k) + 1 by omega, wayR] at hw
  have hG := lexGet_ok l i hl
  have hmem : (getE l i).2 = true → (getE l i).1 ∈ l := by
    rcases findE_get l i with ⟨_, h2⟩ | ⟨j, hj, _, h2⟩
    · rw [h2]; intro h; cases h
    · rw [h2]; intro _; exact List.getElem_mem hj
  generalize getE l i = g at hw hG hmem
  obtain ⟨e, ok⟩ := g
  simp only at hw hG hmem
  simp (decide := true) [int, lexD, senOwn, senRaw, hlt, hlt']
  refine ECall.pure (by rfl) hG (by simp [lexD, int]) ?_
  cases ok with
  | false =>
    simp only [Bool.false_eq_true, if_false] at hw
    rw [← hw]
    simp (decide := true) [int, lexD, senOwn, senRaw, senFin, Ent.row, hlt, hlt']
  | true =>
    simp only [if_true] at hw
    have hem := hmem rfl
    by_cases hes : e.senses = []
    · have hR := sen_round0 l i e hes
      rw [if_neg (by simp [hes])] at hw
      simp (decide := true) [int, lexD, senOwn, senRaw, Ent.row, hlt, hlt']
      refine EYield.to 0 [0, 1, 2, 3] [.d (.agg e.row)] (senOwn l i) (by simp [rho]) (by simp [Ent.row, int]) (by simp [Sym.los, Sym.lo]) (by simp [senOwn, senRaw, senCells, lexD, int]; rfl) hR ?_
      by_cases hm0 : e.main = 0
      · rw [if_pos hm0] at hw
        rw [← hw]
        simp (decide := true) [int, lexD, senOwn, senRaw, senFin, Ent.row, hlt, hlt', hm0]
      · rw [if_neg hm0] at hw
        simp (decide := true) [int, lexD, senOwn, senRaw, senFin, Ent.row, hlt, hlt', hm0]
        exact ⟨by unfold I64; omega, k + 1, e.main, ⟨by omega, by rw [show l.length + 1 - (k + 1) = l.length - k by omega]; exact hw⟩, by omega, by omega, rfl⟩
    · have hR := sen_round1 l i e hes (hs e hem)
      rw [if_pos hes] at hw
      rw [← hw]
      simp (decide := true) [int, lexD, senOwn, senRaw, Ent.row, hlt, hlt']
      refine EYield.to 0 [0, 1, 2, 3] [.d (.agg e.row)] (senOwn l i) (by simp [rho]) (by simp [Ent.row, int]) (by simp [Sym.los, Sym.lo]) (by simp [senOwn, senRaw, senCells, lexD, int]; rfl) hR ?_
      simp (decide := true) [int, lexD, senOwn1, senRaw, senFin, Ent.row, hlt, hlt']
theorem way_ok (l : List Ent) (id : Int) : CallC Tryz.prog 138 [.d (lexD l), .d (int id)] [] 0 (.fn 163 [.bp 0 0, .bp 1 0]) 2 [(0, .box 34 [.d (lexD l)]), (1, .box 3 [.d (int id)])] [] := by
  refine callC_of_body mixed Tryz.func138 rfl call_138 (by simp [Sym.los, Sym.lo]) ?_
  simp (decide := true) [Tryz.f138, lexD, int]
set_option maxHeartbeats 2000000 in
theorem senses_ok (l : List Ent) (id : Int) (hl : l.length < 2^40) (hs : ∀ e ∈ l, e.senses.length < 2^40) : PureR Tryz.prog 93 [lexD l, int id] (sensD (sensesE l id)) := by
  refine pureN_of_bodyN Tryz.func93 rfl call_93 ?_
  refine cutN_ev mixed 1 { n := 17, next := 1, slots := [(0, .d (lexD l)), (1, .d (int id)), (4, .bp 0 0)], own := [(0, .box 55 [.nils])] } rfl ?_ ?_
  · simp (decide := true) [Tryz.f93, headC, lexD, int]
  simp only [tailC]
  refine tripleN_seqR (cutN_ev mixed 1 { n := 17, next := 3, slots := [(4, .bp 0 0), (8, .fn 163 [.bp 1 0, .bp 2 0])], own := [(0, .box 55 [.nils]), (1, .box 34 [.d (lexD l)]), (2, .box 3 [.d (int id)])] } rfl ?_ ?_)
  · simp (decide := true) [headC, lexD, int]
    refine ECall.mut [] [.d (lexD l), .d (int id)] [] (by rfl) (by simp [lexD, int]) (by simp) (by simp) (way_ok l id) ?_
    simp (decide := true) [lexD, int]
  simp only [tailC]
  refine tripleN_block (tripleN_range (k := 0) (ids := [3, 0, 1, 2]) (args0 := [.yd 0, .bp 2 0, .bp 3 0]) (own0 := senOwn l id) (by rfl) (by simp [rho]) (by simp) (by simp [Sym.los, Sym.lo]) ?_ (sen_iter l id hl hs) ?_)
  · simp (decide := true) [senOwn, senRaw, senCells, rAs, rBd, theRange, Tryz.f93, int, lexD]
  · unfold sensesE
    cases wayR l (l.length + 1) id with
    | none =>
      simp (decide := true) [senFin, senRaw, int, lexD, sensD]
    | some ss =>
      simp (decide := true) [senFin, senRaw, int, lexD]
end Go.V
namespace Go.V
open Go Go.Proofs
structure LexFit (l : List Ent) : Prop where
  len : l.length < 2^40
  alts : ∀ e ∈ l, e.alts.length < 2^39
  form : ∀ e ∈ l, ∀ w ∈ e.forms, w.length < 2^20
  senses : ∀ e ∈ l, e.senses.length < 2^40
theorem getE_mem {l : List Ent} {id : Int} (h : (getE l id).2 = true) : (getE l id).1 ∈ l := by
  rcases findE_get l id with ⟨_, h2⟩ | ⟨j, hj, _, h2⟩
  · rw [h2] at h; cases h
  · rw [h2]; exact List.getElem_mem hj
theorem formsR_ok (e : Ent) (h : e.alts.length < 2^40) : PureR Tryz.prog 104 [.agg e.row] (listsD e.forms) := by
  refine pure_of_body mixed Tryz.func104 rfl call_104 ?_
  simp [Tryz.f104, Ent.row, listsD, ints, Ent.forms, maxLen]
  omega
def unAgg : D → List Sym
  | .agg l => l.map .d
  | _ => []
def formE (l : List Ent) (p : Prt) : Ent × List Int × Bool :=
  if (getE l p.entry).2 = true ∧ 0 ≤ p.alt ∧ p.alt < (getE l p.entry).1.forms.length then ((getE l p.entry).1, ((getE l p.entry).1.forms[p.alt.toNat]?.getD []), true) else ((getE l p.entry).1, [], false)
end Go.V
namespace Go.V
open Go Go.Proofs
def classesE (l : List Ent) (ps : List Prt) : List Int := ps.flatMap fun p => if (formE l p).2.2 = true then [(formE l p).1.cls] else []
def baseE (l : List Ent) (ps : List Prt) : List Int := ps.flatMap fun p => if (formE l p).2.2 = true then (formE l p).2.1 else []
end Go.V
namespace Go.V
open Go Go.Proofs
def idxL (l : List Int) (x : Int) : Int := match l.findIdx? (· = x) with
  | some k => k
  | none => -1
theorem idxL_mem (l : List Int) (x : Int) : (0 ≤ idxL l x ↔ x ∈ l) := by
  unfold idxL
  cases h : l.findIdx? (· = x) with
  | none =>
    rw [List.findIdx?_eq_none_iff] at h
    constructor
    · intro e; change (0 : Int) ≤ -1 at e; omega
    · intro e; have := h x e; simp at this
  | some k =>
    rw [List.findIdx?_eq_some_iff_getElem] at h
    obtain ⟨h1, h2, _⟩ := h
    constructor
    · intro _; have h3 : l[k] = x := by simpa using h2
      rw [← h3]; exact List.getElem_mem h1
    · intro _; exact Int.natCast_nonneg k
theorem index_ok (l : List Int) (x : Int) (hl : l.length < 2^62) : PureR Tryz.prog 148 [ints l, int x] (int (idxL l x)) := by
  refine pure_of_body mixed Tryz.func148 rfl call_148 ?_
  simp [Tryz.f148, ints]
  refine loop_rule mixed (fun k : Nat => { n := 19, next := 0, slots := [(0, .d (ints l)), (1, .d (int x)), (6, .d (ints l)), (7, .d (.int .i64 l.length)), (8, .d (.int .i64 k))], own := [] })
    (fun k => k ≤ l.length ∧ ∀ y ∈ l.take k, y ≠ x) (fun k => l.length - k) 0 (by simp) (by simp [ints, int]) ?_
  intro k ⟨hk, hp⟩
  by_cases hlt : k < l.length
  · have hlt' : (k : Int) < l.length := by omega
    obtain ⟨c, ec⟩ : ∃ c, l[k] = c := ⟨_, rfl⟩
    have e1 : l[k]? = some c := by rw [List.getElem?_eq_getElem hlt, ec]
    by_cases hx : c = x
    · have hf : l.findIdx? (· = x) = some k := by
        rw [List.findIdx?_eq_some_iff_getElem]
        refine ⟨hlt, by simpa [ec] using hx, fun j hj => ?_⟩
        have := hp l[j] (by rw [List.mem_take_iff_getElem]; exact ⟨j, by omega, rfl⟩)
        simpa using this
      subst hx
      simp (decide := true) [ints, int, e1, ec, hlt, hlt', I64, idxL, hf]
    · have hx' : ¬ x = c := fun e => hx e.symm
      simp (decide := true) [ints, int, e1, ec, hlt, hlt', hx, hx', I64]
      exact ⟨⟨by omega, by omega⟩, k + 1, ⟨hlt, take_all hlt hp (by rw [ec]; exact hx)⟩, by omega, by omega⟩
  · have : k = l.length := by omega
    subst this
    have hf : l.findIdx? (· = x) = none := by
      rw [List.findIdx?_eq_none_iff]; intro y hy; have := hp y (by rwa [List.take_length]); simpa using this
    simp (decide := true) [ints, int, idxL, hf]
theorem containsI_ok (l : List Int) (x : Int) (hl : l.length < 2^62) : PureR Tryz.prog 180 [ints l, int x] (.bool (decide (x ∈ l))) := by
  refine pure_of_body mixed Tryz.func180 rfl call_180 ?_
  simp (decide := true) [Tryz.f180, int, ints]
  refine ECall.pure (by rfl) (index_ok l x hl) (fun _ => rfl) ?_
  have := idxL_mem l x
  simp (decide := true) [int, this]
theorem numHas_ok (l : List Int) (x : Int) (hl : l.length < 2^62) : PureR Tryz.prog 167 [ints l, int x] (.bool (decide (x ∈ l))) := by
  refine pure_of_body mixed Tryz.func167 rfl call_167 ?_
  simp (decide := true) [Tryz.f167, int, ints]
  refine ECall.pure (by rfl) (containsI_ok l x hl) (by simp) ?_
  simp (decide := true) [int]
def ctxD (inv : List Phon) (cs : List Cls) : D := .agg [invD inv, clsD cs]
theorem ctxIn_ok (inv : List Phon) (cs : List Cls) (k : Nat) (hk : k < cs.length) (n : Int) (hl : inv.length < 2^62) : PureR Tryz.prog 169 [ctxD inv cs, int k, int n] (.bool (inCls inv n cs[k])) := by
  have hk' : (k : Int) < cs.length := by omega
  obtain ⟨c, ec⟩ : ∃ c, cs[k] = c := ⟨_, rfl⟩
  have e1 : cs[k]? = some c := by rw [List.getElem?_eq_getElem hk, ec]
  rw [ec]
  refine pure_of_body mixed Tryz.func169 rfl call_169 ?_
  simp (decide := true) [Tryz.f169, int, ctxD, clsD, Cls.row, hk, hk', e1, ec]
  refine scall_pure (by rfl) (by rfl) (in_ok inv n c hl) (by simp [int, Cls.row]) ?_
  simp (decide := true) [int]
def fitsE (inv : List Phon) (cs : List Cls) (ws : List Int) : Bool := (ws.zip cs).all fun x => inCls inv x.1 x.2
theorem zip_snoc {α β : Type} {a : List α} {b : List β} {k : Nat} (h : k < a.length) (h' : k < b.length) : (a.take (k + 1)).zip (b.take (k + 1)) = (a.take k).zip (b.take k) ++ [(a[k], b[k])] := by
  rw [take_snocG h, take_snocG h', List.zip_append (by rw [List.length_take, List.length_take]; omega)]; rfl
theorem fits_ok (inv : List Phon) (cs : List Cls) (ws : List Int) (hw : ws.length = cs.length) (hl : inv.length < 2^62) (hc : cs.length < 2^62) :
    PureR Tryz.prog 168 [.fn 169 [], ctxD inv cs, ints ws] (.bool (fitsE inv cs ws)) := by
  refine pure_of_body mixed Tryz.func168 rfl call_168 ?_
  simp (decide := true) [Tryz.f168, int, ctxD, ints]
  refine loop_rule mixed (fun k : Nat => { n := 23, next := 1, slots := [(0, .d (.fn 169 [])), (4, .bp 0 0), (9, .d (ints ws)), (10, .d (.int .i64 ws.length)), (11, .d (.int .i64 k))], own := [(0, .box 212 [.d (invD inv), .d (clsD cs)])] })
    (fun k => k ≤ ws.length ∧ ((ws.take k).zip (cs.take k)).all (fun x => inCls inv x.1 x.2) = true) (fun k => ws.length - k) 0 (by simp) (by simp [ints, int]) ?_
  intro k ⟨hk, hp⟩
  by_cases hlt : k < ws.length
  · have hlt' : (k : Int) < ws.length := by omega
    have hlc : k < cs.length := by omega
    have hI := ctxIn_ok inv cs k hlc ws[k] hl
    have hsn := zip_snoc hlt hlc
    obtain ⟨c, ec⟩ : ∃ c, ws[k] = c := ⟨_, rfl⟩
    have e1 : ws[k]? = some c := by rw [List.getElem?_eq_getElem hlt, ec]
    rw [ec] at hI hsn
    simp (decide := true) [ints, int, e1, ec, hlt, hlt', I64]
    refine ECall.pure (by rfl) hI (by simp [ctxD, int]) ?_
    cases hb : inCls inv c cs[k] with
    | true =>
      simp (decide := true) [ints, int, I64]
      refine ⟨⟨by omega, by omega⟩, k + 1, ⟨hlt, ?_⟩, by omega, by omega⟩
      intro x y hxy
      have hall : ((ws.take (k + 1)).zip (cs.take (k + 1))).all (fun x => inCls inv x.1 x.2) = true := by rw [hsn, List.all_append, hp, Bool.true_and]; simp [hb]
      exact List.all_eq_true.1 hall (x, y) hxy
    | false =>
      have hf : fitsE inv cs ws = false := by
        unfold fitsE
        rw [List.all_eq_false]
        refine ⟨(c, cs[k]), ?_, by rw [hb]; decide⟩
        rw [List.mem_iff_getElem]
        exact ⟨k, by rw [List.length_zip]; omega, by rw [List.getElem_zip, ec]⟩
      simp (decide := true) [ints, int, I64, hf]
  · have : k = ws.length := by omega
    subst this
    rw [List.take_length, hw, List.take_length] at hp
    have hf : fitsE inv cs ws = true := hp
    simp (decide := true) [ints, int, hf]
end Go.V
namespace Go.V
open Go Go.Proofs
def siteE (inv : List Phon) (r : Rule) (w : List Int) (k : Nat) : Bool :=
  decide (w[k]?.getD 0 ∈ r.src) && decide (r.left.length ≤ k) && decide (k + 1 + r.right.length ≤ w.length) && !(r.beg && decide (r.left.length < k)) && !(r.fin && decide (k + 1 + r.right.length < w.length)) &&
    fitsE inv r.left ((w.take k).drop (k - r.left.length)) && fitsE inv r.right ((w.take (k + 1 + r.right.length)).drop (k + 1))
structure RuleFit (r : Rule) : Prop where
  src : r.src.length < 2^40
  left : r.left.length < 2^40
  right : r.right.length < 2^40
set_option maxHeartbeats 4000000 in
theorem site_ok (inv : List Phon) (hl : inv.length < 2^62) (r : Rule) (hr : RuleFit r) (w : List Int) (hw : w.length < 2^40) (k : Nat) (hk : k < w.length) :
    PureR Tryz.prog 147 [.agg [invD inv], .agg r.row, ints w, int k] (.bool (siteE inv r w k)) := by
  obtain ⟨h1, h2, h3⟩ := hr
  obtain ⟨x, ex⟩ : ∃ x, w[k] = x := ⟨_, rfl⟩
  have e1 : w[k]? = some x := by rw [List.getElem?_eq_getElem hk, ex]
  have hk' : (k : Int) < w.length := by omega
  have hH := numHas_ok r.src x (by omega)
  obtain ⟨R, hR⟩ : ∃ R, siteE inv r w k = R := ⟨_, rfl⟩
  rw [hR]
  unfold siteE at hR
  rw [e1, Option.getD_some] at hR
  refine pure_of_body mixed Tryz.func147 rfl call_147 ?_
  obtain ⟨src, dst, left, right, beg, fin⟩ := r
  simp only at h1 h2 h3 hH hR
  simp (decide := true) [Tryz.f147, int, Rule.row, clsD, I64]
  refine ⟨by omega, by omega, by omega, ?_⟩
  simp (decide := true) [ints, e1, ex, hk, hk']
  refine scall_pure (by rfl) (by rfl) hH (by simp [int, ints]) ?_
  by_cases hx : x ∈ src
  case neg =>
    have : R = false := by rw [← hR]; simp [hx]
    subst this
    simp (decide := true) [int, hx]
  by_cases hf : left.length ≤ k
  case neg =>
    have : R = false := by rw [← hR]; simp [hf]
    subst this
    have hf' : (k : Int) - left.length < 0 := by omega
    simp (decide := true) [int, hx, hf, hf']
  have hf' : ¬ (k : Int) - left.length < 0 := by omega
  by_cases ht : k + 1 + right.length ≤ w.length
  case neg =>
    have : R = false := by rw [← hR]; simp [ht]
    subst this
    have ht' : (w.length : Int) < k + 1 + right.length := by omega
    simp (decide := true) [int, hx, hf, hf', ht, ht']
  have ht' : ¬ (w.length : Int) < k + 1 + right.length := by omega
  by_cases hb : beg = true ∧ left.length < k
  case pos =>
    obtain ⟨hb1, hb2⟩ := hb
    subst hb1
    have : R = false := by rw [← hR]; simp [hb2]
    subst this
    have hb' : (0 : Int) < (k : Int) - left.length := by omega
    simp (decide := true) [int, hx, hf, hf', ht, ht', hb', hb2]
  have hb2 : (beg && decide (left.length < k)) = false := by
    cases beg
    · rfl
    · simp at hb; simp [hb]
  by_cases he : fin = true ∧ k + 1 + right.length < w.length
  case pos =>
    obtain ⟨he1, he2⟩ := he
    subst he1
    have : R = false := by rw [← hR]; simp [he2]
    subst this
    have he' : (k : Int) + 1 + right.length < w.length := by omega
    cases beg
    · simp (decide := true) [int, hx, hf, hf', ht, ht', he', he2]
    · have hb' : ¬ (0 : Int) < (k : Int) - left.length := by simp at hb; omega
      simp (decide := true) [int, hx, hf, hf', ht, ht', he', he2, hb']
  have he2 : (fin && decide (k + 1 + right.length < w.length)) = false := by
    cases fin
    · rfl
    · simp at he; simp [he]
  have hL1 : ((w.take k).drop (k - left.length)).length = left.length := by rw [List.length_drop, List.length_take]; omega
  have hR1 : ((w.take (k + 1 + right.length)).drop (k + 1)).length = right.length := by rw [List.length_drop, List.length_take]; omega
  have hFl := fits_ok inv left _ hL1 hl (by omega)
  have hFr := fits_ok inv right _ hR1 hl (by omega)
  have eL : ∀ a b, ints ((w.take a).drop b) = .sl (((w.map fun n => [D.int .i64 n]).take a).drop b) := fun a b => by simp [ints, List.map_drop, List.map_take]
  rw [eL] at hFl hFr
  rw [hb2, he2] at hR
  generalize fitsE inv left ((w.take k).drop (k - left.length)) = b1 at hFl hR
  generalize fitsE inv right ((w.take (k + 1 + right.length)).drop (k + 1)) = b2 at hFr hR
  have hR : R = (b1 && b2) := by rw [← hR]; simp [hx, hf, ht]
  subst hR
  have hbeg : beg = true → ¬ (0 : Int) < (k : Int) - left.length := by
    intro e; subst e; simp at hb; omega
  have hfin : fin = true → ¬ (k : Int) + 1 + right.length < w.length := by
    intro e; subst e; simp at he; omega
  have ek : ((k : Int) + 1 + right.length).toNat = k + 1 + right.length := by omega
  have ek1 : ((k : Int) + 1).toNat = k + 1 := by omega
  rw [← ek] at hFr
  cases beg with
  | false =>
    cases fin with
    | false =>
      simp (decide := true) [int, hx, hf, hf', ht, ht']
      refine ⟨⟨by omega, by omega⟩, ?_⟩
      refine scall_pure (by rfl) (by rfl) hFl (by simp [int, ints]) ?_
      cases b1 with
      | false => simp (decide := true) [int]
      | true =>
        simp (decide := true) [int, ints, I64]
        refine ⟨⟨by omega, by omega⟩, ⟨by omega, by omega, by omega⟩, ?_⟩
        refine scall_pure (by rfl) (by rfl) hFr (by simp [int, ints]) ?_
        simp (decide := true) [int]
    | true =>
      have := hfin rfl
      simp (decide := true) [int, hx, hf, hf', ht, ht', this]
      refine ⟨⟨by omega, by omega⟩, ?_⟩
      refine scall_pure (by rfl) (by rfl) hFl (by simp [int, ints]) ?_
      cases b1 with
      | false => simp (decide := true) [int]
      | true =>
        simp (decide := true) [int, ints, I64]
        refine ⟨⟨by omega, by omega⟩, ⟨by omega, by omega, by omega⟩, ?_⟩
        refine scall_pure (by rfl) (by rfl) hFr (by simp [int, ints]) ?_
        simp (decide := true) [int]
  | true =>
    have hb' := hbeg rfl
    have hb3 : ¬ left.length < k := by omega
    cases fin with
    | false =>
      simp (decide := true) [int, hx, hf, hf', ht, ht', hb', hb3]
      refine ⟨⟨by omega, by omega⟩, ?_⟩
      refine scall_pure (by rfl) (by rfl) hFl (by simp [int, ints]) ?_
      cases b1 with
      | false => simp (decide := true) [int]
      | true =>
        simp (decide := true) [int, ints, I64]
        refine ⟨⟨by omega, by omega⟩, ⟨by omega, by omega, by omega⟩, ?_⟩
        refine scall_pure (by rfl) (by rfl) hFr (by simp [int, ints]) ?_
        simp (decide := true) [int]
    | true =>
      have := hfin rfl
      simp (decide := true) [int, hx, hf, hf', ht, ht', hb', hb3, this]
      refine ⟨⟨by omega, by omega⟩, ?_⟩
      refine scall_pure (by rfl) (by rfl) hFl (by simp [int, ints]) ?_
      cases b1 with
      | false => simp (decide := true) [int]
      | true =>
        simp (decide := true) [int, ints, I64]
        refine ⟨⟨by omega, by omega⟩, ⟨by omega, by omega, by omega⟩, ?_⟩
        refine scall_pure (by rfl) (by rfl) hFr (by simp [int, ints]) ?_
        simp (decide := true) [int]
def segE (inv : List Phon) (r : Rule) (w : List Int) (k : Nat) (x : Int) : List Int :=
  if siteE inv r w k = true then (if r.dst[(idxL r.src x).toNat]?.getD 0 = 0 then [] else [r.dst[(idxL r.src x).toNat]?.getD 0]) else [x]
def applyE (inv : List Phon) (r : Rule) (w : List Int) : List Int := (w.zipIdx.map fun x => segE inv r w x.2 x.1).flatten
theorem zipIdx_snoc {α : Type} {l : List α} {k : Nat} (h : k < l.length) : l.zipIdx.take (k + 1) = l.zipIdx.take k ++ [(l[k], k)] := by
  have h' : k < l.zipIdx.length := by simpa using h
  rw [take_snocG h']
  simp
def applyK (inv : List Phon) (r : Rule) (w : List Int) (k : Nat) : List Int := ((w.zipIdx.take k).map fun x => segE inv r w x.2 x.1).flatten
theorem applyK_snoc {inv : List Phon} {r : Rule} {w : List Int} {k : Nat} (h : k < w.length) : applyK inv r w (k + 1) = applyK inv r w k ++ segE inv r w k w[k] := by
  unfold applyK; rw [zipIdx_snoc h, List.map_append, List.flatten_append]; simp
theorem segE_len (inv : List Phon) (r : Rule) (w : List Int) (k : Nat) (x : Int) : (segE inv r w k x).length ≤ 1 := by
  unfold segE; split
  · split <;> simp
  · simp
theorem applyK_len (inv : List Phon) (r : Rule) (w : List Int) : ∀ k, k ≤ w.length → (applyK inv r w k).length ≤ k
  | 0, _ => by simp [applyK]
  | k + 1, h => by
    rw [applyK_snoc (by omega), List.length_append]
    have h1 := applyK_len inv r w k (by omega)
    have h2 := segE_len inv r w k (w[k]'(by omega))
    omega
theorem applyK_all (inv : List Phon) (r : Rule) (w : List Int) : applyK inv r w w.length = applyE inv r w := by
  unfold applyK applyE
  rw [List.take_of_length_le (by simp)]
structure RuleOk (r : Rule) : Prop extends RuleFit r where
  dst : r.dst.length = r.src.length
set_option maxHeartbeats 4000000 in
theorem apply_ok (inv : List Phon) (hl : inv.length < 2^62) (r : Rule) (hr : RuleOk r) (w : List Int) (hw : w.length < 2^40) :
    PureR Tryz.prog 102 [.agg [invD inv], .agg r.row, ints w] (ints (applyE inv r w)) := by
  rw [← applyK_all]
  refine pure_of_body mixed Tryz.func102 rfl call_102 ?_
  simp (decide := true) [Tryz.f102, int, ints, Rule.row]
  refine loop_rule mixed (fun k : Nat => { n := 38, next := 4, slots := [(2, .d (ints w)), (3, .bp 0 0), (4, .bp 1 0), (7, .ar 3), (10, .d (ints w)), (11, .d (int w.length)), (12, .d (int k))], own := [(0, .box 24 [.d (invD inv)]), (1, .box 77 (r.row.map .d)), (3, .arr 3 1 ((applyK inv r w k).map fun n => [int n]))], moved := [3] })
    (fun k => k ≤ w.length) (fun k => w.length - k) 0 (by simp) (by simp (decide := true) [int, ints, Rule.row, applyK]) ?_
  intro k hk
  by_cases hlt : k < w.length
  case neg =>
    have : k = w.length := by omega
    subst this
    simp (decide := true) [int, ints]
  have hlt' : (k : Int) < w.length := by omega
  have hsn := applyK_snoc (inv := inv) (r := r) hlt
  have hlen := applyK_len inv r w k hk
  have hS := site_ok inv hl r hr.toRuleFit w hw k hlt
  obtain ⟨x, ex⟩ : ∃ x, w[k] = x := ⟨_, rfl⟩
  have e1 : w[k]? = some x := by rw [List.getElem?_eq_getElem hlt, ex]
  rw [ex] at hsn
  have hI := index_ok r.src x (by have := hr.src; omega)
  have hmem := idxL_mem r.src x
  have hidx : x ∈ r.src → ∃ j : Nat, j < r.src.length ∧ idxL r.src x = j := by
    intro hx
    unfold idxL at hmem ⊢
    cases hq : r.src.findIdx? (· = x) with
    | none => rw [hq] at hmem; exact absurd (hmem.2 hx) (by decide)
    | some j =>
      rw [List.findIdx?_eq_some_iff_getElem] at hq
      exact ⟨j, hq.1, rfl⟩
  have hsite : siteE inv r w k = true → x ∈ r.src := by
    intro h
    unfold siteE at h
    simp only [Bool.and_eq_true, decide_eq_true_eq] at h
    have := h.1.1.1.1.1.1
    rwa [e1, Option.getD_some] at this
  have hdst := hr.dst
  unfold segE at hsn
  simp (decide := true) [int, ints, Rule.row, hlt, hlt', e1, ex, I64]
  refine ECall.pure (by rfl) hS (by simp) ?_
  cases hb : siteE inv r w k with
  | false =>
    rw [hb] at hsn
    simp only [Bool.false_eq_true, if_false] at hsn
    simp (decide := true) [int, ints, Rule.row, I64]
    exact ⟨by omega, by unfold maxLen; omega, ⟨by omega, by omega⟩, k + 1, hlt, by omega, by omega, by rw [hsn]; simp⟩
  | true =>
    rw [hb] at hsn
    simp only [if_true] at hsn
    obtain ⟨j, hj, ej⟩ := hidx (hsite hb)
    have hjd : j < r.dst.length := by omega
    obtain ⟨y, ey⟩ : ∃ y, r.dst[j] = y := ⟨_, rfl⟩
    have e2 : r.dst[j]? = some y := by rw [List.getElem?_eq_getElem hjd, ey]
    rw [ej, Int.toNat_natCast, e2, Option.getD_some] at hsn
    rw [ej] at hI
    have hj' : (j : Int) < r.dst.length := by omega
    simp (decide := true) [int, ints, Rule.row, I64]
    refine scall_pure (by rfl) (by rfl) hI (by simp [int]) ?_
    simp (decide := true) [int, ints, Rule.row, hjd, hj', e2, ey, I64]
    by_cases hy : y = 0
    · rw [if_pos hy, List.append_nil] at hsn
      simp (decide := true) [int, ints, Rule.row, hy, I64]
      exact ⟨⟨by omega, by omega⟩, k + 1, hlt, by omega, by omega, by rw [hsn]⟩
    · rw [if_neg hy] at hsn
      simp (decide := true) [int, ints, Rule.row, hy, I64]
      exact ⟨by omega, by unfold maxLen; omega, ⟨by omega, by omega⟩, k + 1, hlt, by omega, by omega, by rw [hsn]; simp⟩
theorem applyE_len (inv : List Phon) (r : Rule) (w : List Int) : (applyE inv r w).length ≤ w.length := by
  rw [← applyK_all]; exact applyK_len inv r w _ (Nat.le_refl _)
def lastE (inv : List Phon) (rs : List Rule) (w : List Int) : List Int := rs.foldl (fun w r => applyE inv r w) w
theorem lastE_len (inv : List Phon) : ∀ (rs : List Rule) (w : List Int), (lastE inv rs w).length ≤ w.length
  | [], w => Nat.le_refl _
  | r :: rs, w => by
    have h1 := lastE_len inv rs (applyE inv r w)
    have h2 := applyE_len inv r w
    unfold lastE at h1 ⊢
    rw [List.foldl_cons]; omega
set_option maxHeartbeats 2000000 in
theorem last_ok (inv : List Phon) (hl : inv.length < 2^62) (rs : List Rule) (hr : ∀ r ∈ rs, RuleOk r) (hn : rs.length < 2^40) (w : List Int) (hw : w.length < 2^40) :
    PureR Tryz.prog 61 [.agg [invD inv], rulesD rs, ints w] (ints (lastE inv rs w)) := by
  refine pure_of_body mixed Tryz.func61 rfl call_61 ?_
  simp (decide := true) [Tryz.f61, int, ints, rulesD]
  refine loop_rule mixed (fun k : Nat => { n := 21, next := 2, slots := [(2, .d (ints (lastE inv (rs.take k) w))), (3, .bp 0 0), (9, .d (rulesD rs)), (10, .d (int rs.length)), (11, .d (int k))], own := [(0, .box 24 [.d (invD inv)])] })
    (fun k => k ≤ rs.length) (fun k => rs.length - k) 0 (by simp) (by simp (decide := true) [int, ints, rulesD, lastE]) ?_
  intro k hk
  by_cases hlt : k < rs.length
  case neg =>
    have : k = rs.length := by omega
    subst this
    rw [List.take_length]
    simp (decide := true) [int, ints, rulesD]
  have hlt' : (k : Int) < rs.length := by omega
  have hsn : lastE inv (rs.take (k + 1)) w = applyE inv rs[k] (lastE inv (rs.take k) w) := by unfold lastE; rw [take_snocG hlt, List.foldl_append]; rfl
  have hll := lastE_len inv (rs.take k) w
  have hro := hr rs[k] (List.getElem_mem hlt)
  obtain ⟨r, er⟩ : ∃ r, rs[k] = r := ⟨_, rfl⟩
  have e1 : rs[k]? = some r := by rw [List.getElem?_eq_getElem hlt, er]
  rw [er] at hsn hro
  generalize lastE inv (rs.take k) w = u at hsn hll
  have hA := apply_ok inv hl r hro u (by omega)
  simp (decide := true) [int, ints, rulesD, Rule.row, hlt, hlt', e1, er, I64]
  refine ECall.pure (by rfl) hA (by simp [Rule.row, int]) ?_
  simp (decide := true) [int, ints, rulesD, Rule.row, I64]
  exact ⟨⟨by omega, by omega⟩, k + 1, hlt, by omega, by rw [hsn], by omega⟩
end Go.V
namespace Go.V
open Go Go.Proofs
structure LangOk (g : Lang) : Prop where
  lex : LexFit g.lex
  inv : g.inv.length < 2^40
  rules : (∀ r ∈ g.rules, RuleOk r) ∧ g.rules.length < 2^40
  net : NetOk g.net
def partE (l : List Ent) (p : Prt) : Int :=
  if (getE l p.entry).2 = false then 9 else if (formE l p).2.2 = false then 2 else if p.sense < 0 ∨ (sensesE l p.entry).length ≤ p.sense then 22 else 0
def partsE (l : List Ent) : List Prt → Int
  | [] => 0
  | p :: ps => if partE l p = 0 then partsE l ps else partE l p
def rightE (g : Lang) (ps : List Prt) : Int :=
  if ps.length = 0 then 4 else if 4 < ps.length then 11 else if partsE g.lex ps ≠ 0 then partsE g.lex ps else if acceptsS g.net (classesE g.lex ps) = false then 21 else if 24 < (baseE g.lex ps).length then 5 else 0
end Go.V
