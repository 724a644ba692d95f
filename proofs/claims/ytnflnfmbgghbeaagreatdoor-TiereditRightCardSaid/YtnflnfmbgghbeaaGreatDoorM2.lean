/- Contracts and plain laws of this seat: part M2. It needs no conditions. -/
import Derived.Test.YtnflnfmbgghbeaaGreatDoorM1
import Derived.Test.YtnflnfmbgghbeaaGreatDoorSh
import Derived.Test.YtnflnfmbgghbeaaGreatDoorX9
import Derived.Test.YtnflnfmbgghbeaaGreatDoorProg
import Derived.KernelRfl
import Derived.Test.YtnflnfmbgghbeaaGreatDoorW1
import Derived.Test.YtnflnfmbgghbeaaGreatDoorB1
set_option linter.unusedVariables false
set_option linter.unusedSimpArgs false
set_option linter.unusedSectionVars false
set_option maxRecDepth 100000
namespace Go.V
open Go Go.Proofs Go.Sort Go.RowKit
def ltN : Nt → Nt → Bool := ltOf cmpN
theorem enters_order : ∀ args w, (callFunc 74 args).run Tryz.prog w = .ok (.enter 74 args) w := enters_of Tryz.func74 (by kernel_rfl) rfl
theorem isAggN : ∀ w, (isAgg 45).run Tryz.prog w = .ok true w := fun w => by kernel_rfl
theorem sizeOfN : ∀ w, (Go.sizeOf 45).run Tryz.prog w = .ok 7 w := fun w => by kernel_rfl
def insLoop : Nat → Nat → Array Nt → Array Nt
  | 0, _, d => d
  | k + 1, i, d => insLoop k (i + 1) (insInner ltN 0 i d)
theorem insOuter_loop (b : Nat) : ∀ (k i : Nat) (d : Array Nt), k = b - i → insOuter ltN 0 b i d = insLoop k i d
  | 0, i, d, h => by unfold insOuter; rw [if_neg (by omega)]; rfl
  | k + 1, i, d, h => by unfold insOuter; rw [if_pos (by omega), insOuter_loop b k (i + 1) _ (by omega)]; rfl
def isort (l : List Nt) : List Nt := (insLoop (l.length - 1) 1 l.toArray).toList
theorem isort_eq (l : List Nt) : (Sort.insertionSort ltN l.toArray 0 l.length) = (isort l).toArray := by
  unfold Sort.insertionSort isort
  rw [insOuter_loop l.length (l.length - 1) (0 + 1) _ (by omega)]
theorem ins_ok (T : Nat) (l : List Nt) (hne : l ≠ []) (hl : l.length < 4611686018427387904) (hs : (isort l).length = l.length) :
    CallC Tryz.prog 117 [.ar 0, .d (int 0), .d (int l.length), .fn 74 []] [(0, .arr T 7 (l.map Nt.row))] 1 (.d (.tup [])) 1 [(0, .arr T 7 ((isort l).map Nt.row))] [] := by
  refine sort_bridge nt_enc call_117 hne hs ?_
  intro w E β vs hvs hseen g cap hg hE hH
  simp only [Sms, Sm, R, int] at hvs
  obtain ⟨_, _, rfl, rfl, _, _, rfl, rfl, _, _, rfl, ⟨_, rfl, rfl⟩, rfl⟩ := hvs
  have := AnyQ.insertionSortCmpFunc Tryz.insNote 7 isAggN sizeOfN Nt.enc nt_enc.len nt_enc.one cmpN 74 #[] g 0 cap 0 l.length l.toArray w enters_order
    (order_lays hseen hE) hH hg (Nat.zero_le _) (by simp) (by simpa using hl)
  change Calls Tryz.prog 117 _ _ _ at this
  rw [show ltOf cmpN = ltN from rfl, isort_eq] at this
  simpa using this
theorem ins_nil : CallC Tryz.prog 117 [.d (.sl []), .d (int 0), .d (int 0), .fn 74 []] [] 0 (.tup []) 0 [] [] := by
  refine callC_of_body mixed Tryz.func117 rfl call_117 (by simp [Sym.los, Sym.lo]) ?_
  simp (decide := true) [Tryz.f117, int]
  refine ⟨by unfold I64; omega, loop_rule mixed (fun _ : Unit => { n := 53, next := 0, slots := [(2, .d (int 0)), (8, .d (int 1))], own := [] })
    (fun _ => True) (fun _ => 0) () trivial (by simp (decide := true) [int]) ?_⟩
  intro _ _
  simp (decide := true) [int]
end Go.V
namespace Go.V
open Go Go.Proofs
def scD (P : Program) (f : Nat) : Bool := match P.funcs[f]? with
  | some fn => match fn.resultTypes.toList with
    | [T] => (match TI.of P T with
      | some ⟨.int _, _, _, _, _⟩ => true
      | some ⟨.bool, _, _, _, _⟩ => true
      | some ⟨.str, _, _, _, _⟩ => true
      | _ => false)
    | _ => false
  | none => false
def fnD (P : Program) (f : Nat) : Option (Nat × Code × List ResultVar) := match P.funcs[f]? with
  | some fn => match fn.body with
    | some c => some (fn.ntmps, c, fn.results.toList)
    | none => none
  | none => none
def mkG (P : Program) : XG := ⟨fun t => TI.of P t, fun t => zfit P t, fun t => eqKinds P t, fnD P, scD P, fun _ => none, fun _ => none, fun _ => false⟩
def allCan (P : Program) : Bool := (List.range P.funcs.size).all fun f => match P.funcs[f]? with
  | some fn => fn.name != "runtime.NumGoroutine"
  | none => true
theorem mkG_good {P : Program} (h : allCan P = true) : XGood P (mkG P) := by
  refine ⟨fun h => h, fun h => h, fun h => h, ?_, fun h => (by cases h), fun h => (by cases h)⟩
  intro f n c rs hf
  have hf : fnD P f = some (n, c, rs) := hf
  unfold fnD at hf
  split at hf
  · rename_i fn hfn
    split at hf
    · rename_i c' hb
      cases hf
      refine ⟨?_, fn, hfn, hb, rfl, rfl⟩
      unfold allCan at h
      have hlt : f < P.funcs.size := by
        obtain ⟨h1, _⟩ := Array.getElem?_eq_some_iff.1 hfn
        exact h1
      have := (List.all_eq_true.1 h) f (List.mem_range.2 hlt)
      rw [hfn] at this
      unfold callable
      rw [hfn]
      simp only at this ⊢
      rw [this, hb]
      rfl
    · cases hf
  · cases hf
theorem can_all : allCan Tryz.prog = true := by kernel_rfl
theorem mixed_X : Tryz.prog.follows .mixedOrders = true := by kernel_rfl
def isT (r : Option XR) : Bool := match r with
  | some ⟨.d (.bool true), _, _, _⟩ => true
  | _ => false
end Go.V
namespace Go.V
open Go Go.Proofs
def rowNt : List D → Option Nt
  | [.int .i64 a, .int .i64 b, .int .i64 c, .int .i64 d, .int .i64 e, .int .i64 f, .str t] => some ⟨a, b, c, d, e, f, t⟩
  | _ => none
def rowsNt : List (List D) → Option (List Nt)
  | [] => some []
  | r :: rs => match rowNt r, rowsNt rs with
    | some x, some l => some (x :: l)
    | _, _ => none
theorem rowNt_eq {r : List D} {x : Nt} (h : rowNt r = some x) : r = x.row := by
  unfold rowNt at h
  split at h
  · cases h; rfl
  · cases h
theorem rowsNt_eq : ∀ {rows : List (List D)} {l : List Nt}, rowsNt rows = some l → rows = l.map Nt.row
  | [], l, h => by simp [rowsNt] at h; subst h; rfl
  | r :: rs, l, h => by
    simp only [rowsNt] at h
    split at h
    · rename_i x l' h1 h2
      cases h
      rw [rowNt_eq h1, rowsNt_eq h2]; rfl
    · cases h
def kcIns (args : List Sym) (own : List (Nat × Obj')) (n : Nat) : Option XR := match args, own, n with
  | [.ar 0, .d (.int .i64 a), .d (.int .i64 b), .fn g []], [(0, .arr T 7 rows)], 1 => match rowsNt rows with
    | some l => oguard (Nat.beq g 74 && decide (a = 0) && decide (b = (l.length : Int)) && Nat.blt 0 l.length && Nat.beq (isort l).length l.length && Nat.blt l.length 1000)
        (some ⟨.d (.tup []), 1, [(0, .arr T 7 ((isort l).map Nt.row))], []⟩)
    | none => none
  | [.d (.sl []), .d (.int .i64 a), .d (.int .i64 b), .fn g []], [], 0 => oguard (Nat.beq g 74 && decide (a = 0) && decide (b = 0)) (some ⟨.tup [], 0, [], []⟩)
  | _, _, _ => none
theorem kcIns_good {args : List Sym} {own : List (Nat × Obj')} {n : Nat} {r : XR} (h : kcIns args own n = some r) : CallC Tryz.prog 117 args own n r.s r.nx r.own r.mv := by
  unfold kcIns at h
  split at h
  · rename_i a b g T rows
    split at h
    · rename_i l hl
      rw [oguard_some] at h
      simp only [Bool.and_eq_true, beq_iff, blt_iff, decide_eq_true_eq] at h
      obtain ⟨⟨⟨⟨⟨⟨h1, h2⟩, h3⟩, h4⟩, h5⟩, h6⟩, h⟩ := h
      cases h
      subst h1; subst h2; subst h3
      rw [rowsNt_eq hl]
      exact ins_ok T l (by intro e; subst e; simp at h4) (by omega) h5
    · cases h
  · rename_i a b g
    rw [oguard_some] at h
    simp only [Bool.and_eq_true, beq_iff, decide_eq_true_eq] at h
    obtain ⟨⟨⟨h1, h2⟩, h3⟩, h⟩ := h
    cases h
    subst h1; subst h2; subst h3
    exact ins_nil
  · cases h
noncomputable def mkGs : XG := { mkG Tryz.prog with kc := fun f => match Nat.beq f 117 with
  | true => some kcIns
  | false => none }
theorem mkGs_good : XGood Tryz.prog mkGs := by
  have g := mkG_good can_all
  refine ⟨g.ti, g.zf, g.ek, g.fn, g.kn, ?_⟩
  intro f k args own n r hk hr _
  have hk : (match Nat.beq f 117 with | true => some kcIns | false => none) = some k := hk
  split at hk
  · rename_i e
    rw [beq_iff] at e
    cases hk
    subst e
    exact kcIns_good hr
  · cases hk
end Go.V
namespace Go.V
open Go Go.Proofs
structure Tir where
  name : ByteArray
  kind : Int
  role : Int
  par : Int
  deriving Inhabited, DecidableEq
def Tir.row (t : Tir) : List D := [.str t.name, int t.kind, int t.role, int t.par]
def tiersD (l : List Tir) : D := .sl (l.map Tir.row)
structure Dc where
  id : Int
  name : ByteArray
  len : Int
  day : Int
  spk : List Int
  tiers : List Tir
  notes : List Nt
  deriving DecidableEq
def Dc.row (d : Dc) : List D := [int d.id, .str d.name, int d.len, int d.day, ints d.spk, tiersD d.tiers, notesD d.notes]
def docD (d : Dc) : D := .agg d.row
theorem take_snoc' {α : Type} {l : List α} {k : Nat} (h : k < l.length) : l.take (k + 1) = l.take k ++ [l[k]] := by rw [List.take_succ_eq_append_getElem h]
theorem take_all' {α : Type} {p : α → Prop} {l : List α} {k : Nat} (h : k < l.length) (hp : ∀ e ∈ l.take k, p e) (he : p l[k]) : ∀ e ∈ l.take (k + 1), p e := by
  rw [take_snoc' h]
  intro e hm
  rcases List.mem_append.1 hm with hm | hm
  · exact hp e hm
  · simp at hm; rw [hm]; exact he
@[simp] theorem bytes_toList {a b : ByteArray} : a.toList = b.toList ↔ a = b := by
  rw [← MapKept.bytes_beq, beq_toListBytes, beq_iff_eq]
structure Dc.fit (d : Dc) : Prop where
  notes : d.notes.length ≤ 320
  tiers : d.tiers.length ≤ 20
  spk : d.spk.length ≤ 100
def Nt.zero : Nt := ⟨0, 0, 0, 0, 0, 0, ⟨#[]⟩⟩
def getN (l : List Nt) (id : Int) : Nt × Bool := match l.find? (fun n => decide (n.id = id)) with
  | some n => (n, true)
  | none => (Nt.zero, false)
def getD' (r : Nt × Bool) : D := .tup [.agg r.1.row, .bool r.2]
theorem getN_hit {l : List Nt} {id : Int} {k : Nat} (h : k < l.length) (hp : ∀ e ∈ l.take k, e.id ≠ id) (he : l[k].id = id) : getN l id = (l[k], true) := by
  have : l.find? (fun n => decide (n.id = id)) = some l[k] := by
    rw [List.find?_eq_some_iff_append]
    refine ⟨by simpa using he, l.take k, l.drop (k + 1), by rw [List.getElem_cons_drop, List.take_append_drop], fun e hm => by simpa using hp e hm⟩
  simp [getN, this]
theorem getN_miss {l : List Nt} {id : Int} (hp : ∀ e ∈ l, e.id ≠ id) : getN l id = (Nt.zero, false) := by
  have : l.find? (fun n => decide (n.id = id)) = none := by rw [List.find?_eq_none]; intro e he; simpa using hp e he
  simp [getN, this]
abbrev docCells (d : Dc) : List Sym := [.d (int d.id), .d (.str d.name), .d (int d.len), .d (int d.day), .d (ints d.spk), .d (tiersD d.tiers), .d (notesD d.notes)]
abbrev noteCells (n : Nt) : List Sym := [.d (int n.id), .d (int n.tier), .d (int n.par), .d (int n.fr), .d (int n.tO), .d (int n.rank), .d (.str n.text)]
theorem get_ok (d : Dc) (id : Int) (hl : d.notes.length < 2^62) : PureR Tryz.prog 35 [docD d, int id] (getD' (getN d.notes id)) := by
  refine pure_of_body mixed Tryz.func35 rfl call_35 ?_
  simp (decide := true) [Tryz.f35, docD, Dc.row, notesD, tiersD, ints, int]
  refine loop_rule mixed (fun k : Nat => { n := 22, next := 2, slots := [(1, .d (int id)), (2, .bp 0 0), (4, .bp 1 0), (5, .d (.bool false)), (9, .d (notesD d.notes)), (10, .d (.int .i64 d.notes.length)), (11, .d (.int .i64 k))], own := [(0, .box 28 (docCells d)), (1, .box 45 (noteCells Nt.zero))] })
    (fun k => k ≤ d.notes.length ∧ ∀ e ∈ d.notes.take k, e.id ≠ id) (fun k => d.notes.length - k) 0 (by simp) (by simp (decide := true) [notesD, tiersD, ints, int, Nt.zero]) ?_
  intro k ⟨hk, hp⟩
  by_cases hlt : k < d.notes.length
  · have e1 : d.notes[k]? = some d.notes[k] := List.getElem?_eq_getElem hlt
    simp (decide := true) [notesD, tiersD, ints, int, Nt.row, Nt.zero, e1, hlt, I64]
    refine ⟨fun h => ?_, fun h => ⟨by omega, k + 1, ⟨hlt, take_all' hlt hp h⟩, by omega, by omega⟩⟩
    simp [getD', getN_hit hlt hp h, Nt.row, int]
  · have : k = d.notes.length := by omega
    subst this
    rw [List.take_length] at hp
    simp (decide := true) [notesD, tiersD, ints, int, getN_miss hp, getD', Nt.row, Nt.zero]
theorem refGet_ok (d : Dc) (id : Int) (hl : d.notes.length < 2^62) : PureR Tryz.prog 21 [docD d, int id] (getD' (getN d.notes id)) := by
  refine pure_of_body mixed Tryz.func21 rfl call_21 ?_
  simp (decide := true) [Tryz.f21, docD, Dc.row, notesD, tiersD, ints, int]
  refine loop_rule mixed (fun k : Nat => { n := 28, next := 2, slots := [(1, .d (int id)), (2, .bp 0 0), (4, .bp 1 0), (5, .d (.bool false)), (6, .d (.int .i64 k))], own := [(0, .box 28 (docCells d)), (1, .box 45 (noteCells Nt.zero))] })
    (fun k => k ≤ d.notes.length ∧ ∀ e ∈ d.notes.take k, e.id ≠ id) (fun k => d.notes.length - k) 0 (by simp) (by simp (decide := true) [notesD, tiersD, ints, int, Nt.zero]) ?_
  intro k ⟨hk, hp⟩
  by_cases hlt : k < d.notes.length
  · have e1 : d.notes[k]? = some d.notes[k] := List.getElem?_eq_getElem hlt
    simp (decide := true) [notesD, tiersD, ints, int, Nt.row, Nt.zero, e1, hlt, I64]
    refine ⟨fun h => ?_, fun h => ⟨by omega, k + 1, ⟨hlt, take_all' hlt hp h⟩, by omega, by omega⟩⟩
    simp [getD', getN_hit hlt hp h, Nt.row, int]
  · have : k = d.notes.length := by omega
    subst this
    rw [List.take_length] at hp
    simp (decide := true) [notesD, tiersD, ints, int, getN_miss hp, getD', Nt.row, Nt.zero]
theorem ints_ok (a b : List Int) (hb : b.length < 2^62) : PureR Tryz.prog 64 [ints a, ints b] (.bool (decide (a = b))) := by
  refine pure_of_body mixed Tryz.func64 rfl call_64 ?_
  simp [Tryz.f64, ints]
  refine ⟨fun h e => h (by rw [e]), fun h => ?_⟩
  refine loop_rule mixed (fun k : Nat => { n := 26, next := 0, slots := [(0, .d (ints a)), (1, .d (ints b)), (5, .d (.int .i64 k))], own := [] })
    (fun k => k ≤ a.length ∧ a.take k = b.take k) (fun k => a.length - k) 0 (by simp) (by simp [ints]) ?_
  intro k ⟨hk, hp⟩
  have h : a.length = b.length := by omega
  by_cases hlt : k < a.length
  · have e1 : a[k]? = some a[k] := List.getElem?_eq_getElem hlt
    have e2 : b[k]? = some (b[k]'(by omega)) := List.getElem?_eq_getElem (by omega)
    have hlt' : k < b.length := by omega
    simp (decide := true) [ints, int, e1, e2, hlt, hlt', I64]
    refine ⟨fun hne e => by subst e; simp at hne, fun he => ⟨by omega, k + 1, ⟨hlt, ?_⟩, by omega, by omega⟩⟩
    rw [take_snoc' hlt, take_snoc' hlt', hp, he]
  · have : k = a.length := by omega
    subst this
    simp (decide := true) [ints]
    rw [List.take_length, h, List.take_length] at hp
    exact hp
end Go.V
namespace Go.V
open Go Go.Proofs
theorem dc_eq {a b : Dc} : a = b ↔ a.id = b.id ∧ a.name = b.name ∧ a.len = b.len ∧ a.day = b.day ∧ a.spk = b.spk ∧ a.tiers = b.tiers ∧ a.notes = b.notes := by cases a; cases b; simp
abbrev recCells (d : Dc) : List Sym := [.d (int d.id), .d (.str d.name), .d (int d.len), .d (int d.day), .d (ints d.spk)]
set_option maxHeartbeats 1000000 in
theorem refSame_ok (a b : Dc) (hb : b.fit) : PureR Tryz.prog 27 [docD a, docD b] (.bool (decide (a = b))) := by
  obtain ⟨f1, f2, f3⟩ := hb
  refine pure_of_body mixed Tryz.func27 rfl call_27 ?_
  simp (decide := true) [Tryz.f27, docD, Dc.row]
  refine draw_x mixed (mkG_good can_all) no_call [2, 3, 4, 5, 6] (st' := { n := 99, next := 4, slots := [(2, .bp 0 0), (3, .bp 1 0), (4, .d (.bool false)), (5, .bp 2 0), (6, .bp 3 0)], own := [(2, .box 24 (recCells a)), (3, .box 24 (recCells b)), (1, .box 28 (docCells b)), (0, .box 28 (docCells a))] }) (by kernel_rfl) ?_
  by_cases h4 : a.id = b.id
  case neg => simp (decide := true) [int, h4, dc_eq]
  by_cases h5 : a.name = b.name
  case neg => simp (decide := true) [int, h4, h5, dc_eq]
  by_cases h6 : a.len = b.len
  case neg => simp (decide := true) [int, h4, h5, h6, dc_eq]
  by_cases h7 : a.day = b.day
  case neg => simp (decide := true) [int, h4, h5, h6, h7, dc_eq]
  simp (decide := true) [int, h4, h5, h6, h7]
  refine ECall.pure (by rfl) (ints_ok a.spk b.spk (by omega)) (by simp) ?_
  by_cases h1 : a.spk = b.spk
  case neg => simp (decide := true) [h1, dc_eq]
  by_cases l2 : a.tiers.length = b.tiers.length
  case neg =>
    have : ¬ a.tiers = b.tiers := fun e => l2 (by rw [e])
    have l2' : ¬ (a.tiers.length : Int) = b.tiers.length := by omega
    simp (decide := true) [h1, dc_eq, this, l2, l2', int, tiersD, notesD]
  by_cases l3 : a.notes.length = b.notes.length
  case neg =>
    have : ¬ a.notes = b.notes := fun e => l3 (by rw [e])
    have l3' : ¬ (a.notes.length : Int) = b.notes.length := by omega
    simp (decide := true) [h1, dc_eq, this, l2, l3, l3', int, tiersD, notesD]
  simp (decide := true) [h1, l2, l3, int, tiersD, notesD]
  refine loop_rule mixed (fun k : Nat => { n := 99, next := 2, slots := [(2, .bp 0 0), (3, .bp 1 0), (7, .d (.int .i64 k))], own := [(0, .box 28 (docCells a)), (1, .box 28 (docCells b))] })
    (fun k => k ≤ a.tiers.length ∧ a.tiers.take k = b.tiers.take k) (fun k => a.tiers.length - k) 0 (by simp) (by simp (decide := true) [tiersD, notesD, h1, int]) ?_
  intro k ⟨hk, hp⟩
  by_cases hlt : k < a.tiers.length
  · have e1 : a.tiers[k]? = some a.tiers[k] := List.getElem?_eq_getElem hlt
    have e2 : b.tiers[k]? = some (b.tiers[k]'(by omega)) := List.getElem?_eq_getElem (by omega)
    have hlt' : k < b.tiers.length := by omega
    simp (decide := true) [tiersD, Tir.row, int, e1, e2, hlt, hlt', I64]
    refine ⟨fun hne e => ?_, fun g1 g2 g3 g4 => ⟨by omega, k + 1, ⟨hlt, ?_⟩, by omega, by omega⟩⟩
    · rw [dc_eq] at e
      obtain ⟨_, _, _, _, _, e, _⟩ := e
      simp [e] at hne
    · have he : a.tiers[k] = b.tiers[k] := by
        rcases hA : a.tiers[k] with ⟨x1, x2, x3, x4⟩
        rcases hB : b.tiers[k] with ⟨y1, y2, y3, y4⟩
        rw [hA, hB] at g1 g2 g3 g4
        simp only at g1 g2 g3 g4
        rw [g1, g2, g3, g4]
      rw [take_snoc' hlt, take_snoc' hlt', hp, he]
  · have : k = a.tiers.length := by omega
    subst this
    have ht : a.tiers = b.tiers := by rw [List.take_length, l2, List.take_length] at hp; exact hp
    simp (decide := true) [tiersD, notesD]
    refine loop_rule mixed (fun k : Nat => { n := 99, next := 2, slots := [(2, .bp 0 0), (3, .bp 1 0), (8, .d (.int .i64 k))], own := [(0, .box 28 (docCells a)), (1, .box 28 (docCells b))] })
      (fun k => k ≤ a.notes.length ∧ a.notes.take k = b.notes.take k) (fun k => a.notes.length - k) 0 (by simp) (by simp (decide := true) [tiersD, notesD, h1, int]) ?_
    intro k ⟨hk, hp⟩
    by_cases hlt : k < a.notes.length
    · have e1 : a.notes[k]? = some a.notes[k] := List.getElem?_eq_getElem hlt
      have e2 : b.notes[k]? = some (b.notes[k]'(by omega)) := List.getElem?_eq_getElem (by omega)
      have hlt' : k < b.notes.length := by omega
      simp (decide := true) [notesD, Nt.row, int, e1, e2, hlt, hlt', I64]
      refine ⟨fun hne e => ?_, fun g1 g2 g3 g4 g5 g6 g7 => ⟨by omega, k + 1, ⟨hlt, ?_⟩, by omega, by omega⟩⟩
      · rw [dc_eq] at e
        obtain ⟨_, _, _, _, _, _, e⟩ := e
        simp [e] at hne
      · have he : a.notes[k] = b.notes[k] := by
          rcases hA : a.notes[k] with ⟨x1, x2, x3, x4, x5, x6, x7⟩
          rcases hB : b.notes[k] with ⟨y1, y2, y3, y4, y5, y6, y7⟩
          rw [hA, hB] at g1 g2 g3 g4 g5 g6 g7
          simp only at g1 g2 g3 g4 g5 g6 g7
          rw [g1, g2, g3, g4, g5, g6, g7]
        rw [take_snoc' hlt, take_snoc' hlt', hp, he]
    · have : k = a.notes.length := by omega
      subst this
      have hn : a.notes = b.notes := by rw [List.take_length, l3, List.take_length] at hp; exact hp
      simp (decide := true) [notesD, dc_eq, h1, h4, h5, h6, h7, ht, hn]
end Go.V
namespace Go.V
open Go Go.Proofs
def IntOk (n : Int) : Prop := (Lit.int .i64 n).wf = true
theorem IntOk.I64 {n : Int} (h : IntOk n) : I64 n := by
  have := bounds_i64 h
  unfold Go.V.I64; omega
def IntsOk (l : List Int) : Prop := l.length ≤ maxLen ∧ ∀ n ∈ l, IntOk n
theorem ints_decode {d : D} (h : FitD d (.sl [.int .i64])) : ∃ l, d = ints l ∧ IntsOk l := by
  obtain ⟨xs, rfl, h1, h2⟩ := FitD.sl_decode (row := fun n => [int n]) (good := IntOk) (fun r hr => by
    obtain ⟨_, _, rfl, g1, r1⟩ := hr.cons_decode
    obtain rfl := r1.nil_decode
    obtain ⟨n, rfl, hn⟩ := g1.int_decode
    exact ⟨n, rfl, hn⟩) h
  exact ⟨xs, rfl, h1, h2⟩
abbrev tierSh : List Sh := [.str, .int .i64, .int .i64, .int .i64]
abbrev noteSh : List Sh := [.int .i64, .int .i64, .int .i64, .int .i64, .int .i64, .int .i64, .str]
abbrev docSh : List Sh := [.int .i64, .str, .int .i64, .int .i64, .sl [.int .i64], .sl tierSh, .sl noteSh]
def Tir.ok (t : Tir) : Prop := t.name.size ≤ maxLen ∧ IntOk t.kind ∧ IntOk t.role ∧ IntOk t.par
structure Nt.ok (n : Nt) : Prop where
  id : IntOk n.id
  tier : IntOk n.tier
  par : IntOk n.par
  fr : IntOk n.fr
  tO : IntOk n.tO
  rank : IntOk n.rank
  text : n.text.size ≤ maxLen
structure Dc.ok (d : Dc) : Prop where
  id : IntOk d.id
  name : d.name.size ≤ maxLen
  len : IntOk d.len
  day : IntOk d.day
  spk : IntsOk d.spk
  tiers : d.tiers.length ≤ maxLen ∧ ∀ t ∈ d.tiers, t.ok
  notes : d.notes.length ≤ maxLen ∧ ∀ n ∈ d.notes, n.ok
theorem tier_decode {r : List D} (h : FitDs r tierSh) : ∃ t : Tir, r = t.row ∧ t.ok := by
  obtain ⟨_, _, rfl, g1, r1⟩ := h.cons_decode
  obtain ⟨_, _, rfl, g2, r2⟩ := r1.cons_decode
  obtain ⟨_, _, rfl, g3, r3⟩ := r2.cons_decode
  obtain ⟨_, _, rfl, g4, r4⟩ := r3.cons_decode
  obtain rfl := r4.nil_decode
  obtain ⟨a, rfl, wa⟩ := g1.str_decode
  obtain ⟨b, rfl, wb⟩ := g2.int_decode
  obtain ⟨c, rfl, wc⟩ := g3.int_decode
  obtain ⟨e, rfl, we⟩ := g4.int_decode
  exact ⟨⟨a, b, c, e⟩, rfl, wa, wb, wc, we⟩
theorem note_decode {r : List D} (h : FitDs r noteSh) : ∃ n : Nt, r = n.row ∧ n.ok := by
  obtain ⟨_, _, rfl, g1, r1⟩ := h.cons_decode
  obtain ⟨_, _, rfl, g2, r2⟩ := r1.cons_decode
  obtain ⟨_, _, rfl, g3, r3⟩ := r2.cons_decode
  obtain ⟨_, _, rfl, g4, r4⟩ := r3.cons_decode
  obtain ⟨_, _, rfl, g5, r5⟩ := r4.cons_decode
  obtain ⟨_, _, rfl, g6, r6⟩ := r5.cons_decode
  obtain ⟨_, _, rfl, g7, r7⟩ := r6.cons_decode
  obtain rfl := r7.nil_decode
  obtain ⟨a, rfl, wa⟩ := g1.int_decode
  obtain ⟨b, rfl, wb⟩ := g2.int_decode
  obtain ⟨c, rfl, wc⟩ := g3.int_decode
  obtain ⟨e, rfl, we⟩ := g4.int_decode
  obtain ⟨f, rfl, wf⟩ := g5.int_decode
  obtain ⟨g, rfl, wg⟩ := g6.int_decode
  obtain ⟨s, rfl, ws⟩ := g7.str_decode
  exact ⟨⟨a, b, c, e, f, g, s⟩, rfl, wa, wb, wc, we, wf, wg, ws⟩
theorem doc_decode {l : List D} (h : FitDs l docSh) : ∃ d : Dc, D.agg l = docD d ∧ d.ok := by
  obtain ⟨_, _, rfl, g1, r1⟩ := h.cons_decode
  obtain ⟨_, _, rfl, g2, r2⟩ := r1.cons_decode
  obtain ⟨_, _, rfl, g3, r3⟩ := r2.cons_decode
  obtain ⟨_, _, rfl, g4, r4⟩ := r3.cons_decode
  obtain ⟨_, _, rfl, g5, r5⟩ := r4.cons_decode
  obtain ⟨_, _, rfl, g6, r6⟩ := r5.cons_decode
  obtain ⟨_, _, rfl, g7, r7⟩ := r6.cons_decode
  obtain rfl := r7.nil_decode
  obtain ⟨a, rfl, wa⟩ := g1.int_decode
  obtain ⟨b, rfl, wb⟩ := g2.str_decode
  obtain ⟨c, rfl, wc⟩ := g3.int_decode
  obtain ⟨e, rfl, we⟩ := g4.int_decode
  obtain ⟨f, rfl, wf⟩ := ints_decode g5
  obtain ⟨ts, rfl, wt1, wt2⟩ := FitD.sl_decode (row := Tir.row) (good := Tir.ok) (fun r hr => tier_decode hr) g6
  obtain ⟨ns, rfl, wn1, wn2⟩ := FitD.sl_decode (row := Nt.row) (good := Nt.ok) (fun r hr => note_decode hr) g7
  exact ⟨⟨a, b, c, e, f, ts, ns⟩, rfl, wa, wb, wc, we, wf, ⟨wt1, wt2⟩, wn1, wn2⟩
end Go.V
