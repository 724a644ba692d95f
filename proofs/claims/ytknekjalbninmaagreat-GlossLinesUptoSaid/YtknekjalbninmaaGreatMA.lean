/- Contracts and plain laws of this seat: part MA. It needs no conditions. -/
import Derived.Test.YtknekjalbninmaaGreatSw
import Derived.WalkKit
import Derived.BigCall
import Derived.KernelRfl
import Derived.Shelf.Strings.Builder1
import Derived.Test.YtknekjalbninmaaGreatTab
import Derived.Test.YtknekjalbninmaaGreatW1
import Derived.Test.YtknekjalbninmaaGreatB1
set_option linter.unusedVariables false
set_option linter.unusedSimpArgs false
set_option linter.unusedSectionVars false
set_option maxRecDepth 100000
namespace Go.Proofs
open Go.RowKit Go.Shelf
theorem sizeB : (Tryz.prog.info? 166).map (·.size) = some 2 := by kernel_rfl
theorem liesB : liesAt Tryz.prog Tryz.prog.depth 166 (2 / Tryz.prog.cellsOf 166) 0 166 1 = true := by kernel_rfl
theorem cc_used (b : Nat) (w : World) (h0 : w.cell? ⟨b, 0, none⟩ = some (.pointer (some ⟨b, 0, none⟩))) :
    Calls Tryz.prog 159 #[.pointer (some ⟨b, 0, none⟩)] w fun e w' => e = .returned (.tuple #[]) ∧ w' = w := by
  obtain ⟨j, hj, _⟩ := Option.map_eq_some_iff.1 sizeB
  go_enter Tryz.func159, Tryz.ntmps159
  go_wp2
  rw [Lib.run_neq_ptr_same w _ Tryz.underlying163 hj]
  go_wp2
  go_end0
  exact ⟨rfl, rfl⟩
theorem cc_fresh (b : Nat) (w : World) (h0 : w.cell? ⟨b, 0, none⟩ = some (.pointer none)) (hsh : w.shape? b = some (166, 2)) (hfz : w.frozen? ⟨b, 0, none⟩ = false) :
    Calls Tryz.prog 159 #[.pointer (some ⟨b, 0, none⟩)] w fun e w' => e = .returned (.tuple #[]) ∧ w' = w.setCell ⟨b, 0, none⟩ (.pointer (some ⟨b, 0, none⟩)) := by
  obtain ⟨j, hj, hjs⟩ := Option.map_eq_some_iff.1 sizeB
  go_enter Tryz.func159, Tryz.ntmps159
  go_wp2
  rw [Lib.run_to_unsafe w ⟨b, 0, none⟩ Tryz.underlying163 Tryz.underlying258 hj (by rw [hjs]; decide) hsh (Nat.zero_lt_succ 1)]
  simp only [Result.andThen]
  rw [Oper.upon_value]
  go_wp2
  rw [run_callFunc_extern Tryz.func205 (by kernel_rfl) (by kernel_rfl) (by kernel_rfl) (e := Extern.AbiNoEscape.same) (by kernel_rfl)]
  rw [Lib.run_noEscape]
  simp only [Result.andThen]
  rw [Oper.upon_value]
  go_wp2
  rw [Lib.run_from_unsafe w ⟨b, 0, none⟩ Tryz.underlying258 Tryz.underlying163 hj hsh liesB]
  simp only [Result.andThen]
  rw [Oper.upon_value]
  go_wp2
  go_end0
  exact ⟨rfl, rfl⟩
theorem bldX2 : Builder.X72 Tryz.prog Tryz.bldStr_ren := ⟨sizeB, liesB⟩
theorem bldX : Builder.Extra Tryz.prog Tryz.bldStr_ren := { bldX2 with
  t5 := Tryz.underlying5
  a5 := Tryz.isAgg5
  z5 := Tryz.sizeOf5
  v5 := Tryz.zeroValue5
  infoByte := by kernel_rfl
  cellsByte := by kernel_rfl
  sizeByte := by kernel_rfl
  neB5 := by decide }
end Go.Proofs
namespace Go.V
open Go Go.Proofs
instance : Dr := ⟨false⟩
instance : Ov := ⟨false⟩
@[simp] theorem arith_i64 (n : Int) (k : Sym → Prop) : arith .i64 n k = (I64 n ∧ k (.d (.int .i64 n))) := rfl
@[simp] theorem arith_i32 (n : Int) (k : Sym → Prop) : arith .i32 n k = k (.d (.int .i32 (IntKind.i32.wrap n))) := rfl
@[simp] theorem arith_u8 (n : Int) (k : Sym → Prop) : arith .u8 n k = k (.d (.int .u8 (IntKind.u8.wrap n))) := rfl
@[simp] theorem arith_u32 (n : Int) (k : Sym → Prop) : arith .u32 n k = k (.d (.int .u32 (IntKind.u32.wrap n))) := rfl
@[simp] theorem arith_u64 (n : Int) (k : Sym → Prop) : arith .u64 n k = k (.d (.int .u64 (IntKind.u64.wrap n))) := rfl
def int (n : Int) : D := .int .i64 n
def ints (l : List Int) : D := .sl (l.map fun n => [.int .i64 n])
structure Phon where
  name : ByteArray
  feat : Int
  deriving DecidableEq
structure Grap where
  graph : ByteArray
  segs : List Int
  deriving DecidableEq
structure Orth where
  name : ByteArray
  units : List Grap
  letters : List (List ByteArray)
  deriving DecidableEq
structure Cls where
  mask : Int
  value : Int
  deriving DecidableEq
structure Rule where
  src : List Int
  dst : List Int
  left : List Cls
  right : List Cls
  beg : Bool
  fin : Bool
  deriving DecidableEq
structure Stp where
  src : Int
  cls : Int
  dst : Int
  deriving DecidableEq
structure Nett where
  states : Int
  steps : List Stp
  final : List Int
  deriving DecidableEq
structure Sens where
  gloss : ByteArray
  defn : ByteArray
  deriving DecidableEq
structure Lnk where
  kind : Int
  dst : Int
  deriving DecidableEq
structure Rf where
  rcd : Int
  note : Int
  deriving DecidableEq
structure Ent where
  id : Int
  form : List Int
  cls : Int
  alts : List (List Int)
  main : Int
  senses : List Sens
  links : List Lnk
  refs : List Rf
  deriving DecidableEq
structure Lang where
  inv : List Phon
  orth : Orth
  rules : List Rule
  net : Nett
  lex : List Ent
  deriving DecidableEq
structure Prt where
  entry : Int
  alt : Int
  sense : Int
  deriving DecidableEq
def Phon.row (p : Phon) : List D := [.str p.name, int p.feat]
def invD (l : List Phon) : D := .sl (l.map Phon.row)
def Grap.row (u : Grap) : List D := [.str u.graph, ints u.segs]
def unitsD (l : List Grap) : D := .sl (l.map Grap.row)
def lettersD (l : List (List ByteArray)) : D := .sl (l.map fun r => [.sl (r.map fun s => [.str s])])
def Orth.cells (o : Orth) : List D := [.str o.name, unitsD o.units, lettersD o.letters]
def Cls.row (c : Cls) : List D := [int c.mask, int c.value]
def clsD (l : List Cls) : D := .sl (l.map Cls.row)
def Rule.row (r : Rule) : List D := [ints r.src, ints r.dst, clsD r.left, clsD r.right, .bool r.beg, .bool r.fin]
def rulesD (l : List Rule) : D := .sl (l.map Rule.row)
def Stp.row (s : Stp) : List D := [int s.src, int s.cls, int s.dst]
def stepsD (l : List Stp) : D := .sl (l.map Stp.row)
def Nett.cells (n : Nett) : List D := [int n.states, stepsD n.steps, ints n.final]
def Sens.row (s : Sens) : List D := [.str s.gloss, .str s.defn]
def sensD (l : List Sens) : D := .sl (l.map Sens.row)
def Lnk.row (s : Lnk) : List D := [int s.kind, int s.dst]
def lnkD (l : List Lnk) : D := .sl (l.map Lnk.row)
def Rf.row (s : Rf) : List D := [int s.rcd, int s.note]
def rfD (l : List Rf) : D := .sl (l.map Rf.row)
def listsD (l : List (List Int)) : D := .sl (l.map fun a => [ints a])
def Ent.row (e : Ent) : List D := [int e.id, ints e.form, int e.cls, listsD e.alts, int e.main, sensD e.senses, lnkD e.links, rfD e.refs]
def lexD (l : List Ent) : D := .sl (l.map Ent.row)
def Lang.d (g : Lang) : D := .agg [invD g.inv, .str g.orth.name, unitsD g.orth.units, lettersD g.orth.letters, rulesD g.rules, int g.net.states, stepsD g.net.steps, ints g.net.final, lexD g.lex]
def Prt.row (p : Prt) : List D := [int p.entry, int p.alt, int p.sense]
def partsD (l : List Prt) : D := .sl (l.map Prt.row)
def anaD (a : List Prt) : D := .agg [partsD a]
@[simp ↓] theorem imp_tf (p : Prop) : (true = !true → p) = True := by simp
@[simp ↓] theorem imp_ff (p : Prop) : (false = !false → p) = True := by simp
@[simp ↓] theorem imp_tt (p : Prop) : (true = !false → p) = p := by simp
@[simp ↓] theorem imp_ft (p : Prop) : (false = !true → p) = p := by simp
@[simp ↓] theorem imp_1 (p : Prop) : (true = false → p) = True := by simp
@[simp ↓] theorem imp_2 (p : Prop) : (false = true → p) = True := by simp
@[simp ↓] theorem imp_3 (p : Prop) : (true = true → p) = p := by simp
@[simp ↓] theorem imp_4 (p : Prop) : (false = false → p) = p := by simp
end Go.V
namespace Go.V
open Go Go.Proofs
theorem take_snoc {α : Type} {l : List α} {k : Nat} (h : k < l.length) : l.take (k + 1) = l.take k ++ [l[k]] := by
  rw [List.take_add_one, List.getElem?_eq_getElem h]; rfl
def lessL : List Int → List Int → Bool
  | a :: l, b :: m => if a = b then lessL l m else decide (a < b)
  | [], _ :: _ => true
  | _, [] => false
end Go.V
namespace Go.V
open Go Go.Proofs
def isSeg (inv : List Phon) (n : Int) : Bool := decide (1 ≤ n) && decide (n ≤ inv.length)
theorem refIs_ok (inv : List Phon) (n : Int) : PureR Tryz.prog 197 [.agg [invD inv], int n] (.bool (isSeg inv n)) := by
  refine pure_of_body mixed Tryz.func197 rfl call_197 ?_
  simp [Tryz.f197, invD, int, isSeg]
  omega
theorem isNaN_ok (n : Int) : PureR Tryz.prog 123 [int n] (.bool false) := by
  refine pure_of_body mixed Tryz.func123 rfl call_123 ?_
  simp [Tryz.f123, int]
def cmpI (a b : Int) : Int := if a < b then -1 else if b < a then 1 else 0
theorem compare_ok (a b : Int) : PureR Tryz.prog 67 [int a, int b] (int (cmpI a b)) := by
  refine pure_of_body mixed Tryz.func67 rfl call_67 ?_
  simp [Tryz.f67, int]
  refine ECall.pure (by rfl) (isNaN_ok a) (by simp) ?_
  simp
  refine ECall.pure (by rfl) (isNaN_ok b) (by simp) ?_
  simp [cmpI]
  refine ⟨fun h h' => by omega, fun h => by omega⟩
def findE (l : List Ent) (id : Int) : Int := match l.findIdx? (·.id = id) with
  | some k => k
  | none => -1
theorem findE_hit {l : List Ent} {id : Int} {k : Nat} (h : k < l.length) (hp : ∀ e ∈ l.take k, e.id ≠ id) (he : l[k].id = id) : l.findIdx? (·.id = id) = some k := by
  rw [List.findIdx?_eq_some_iff_getElem]
  refine ⟨h, by simpa using he, fun j hj => ?_⟩
  have := hp l[j] (by rw [List.mem_take_iff_getElem]; exact ⟨j, by omega, rfl⟩)
  simpa using this
theorem findE_miss {l : List Ent} {id : Int} (hp : ∀ e ∈ l, e.id ≠ id) : l.findIdx? (·.id = id) = none := by
  rw [List.findIdx?_eq_none_iff]; intro e he; simpa using hp e he
theorem take_all {α : Type} {p : α → Prop} {l : List α} {k : Nat} (h : k < l.length) (hp : ∀ e ∈ l.take k, p e) (he : p l[k]) : ∀ e ∈ l.take (k + 1), p e := by
  rw [take_snoc h]
  intro e hm
  rcases List.mem_append.1 hm with hm | hm
  · exact hp e hm
  · simp at hm; rw [hm]; exact he
theorem find27_ok (l : List Ent) (id : Int) (hl : l.length < 2^62) : PureR Tryz.prog 110 [lexD l, int id] (int (findE l id)) := by
  refine pure_of_body mixed Tryz.func110 rfl call_110 ?_
  simp [Tryz.f110, lexD, int]
  refine loop_rule mixed (fun k : Nat => { n := 20, next := 0, slots := [(0, .d (lexD l)), (1, .d (int id)), (5, .d (.int .i64 k))], own := [] })
    (fun k => k ≤ l.length ∧ ∀ e ∈ l.take k, e.id ≠ id) (fun k => l.length - k) 0 (by simp) (by simp [lexD, int]) ?_
  intro k ⟨hk, hp⟩
  by_cases hlt : k < l.length
  · have e1 : l[k]? = some l[k] := List.getElem?_eq_getElem hlt
    simp (decide := true) [lexD, Ent.row, int, e1, hlt, I64]
    refine ⟨fun h => ?_, fun h => ⟨by omega, k + 1, ⟨hlt, take_all hlt hp h⟩, by omega, by omega⟩⟩
    simp [findE, findE_hit hlt hp h]
  · have : k = l.length := by omega
    subst this
    simp (decide := true) [lexD, int]
    simp [findE, findE_miss (by simpa using hp)]
theorem find26_ok (l : List Ent) (id : Int) (hl : l.length < 2^62) : PureR Tryz.prog 152 [lexD l, int id] (int (findE l id)) := by
  refine pure_of_body mixed Tryz.func152 rfl call_152 ?_
  simp [Tryz.f152, lexD, int]
  refine loop_rule mixed (fun k : Nat => { n := 20, next := 0, slots := [(0, .d (lexD l)), (1, .d (int id)), (5, .d (.int .i64 k))], own := [] })
    (fun k => k ≤ l.length ∧ ∀ e ∈ l.take k, e.id ≠ id) (fun k => l.length - k) 0 (by simp) (by simp [lexD, int]) ?_
  intro k ⟨hk, hp⟩
  by_cases hlt : k < l.length
  · have e1 : l[k]? = some l[k] := List.getElem?_eq_getElem hlt
    simp (decide := true) [lexD, Ent.row, int, e1, hlt, I64]
    refine ⟨fun h => ?_, fun h => ⟨by omega, k + 1, ⟨hlt, take_all hlt hp h⟩, by omega, by omega⟩⟩
    simp [findE, findE_hit hlt hp h]
  · have : k = l.length := by omega
    subst this
    simp (decide := true) [lexD, int]
    simp [findE, findE_miss (by simpa using hp)]
end Go.V
namespace Go.V
open Go Go.Proofs
def inCls (inv : List Phon) (n : Int) (c : Cls) : Bool := isSeg inv n && (match inv[n.toNat - 1]? with
  | some p => decide (c.value = bitsD .and .i64 p.feat c.mask)
  | none => false)
end Go.V
namespace Go.V
open Go Go.Proofs
def Ent.zero : Ent := ⟨0, [], 0, [], 0, [], [], []⟩
def getE (l : List Ent) (id : Int) : Ent × Bool := match l.find? (·.id = id) with
  | some e => (e, true)
  | none => (Ent.zero, false)
theorem getE_hit {l : List Ent} {id : Int} {k : Nat} (h : k < l.length) (hp : ∀ e ∈ l.take k, e.id ≠ id) (he : l[k].id = id) : l.find? (·.id = id) = some l[k] := by
  rw [List.find?_eq_some_iff_getElem]
  refine ⟨by simpa using he, k, h, rfl, fun j hj => ?_⟩
  have := hp l[j] (by rw [List.mem_take_iff_getElem]; exact ⟨j, by omega, rfl⟩)
  simpa using this
theorem getE_miss {l : List Ent} {id : Int} (hp : ∀ e ∈ l, e.id ≠ id) : l.find? (·.id = id) = none := by
  rw [List.find?_eq_none]; intro e he; simpa using hp e he
theorem get25_ok (l : List Ent) (id : Int) (hl : l.length < 2^62) : PureR Tryz.prog 47 [lexD l, int id] (.tup [.agg (getE l id).1.row, .bool (getE l id).2]) := by
  refine pure_of_body mixed Tryz.func47 rfl call_47 ?_
  simp [Tryz.f47, lexD, int, Value.oneCell']
  refine loop_rule mixed (fun k : Nat => { n := 25, next := 1, slots := [(0, .d (lexD l)), (1, .d (int id)), (4, .bp 0 0), (8, .d (.int .i64 l.length)), (9, .d (.int .i64 k))], own := [(0, .box 102 [.d (int 0), .nils, .d (int 0), .nils, .d (int 0), .nils, .nils, .nils])] })
    (fun k => k ≤ l.length ∧ ∀ e ∈ l.take k, e.id ≠ id) (fun k => l.length - k) 0 (by simp) (by simp [lexD, int]) ?_
  intro k ⟨hk, hp⟩
  by_cases hlt : k < l.length
  · have e1 : l[k]? = some l[k] := List.getElem?_eq_getElem hlt
    simp (decide := true) [lexD, Ent.row, int, e1, hlt, I64]
    refine ⟨fun h => ?_, fun h => ⟨by omega, k + 1, ⟨hlt, take_all hlt hp h⟩, by omega, by omega⟩⟩
    simp [getE, getE_hit hlt hp h, int]
  · have : k = l.length := by omega
    subst this
    simp (decide := true) [lexD, int]
    simp [getE, getE_miss (by simpa using hp), Ent.zero, Ent.row, int, ints, listsD, sensD, lnkD, rfD]
end Go.V
namespace Go.V
open Go Go.Proofs
def shrinksR (l : List Rule) : Bool := l.any fun r => decide (0 ∈ r.dst)
end Go.V
namespace Go.V
open Go Go.Proofs
def Ent.forms (e : Ent) : List (List Int) := e.form :: e.alts
end Go.V
namespace Go.V
open Go Go.Proofs
def lessP (a b : Prt) : Bool := if a.entry = b.entry then (if a.alt = b.alt then decide (a.sense < b.sense) else decide (a.alt < b.alt)) else decide (a.entry < b.entry)
def lessA : List Prt → List Prt → Bool
  | a :: l, b :: m => if a = b then lessA l m else lessP a b
  | [], _ :: _ => true
  | _, [] => false
end Go.V
namespace Go.V
open Go Go.Proofs
end Go.V
namespace Go.V
open Go Go.Proofs
end Go.V
namespace Go.V
open Go Go.Proofs
theorem take_snocG {α : Type} {l : List α} {k : Nat} (h : k < l.length) : l.take (k + 1) = l.take k ++ [l[k]] := by
  rw [List.take_succ_eq_append_getElem h]
def u32 (m : Nat) : D := .int .u32 m
def hasS (m : Nat) (q : Int) : Bool := m.testBit q.toNat
def withS (m : Nat) (q : Int) : Nat := m ||| (1 <<< q.toNat)
theorem has_bits : ∀ (m : Fin 8) (q : Fin 3), (decide (bitsD .and .u32 (shiftD .shr .u32 (m.val : Int) (q.val : Int)) 1 = 1)) = m.val.testBit q.val := by decide +kernel
theorem with_bits : ∀ (m : Fin 8) (q : Fin 3), bitsD .or .u32 (m.val : Int) (shiftD .shl .u32 1 (q.val : Int)) = ((m.val ||| (1 <<< q.val) : Nat) : Int) := by decide +kernel
theorem with_lt : ∀ (m : Fin 8) (q : Fin 3), m.val ||| (1 <<< q.val) < 8 := by decide +kernel
theorem hasS_bits {m : Nat} {q : Int} (hm : m < 8) (h0 : 0 ≤ q) (h1 : q < 3) : (decide (bitsD .and .u32 (shiftD .shr .u32 (m : Int) q) 1 = 1)) = hasS m q := by
  have := has_bits ⟨m, hm⟩ ⟨q.toNat, by omega⟩
  simp only [show ((q.toNat : Nat) : Int) = q by omega] at this
  exact this
theorem withS_bits {m : Nat} {q : Int} (hm : m < 8) (h0 : 0 ≤ q) (h1 : q < 3) : bitsD .or .u32 (m : Int) (shiftD .shl .u32 1 q) = ((withS m q : Nat) : Int) := by
  have := with_bits ⟨m, hm⟩ ⟨q.toNat, by omega⟩
  simp only [show ((q.toNat : Nat) : Int) = q by omega] at this
  exact this
theorem withS_lt {m : Nat} {q : Int} (hm : m < 8) (h0 : 0 ≤ q) (h1 : q < 3) : withS m q < 8 := with_lt ⟨m, hm⟩ ⟨q.toNat, by omega⟩
theorem setHas_ok (m : Nat) (q : Int) (hm : m < 8) (h0 : 0 ≤ q) (h1 : q < 3) : PureR Tryz.prog 265 [u32 m, int q] (.bool (hasS m q)) := by
  refine pure_of_body mixed Tryz.func265 rfl call_265 ?_
  simp (decide := true) [Tryz.f265, u32, int]
  have hw : IntKind.u64.wrap q = q := by rw [IntKind.wrap_u64]; omega
  rw [hw]
  exact .inl ⟨h0, hasS_bits hm h0 h1⟩
theorem setWith_ok (m : Nat) (q : Int) (hm : m < 8) (h0 : 0 ≤ q) (h1 : q < 3) : PureR Tryz.prog 204 [u32 m, int q] (u32 (withS m q)) := by
  refine pure_of_body mixed Tryz.func204 rfl call_204 ?_
  simp (decide := true) [Tryz.f204, u32, int]
  have hw : IntKind.u64.wrap q = q := by rw [IntKind.wrap_u64]; omega
  rw [hw]
  exact .inl ⟨h0, withS_bits hm h0 h1⟩
abbrev stepsFn (n : Nett) (m : Nat) : D := .fn 264 [.ptr n.cells, .ptr [u32 m]]
theorem steps_ok (n : Nett) (m : Nat) : PureR Tryz.prog 235 [.agg n.cells, u32 m] (stepsFn n m) := by
  refine pure_of_body mixed Tryz.func235 rfl call_235 ?_
  simp (decide := true) [Tryz.f235, u32, int, Nett.cells]
def takeStep (m : Nat) (c : Int) (out : Nat) (s : Stp) : Nat := if hasS m s.src = true ∧ s.cls = c then withS out s.dst else out
def afterS (l : List Stp) (m : Nat) (c : Int) : Nat := l.foldl (takeStep m c) 0
def StepsOk (l : List Stp) : Prop := ∀ s ∈ l, (0 ≤ s.src ∧ s.src < 3) ∧ (0 ≤ s.dst ∧ s.dst < 3)
theorem fold_lt8 {m : Nat} {c : Int} : ∀ {l : List Stp} {out : Nat}, StepsOk l → out < 8 → l.foldl (takeStep m c) out < 8
  | [], out, _, h => h
  | s :: l, out, hl, h => by
    rw [List.foldl_cons]
    refine fold_lt8 (fun x hx => hl x (by simp [hx])) ?_
    unfold takeStep
    split
    · have := (hl s (by simp)).2; exact withS_lt h this.1 this.2
    · exact h
theorem afterS_lt {l : List Stp} (h : StepsOk l) (m : Nat) (c : Int) : afterS l m c < 8 := fold_lt8 h (by omega)
def aftCells (n : Nett) (m : Nat) : List Sym := [.junk, .junk, .junk, .junk, .junk, .bp 2 0, .junk, .bp 1 0, .junk, .junk, .junk, .d (stepsFn n m), .junk, .junk, .junk, .junk, .junk, .junk, .junk, .junk, .junk, .junk]
@[simp] theorem aftCells_lo (n : Nett) (m : Nat) : Sym.los 3 (aftCells n m) := by simp [aftCells, Sym.los, Sym.lo]
noncomputable def aftOwn (n : Nett) (m : Nat) (c : Int) (out : Nat) (s : LoopState) : List (Nat × Obj') :=
  [(0, .raw (.lp #[12] (rAs Tryz.f203) (rBd Tryz.f203) s none) (aftCells n m)), (1, .box 218 [.d (u32 out)]), (2, .box 3 [.d (int c)])]
theorem aft_round (n : Nett) (m : Nat) (c : Int) (out : Nat) (hout : out < 8) (s : Stp) (hs : 0 ≤ s.dst ∧ s.dst < 3) :
    RoundC Tryz.prog 0 [.d (.agg s.row)] (aftOwn n m c out .ready) 3 (.d (.bool true)) 3 (aftOwn n m c (if s.cls = c then withS out s.dst else out) .ready) [] := by
  refine round_ev (cells := aftCells n m) (ps := #[12]) (aS := rAs Tryz.f203) (bd := rBd Tryz.f203) rfl (by simp) (by simp [aftCells]) (by omega) (by simp [Sym.los, Sym.lo]) ?_
  have hw := setWith_ok out s.dst hout hs.1 hs.2
  by_cases hc : s.cls = c
  · rw [if_pos hc]
    simp (decide := true) [aftOwn, aftCells, rAs, rBd, theRange, Tryz.f203, Stp.row, int, u32, hc]
    refine ECall.pure (by rfl) hw (by simp [u32, int]) ?_
    simp (decide := true) [u32, int]
  · rw [if_neg hc]
    simp (decide := true) [aftOwn, aftCells, rAs, rBd, theRange, Tryz.f203, Stp.row, int, u32, hc]
set_option maxHeartbeats 2000000 in
theorem aft_iter (n : Nett) (m : Nat) (c : Int) (hok : StepsOk n.steps) (hm : m < 8) (hl : n.steps.length < 2^40) :
    CallC Tryz.prog 264 [.yd 0, .d (.ptr n.cells), .d (.ptr [u32 m])] (aftOwn n m c 0 .ready) 3 (.d (.tup [])) 3 (aftOwn n m c (afterS n.steps m c) .ready) [] := by
  refine CallC.unitX (callC_of_body mixed Tryz.func264 rfl call_264 (by simp [Sym.los, Sym.lo]) ?_)
  simp (decide := true) [Tryz.f264, Nett.cells, stepsD, int, u32]
  refine loop_ruleT mixed (fun k : Nat => { n := 24, next := 3, base := 3, slots := [(0, .yd 0), (1, .d (.ptr n.cells)), (2, .d (.ptr [u32 m])), (7, .d (stepsD n.steps)), (8, .d (int n.steps.length)), (9, .d (int k))], own := aftOwn n m c ((n.steps.take k).foldl (takeStep m c) 0) .ready })
    (fun k => k ≤ n.steps.length) (fun k => n.steps.length - k) 0 (by simp) (by simp (decide := true) [int, u32, stepsD, Nett.cells, aftOwn]) ?_
  intro k hk
  refine triple_of_evX ?_
  by_cases hlt : k < n.steps.length
  case neg =>
    have : k = n.steps.length := by omega
    subst this
    rw [List.take_length]
    have ha : (n.steps.foldl (takeStep m c) 0) = afterS n.steps m c := rfl
    rw [ha]
    simp (decide := true) [int, u32, stepsD, Nett.cells, aftOwn]
  have hlt' : (k : Int) < n.steps.length := by omega
  have hsn : (n.steps.take (k + 1)).foldl (takeStep m c) 0 = takeStep m c ((n.steps.take k).foldl (takeStep m c) 0) n.steps[k] := by rw [take_snocG hlt, List.foldl_append]; rfl
  have ho8 : (n.steps.take k).foldl (takeStep m c) 0 < 8 := fold_lt8 (fun x hx => hok x (List.mem_of_mem_take hx)) (by omega)
  obtain ⟨s, es⟩ : ∃ s, n.steps[k] = s := ⟨_, rfl⟩
  have e1 : n.steps[k]? = some s := by rw [List.getElem?_eq_getElem hlt, es]
  have hsok := hok s (by rw [← es]; exact List.getElem_mem hlt)
  rw [es] at hsn
  generalize (n.steps.take k).foldl (takeStep m c) 0 = out at hsn ho8
  have hH := setHas_ok m s.src hm hsok.1.1 hsok.1.2
  have hR := aft_round n m c out ho8 s hsok.2
  simp (decide := true) [int, u32, stepsD, Nett.cells, Stp.row, aftOwn, hlt, hlt', e1, es, I64]
  refine ECall.pure (by rfl) hH (by simp [u32, int]) ?_
  cases hb : hasS m s.src with
  | false =>
    have h2 : takeStep m c out s = out := by unfold takeStep; rw [if_neg (by rw [hb]; simp)]
    rw [h2] at hsn
    simp (decide := true) [int, u32, stepsD, Nett.cells, Stp.row, aftOwn, hlt, hlt', e1, es, I64]
    exact ⟨⟨by omega, by omega⟩, k + 1, hlt, by omega, by omega, by rw [hsn]⟩
  | true =>
    have h2 : takeStep m c out s = if s.cls = c then withS out s.dst else out := by unfold takeStep; rw [hb]; simp
    rw [h2] at hsn
    simp (decide := true) [int, u32, stepsD, Nett.cells, Stp.row, aftOwn, hlt, hlt', e1, es, I64]
    refine EYield.to 0 [0, 1, 2] [.d (.agg s.row)] (aftOwn n m c out .ready) (by simp [rho]) (by simp [Stp.row, int]) (by simp [Sym.los, Sym.lo]) (by simp [aftOwn, aftCells, u32, int]; rfl) hR ?_
    simp (decide := true) [int, u32, stepsD, Nett.cells, Stp.row, aftOwn, aftCells, hlt, hlt', e1, es, I64]
    exact ⟨⟨by omega, by omega⟩, k + 1, hlt, by omega, by omega, by rw [hsn]⟩
set_option maxHeartbeats 2000000 in
theorem after_ok (n : Nett) (m : Nat) (c : Int) (hok : StepsOk n.steps) (hm : m < 8) (hl : n.steps.length < 2^40) :
    PureR Tryz.prog 203 [.agg n.cells, u32 m, int c] (u32 (afterS n.steps m c)) := by
  refine pureN_of_bodyN Tryz.func203 rfl call_203 ?_
  refine cutN_ev mixed 2 { n := 22, next := 3, slots := [(1, .d (u32 m)), (3, .bp 0 0), (5, .bp 1 0), (7, .bp 2 0)], own := [(0, .box 33 (n.cells.map .d)), (1, .box 3 [.d (int c)]), (2, .box 218 [.d (u32 0)])] } rfl ?_ ?_
  · simp (decide := true) [Tryz.f203, headC, Nett.cells, int, u32]
  simp only [tailC]
  refine tripleN_seqR (cutN_ev mixed 1 { n := 22, next := 3, slots := [(5, .bp 1 0), (7, .bp 2 0), (11, .d (stepsFn n m))], own := [(1, .box 3 [.d (int c)]), (2, .box 218 [.d (u32 0)])] } rfl ?_ ?_)
  · simp (decide := true) [headC, Nett.cells, int, u32]
    refine ECall.pure (by rfl) (steps_ok n m) (by simp [Nett.cells, int, u32]) ?_
    simp (decide := true) [Nett.cells, int, u32]
  simp only [tailC]
  refine tripleN_block (tripleN_range (k := 0) (ids := [3, 2, 1]) (args0 := [.yd 0, .d (.ptr n.cells), .d (.ptr [u32 m])]) (own0 := aftOwn n m c 0 .ready) (by rfl) (by simp [rho]) (by simp) (by simp [Sym.los, Sym.lo]) ?_ (aft_iter n m c hok hm hl) ?_)
  · simp (decide := true) [aftOwn, aftCells, rAs, rBd, theRange, Tryz.f203, u32, int]
  · simp (decide := true) [aftOwn, aftCells, u32, int]
end Go.V
namespace Go.V
open Go Go.Proofs
def runS (l : List Stp) (cs : List Int) : Nat := cs.foldl (fun m c => afterS l m c) 1
def finalS (l : List Int) : Nat := l.foldl withS 0
theorem runS_lt {l : List Stp} (h : StepsOk l) : ∀ (cs : List Int) (m : Nat), m < 8 → cs.foldl (fun m c => afterS l m c) m < 8
  | [], m, hm => hm
  | c :: cs, m, hm => by rw [List.foldl_cons]; exact runS_lt h cs _ (afterS_lt h m c)
theorem finalS_lt : ∀ (l : List Int) (m : Nat), (∀ q ∈ l, 0 ≤ q ∧ q < 3) → m < 8 → l.foldl withS m < 8
  | [], m, _, hm => hm
  | q :: l, m, h, hm => by
    rw [List.foldl_cons]
    exact finalS_lt l _ (fun x hx => h x (by simp [hx])) (withS_lt hm (h q (by simp)).1 (h q (by simp)).2)
theorem run23_ok (n : Nett) (hok : StepsOk n.steps) (hl : n.steps.length < 2^40) (cs : List Int) (hc : cs.length < 2^40) : PureR Tryz.prog 156 [.agg n.cells, ints cs] (u32 (runS n.steps cs)) := by
  refine pure_of_body mixed Tryz.func156 rfl call_156 ?_
  simp (decide := true) [Tryz.f156, Nett.cells, int, ints, u32]
  refine loop_rule mixed (fun k : Nat => { n := 20, next := 1, slots := [(2, .bp 0 0), (5, .d (u32 (runS n.steps (cs.take k)))), (8, .d (ints cs)), (9, .d (int cs.length)), (10, .d (int k))], own := [(0, .box 33 (n.cells.map .d))] })
    (fun k => k ≤ cs.length) (fun k => cs.length - k) 0 (by simp) (by simp (decide := true) [int, ints, u32, Nett.cells, runS]) ?_
  intro k hk
  by_cases hlt : k < cs.length
  case neg =>
    have : k = cs.length := by omega
    subst this
    rw [List.take_length]
    simp (decide := true) [int, ints, u32]
  have hlt' : (k : Int) < cs.length := by omega
  have hsn : runS n.steps (cs.take (k + 1)) = afterS n.steps (runS n.steps (cs.take k)) cs[k] := by unfold runS; rw [take_snocG hlt, List.foldl_append]; rfl
  have hm8 : runS n.steps (cs.take k) < 8 := runS_lt hok _ 1 (by omega)
  obtain ⟨c, ec⟩ : ∃ c, cs[k] = c := ⟨_, rfl⟩
  have e1 : cs[k]? = some c := by rw [List.getElem?_eq_getElem hlt, ec]
  rw [ec] at hsn
  generalize runS n.steps (cs.take k) = m at hsn hm8
  have hA := after_ok n m c hok hm8 hl
  simp (decide := true) [int, ints, u32, Nett.cells, hlt, hlt', e1, ec, I64]
  refine ECall.pure (by rfl) hA (by simp [u32, int, Nett.cells]) ?_
  simp (decide := true) [int, ints, u32, Nett.cells, I64]
  exact ⟨⟨by omega, by omega⟩, k + 1, hlt, by omega, by rw [hsn], by omega⟩
theorem final23_ok (n : Nett) (hf : ∀ q ∈ n.final, 0 ≤ q ∧ q < 3) (hl : n.final.length < 2^40) : PureR Tryz.prog 157 [.agg n.cells] (u32 (finalS n.final)) := by
  refine pure_of_body mixed Tryz.func157 rfl call_157 ?_
  simp (decide := true) [Tryz.f157, Nett.cells, int, ints, u32]
  refine loop_rule mixed (fun k : Nat => { n := 18, next := 1, slots := [(3, .d (u32 (finalS (n.final.take k)))), (7, .d (ints n.final)), (8, .d (int n.final.length)), (9, .d (int k))], own := [] })
    (fun k => k ≤ n.final.length) (fun k => n.final.length - k) 0 (by simp) (by simp (decide := true) [int, ints, u32, Nett.cells, finalS]) ?_
  intro k hk
  by_cases hlt : k < n.final.length
  case neg =>
    have : k = n.final.length := by omega
    subst this
    rw [List.take_length]
    simp (decide := true) [int, ints, u32]
  have hlt' : (k : Int) < n.final.length := by omega
  have hsn : finalS (n.final.take (k + 1)) = withS (finalS (n.final.take k)) n.final[k] := by unfold finalS; rw [take_snocG hlt, List.foldl_append]; rfl
  have hm8 : finalS (n.final.take k) < 8 := finalS_lt _ 0 (fun x hx => hf x (List.mem_of_mem_take hx)) (by omega)
  have hq := hf n.final[k] (List.getElem_mem hlt)
  obtain ⟨c, ec⟩ : ∃ c, n.final[k] = c := ⟨_, rfl⟩
  have e1 : n.final[k]? = some c := by rw [List.getElem?_eq_getElem hlt, ec]
  rw [ec] at hsn hq
  generalize finalS (n.final.take k) = m at hsn hm8
  have hA := setWith_ok m c hm8 hq.1 hq.2
  simp (decide := true) [int, ints, u32, Nett.cells, hlt, hlt', e1, ec, I64]
  refine ECall.pure (by rfl) hA (by simp [u32, int, Nett.cells]) ?_
  simp (decide := true) [int, ints, u32, Nett.cells, I64]
  exact ⟨⟨by omega, by omega⟩, k + 1, hlt, by omega, by rw [hsn], by omega⟩
def NetOk (n : Nett) : Prop := StepsOk n.steps ∧ (∀ q ∈ n.final, 0 ≤ q ∧ q < 3) ∧ n.steps.length < 2^40 ∧ n.final.length < 2^40
theorem and_bits : ∀ (a b : Fin 8), (bitsD .and .u32 (a.val : Int) (b.val : Int)) = ((a.val &&& b.val : Nat) : Int) := by decide +kernel
def acceptsS (n : Nett) (cs : List Int) : Bool := decide (runS n.steps cs &&& finalS n.final ≠ 0)
theorem accepts_ok (n : Nett) (hn : NetOk n) (cs : List Int) (hc : cs.length < 2^40) : PureR Tryz.prog 94 [.agg n.cells, ints cs] (.bool (acceptsS n cs)) := by
  obtain ⟨h1, h2, h3, h4⟩ := hn
  have w1 := run23_ok n h1 h3 cs hc
  have w2 := final23_ok n h2 h4
  have l1 : runS n.steps cs < 8 := runS_lt h1 cs 1 (by omega)
  have l2 : finalS n.final < 8 := finalS_lt _ 0 h2 (by omega)
  unfold acceptsS
  generalize runS n.steps cs = a at w1 l1 ⊢
  generalize finalS n.final = b at w2 l2 ⊢
  have hb := and_bits ⟨a, l1⟩ ⟨b, l2⟩
  simp only at hb
  refine pure_of_body mixed Tryz.func94 rfl call_94 ?_
  simp (decide := true) [Tryz.f94, Nett.cells, int, ints]
  refine scall_pure (by rfl) (by rfl) w1 (by simp [u32, int, Nett.cells]) ?_
  simp (decide := true) [int, ints, u32, Nett.cells, I64]
  refine scall_pure (by rfl) (by rfl) w2 (by simp [u32, int, Nett.cells]) ?_
  simp (decide := true) [int, ints, u32, Nett.cells, I64, hb]
theorem getF1_ok (e : Ent) (id : Int) : PureR Tryz.prog 98 [.agg e.row, .ptr [int id]] (.bool (decide (e.id = id))) := by
  refine pure_of_body mixed Tryz.func98 rfl call_98 ?_
  simp (decide := true) [Tryz.f98, Ent.row, int]
theorem indexE_ok (l : List Ent) (id : Int) (hl : l.length < 2^62) : PureR Tryz.prog 97 [lexD l, .fn 98 [.ptr [int id]]] (int (findE l id)) := by
  refine pure_of_body mixed Tryz.func97 rfl call_97 ?_
  simp [Tryz.f97, lexD]
  refine loop_rule mixed (fun k : Nat => { n := 19, next := 0, slots := [(0, .d (lexD l)), (1, .d (.fn 98 [.ptr [int id]])), (6, .d (lexD l)), (7, .d (.int .i64 l.length)), (8, .d (.int .i64 k))], own := [] })
    (fun k => k ≤ l.length ∧ ∀ e ∈ l.take k, e.id ≠ id) (fun k => l.length - k) 0 (by simp) (by simp [lexD]) ?_
  intro k ⟨hk, hp⟩
  by_cases hlt : k < l.length
  · have hlt' : (k : Int) < l.length := by omega
    obtain ⟨e, ee⟩ : ∃ e, l[k] = e := ⟨_, rfl⟩
    have e1 : l[k]? = some e := by rw [List.getElem?_eq_getElem hlt, ee]
    simp (decide := true) [lexD, Ent.row, int, e1, ee, hlt, hlt', I64]
    refine ECall.pure (by rfl) (getF1_ok e id) (by simp [Ent.row, int]) ?_
    by_cases he : e.id = id
    · have := findE_hit hlt hp (by rw [ee]; exact he)
      simp (decide := true) [lexD, int, he, I64, findE, this]
    · simp (decide := true) [lexD, int, he, I64]
      exact ⟨⟨by omega, by omega⟩, k + 1, ⟨hlt, take_all hlt hp (by rw [ee]; exact he)⟩, by omega, by omega⟩
  · have : k = l.length := by omega
    subst this
    simp (decide := true) [lexD, int]
    simp [findE, findE_miss (by simpa using hp)]
theorem findE_get (l : List Ent) (id : Int) : (findE l id < 0 ∧ getE l id = (Ent.zero, false)) ∨ ∃ k : Nat, ∃ h : k < l.length, findE l id = k ∧ getE l id = (l[k], true) := by
  unfold findE getE
  cases h : l.findIdx? (·.id = id) with
  | none =>
    left
    rw [List.findIdx?_eq_none_iff] at h
    have : l.find? (·.id = id) = none := by rw [List.find?_eq_none]; intro x hx; simpa using h x hx
    rw [this]
    exact ⟨by simp, rfl⟩
  | some k =>
    right
    rw [List.findIdx?_eq_some_iff_getElem] at h
    obtain ⟨h1, h2, h3⟩ := h
    refine ⟨k, h1, rfl, ?_⟩
    have : l.find? (·.id = id) = some l[k] := by
      rw [List.find?_eq_some_iff_getElem]
      exact ⟨h2, k, h1, rfl, fun j hj => by simpa using h3 j hj⟩
    rw [this]
theorem lexGet_ok (l : List Ent) (id : Int) (hl : l.length < 2^40) : PureR Tryz.prog 42 [lexD l, int id] (.tup [.agg (getE l id).1.row, .bool (getE l id).2]) := by
  refine pure_of_body mixed Tryz.func42 rfl call_42 ?_
  simp (decide := true) [Tryz.f42, lexD, int]
  refine ECall.pure (by rfl) (indexE_ok l id (by omega)) (fun _ => rfl) ?_
  rcases findE_get l id with ⟨h1, h2⟩ | ⟨k, hk, h1, h2⟩
  · rw [h2]
    simp (decide := true) [lexD, int, h1, Ent.zero, Ent.row, ints, listsD, sensD, lnkD, rfD]
  · rw [h2, h1]
    have hk0 : ¬ (k : Int) < 0 := by omega
    have hk' : (k : Int) < l.length := by omega
    simp (decide := true) [lexD, int, hk0, hk, hk', Ent.row, ints, listsD, sensD, lnkD, rfD]
end Go.V
namespace Go.V
open Go Go.Proofs
def wayR (l : List Ent) : Nat → Int → Option (List Sens)
  | 0, _ => none
  | f + 1, id => if (getE l id).2 = true then (if (getE l id).1.senses ≠ [] then some (getE l id).1.senses else if (getE l id).1.main = 0 then none else wayR l f (getE l id).1.main) else none
def sensesE (l : List Ent) (id : Int) : List Sens := (wayR l (l.length + 1) id).getD []
theorem cloneSens_ok (l : List Sens) (hl : l.length < 2^40) : PureR Tryz.prog 103 [sensD l] (sensD l) := by
  refine pure_of_body mixed Tryz.func103 rfl call_103 ?_
  simp (decide := true) [Tryz.f103, sensD, maxLen]
  exact ⟨fun a _ => rfl, by omega, by omega⟩
def senCells : List Sym := [.junk, .junk, .junk, .junk, .bp 1 0, .junk, .junk, .junk, .fn 160 [.bp 2 0, .bp 3 0], .junk, .junk, .junk, .junk, .junk, .junk, .junk, .junk]
@[simp] theorem senCells_lo : Sym.los 4 senCells := by simp [senCells, Sym.los, Sym.lo]
@[simp] theorem senCells_ren : rens (rho' [0, 1, 2, 3] 5) senCells = senCells := rfl
noncomputable def senRaw (s : LoopState) (pd : Option Code) : Obj' := .raw (.lp #[9] (rAs Tryz.f45) (rBd Tryz.f45) s pd) senCells
noncomputable def senOwn (l : List Ent) (id : Int) : List (Nat × Obj') :=
  [(0, senRaw .ready none), (1, .box 98 [.nils]), (2, .box 34 [.d (lexD l)]), (3, .box 3 [.d (int id)])]
noncomputable def senOwn1 (l : List Ent) (id : Int) (ss : List Sens) : List (Nat × Obj') :=
  [(0, senRaw .done (some .ret)), (1, .box 98 [.d (sensD ss)]), (2, .box 34 [.d (lexD l)]), (3, .box 3 [.d (int id)])]
theorem sen_round0 (l : List Ent) (id : Int) (e : Ent) (he : e.senses = []) :
    RoundC Tryz.prog 0 [.d (.agg e.row)] (senOwn l id) 4 (.d (.bool true)) 4 (senOwn l id) [] := by
  refine round_ev (cells := senCells) (ps := #[9]) (aS := rAs Tryz.f45) (bd := rBd Tryz.f45) rfl (by simp) (by simp [senCells]) (by omega) (by simp [Sym.los, Sym.lo]) ?_
  simp (decide := true) [senOwn, senRaw, senCells, rAs, rBd, theRange, Tryz.f45, Ent.row, int, he, sensD]
theorem sen_round1 (l : List Ent) (id : Int) (e : Ent) (he : e.senses ≠ []) (hl : e.senses.length < 2^40) :
    RoundC Tryz.prog 0 [.d (.agg e.row)] (senOwn l id) 4 (.d (.bool false)) 4 (senOwn1 l id e.senses) [] := by
  refine round_ev (cells := senCells) (ps := #[9]) (aS := rAs Tryz.f45) (bd := rBd Tryz.f45) rfl (by simp) (by simp [senCells]) (by omega) (by simp [Sym.los, Sym.lo]) ?_
  have hC := cloneSens_ok e.senses hl
  have hp : (0 : Int) < e.senses.length := by
    have : e.senses.length ≠ 0 := fun e2 => he (List.eq_nil_of_length_eq_zero e2)
    omega
  simp (decide := true) [senOwn, senOwn1, senRaw, senCells, rAs, rBd, theRange, Tryz.f45, Ent.row, int, he, hp, sensD]
  intro _
  refine ECall.pure (by rfl) hC (by simp [sensD]) ?_
  simp (decide := true) [senOwn, senOwn1, senRaw, senCells, int, sensD]
noncomputable def senFin : Option (List Sens) → List (Nat × Obj')
  | none => [(0, senRaw .ready none), (1, .box 98 [.nils])]
  | some ss => [(0, senRaw .done (some .ret)), (1, .box 98 [.d (sensD ss)])]
set_option maxHeartbeats 4000000 in
theorem sen_iter (l : List Ent) (id : Int) (hl : l.length < 2^40) (hs : ∀ e ∈ l, e.senses.length < 2^40) :
    CallC Tryz.prog 160 [.yd 0, .bp 2 0, .bp 3 0] (senOwn l id) 4 (.d (.tup [])) 4 (senFin (wayR l (l.length + 1) id)) [] := by
  refine CallC.unitX (callC_of_body mixed Tryz.func160 rfl call_160 (by simp [Sym.los, Sym.lo]) ?_)
  simp (decide := true) [Tryz.f160, senOwn, lexD, int, I64]
  refine ⟨⟨by omega, by omega⟩, ?_⟩
  refine loop_ruleT mixed (fun x : Nat × Int => { n := 33, next := 4, base := 4, slots := [(0, .yd 0), (1, .bp 2 0), (2, .bp 3 0), (8, .d (int (l.length + 1))), (9, .d (int x.1))], own := senOwn l x.2 })
    (fun x => x.1 ≤ l.length + 1 ∧ wayR l (l.length + 1 - x.1) x.2 = wayR l (l.length + 1) id) (fun x => l.length + 1 - x.1) (0, id) (by simp) (by simp (decide := true) [int, lexD, senOwn, senRaw]) ?_
  rintro ⟨k, i⟩ ⟨hk, hw⟩
  simp only at hk hw
  refine triple_of_evX ?_
  by_cases hlt : k < l.length + 1
  case neg =>
    have : k = l.length + 1 := by omega
    subst this
    rw [Nat.sub_self] at hw
    rw [← hw]
    simp (decide := true) [int, lexD, senOwn, senRaw, wayR, senFin]
  have hlt' : (k : Int) < l.length + 1 := by omega
  rw [show l.length + 1 - k = (l.length - k) + 1 by omega, wayR] at hw
  have hG := lexGet_ok l i hl
  have hmem : (getE l i).2 = true → (getE l i).1 ∈ l := by
    rcases findE_get l i with ⟨_, h2⟩ | ⟨j, hj, _, h2⟩
    · rw [h2]; intro h; cases h
    · rw [h2]; intro _; exact List.getElem_mem hj
  generalize getE l i = g at hw hG hmem
  obtain ⟨e, ok⟩ := g
  simp only at hw hG hmem
  simp (decide := true) [int, lexD, senOwn, senRaw, hlt, hlt']
  refine ECall.pure (by rfl) hG (by simp [lexD, int]) ?_
  cases ok with
  | false =>
    simp only [Bool.false_eq_true, if_false] at hw
    rw [← hw]
    simp (decide := true) [int, lexD, senOwn, senRaw, senFin, Ent.row, hlt, hlt']
  | true =>
    simp only [if_true] at hw
    have hem := hmem rfl
    by_cases hes : e.senses = []
    · have hR := sen_round0 l i e hes
      rw [if_neg (by simp [hes])] at hw
      simp (decide := true) [int, lexD, senOwn, senRaw, Ent.row, hlt, hlt']
      refine EYield.to 0 [0, 1, 2, 3] [.d (.agg e.row)] (senOwn l i) (by simp [rho]) (by simp [Ent.row, int]) (by simp [Sym.los, Sym.lo]) (by simp [senOwn, senRaw, senCells, lexD, int]; rfl) hR ?_
      by_cases hm0 : e.main = 0
      · rw [if_pos hm0] at hw
        rw [← hw]
        simp (decide := true) [int, lexD, senOwn, senRaw, senFin, Ent.row, hlt, hlt', hm0]
      · rw [if_neg hm0] at hw
        simp (decide := true) [int, lexD, senOwn, senRaw, senFin, Ent.row, hlt, hlt', hm0]
        exact ⟨by unfold I64; omega, k + 1, e.main, ⟨by omega, by rw [show l.length + 1 - (k + 1) = l.length - k by omega]; exact hw⟩, by omega, by omega, rfl⟩
    · have hR := sen_round1 l i e hes (hs e hem)
      rw [if_pos hes] at hw
      rw [← hw]
      simp (decide := true) [int, lexD, senOwn, senRaw, Ent.row, hlt, hlt']
      refine EYield.to 0 [0, 1, 2, 3] [.d (.agg e.row)] (senOwn l i) (by simp [rho]) (by simp [Ent.row, int]) (by simp [Sym.los, Sym.lo]) (by simp [senOwn, senRaw, senCells, lexD, int]; rfl) hR ?_
      simp (decide := true) [int, lexD, senOwn1, senRaw, senFin, Ent.row, hlt, hlt']
theorem way_ok (l : List Ent) (id : Int) : CallC Tryz.prog 102 [.d (lexD l), .d (int id)] [] 0 (.fn 160 [.bp 0 0, .bp 1 0]) 2 [(0, .box 34 [.d (lexD l)]), (1, .box 3 [.d (int id)])] [] := by
  refine callC_of_body mixed Tryz.func102 rfl call_102 (by simp [Sym.los, Sym.lo]) ?_
  simp (decide := true) [Tryz.f102, lexD, int]
set_option maxHeartbeats 2000000 in
theorem senses_ok (l : List Ent) (id : Int) (hl : l.length < 2^40) (hs : ∀ e ∈ l, e.senses.length < 2^40) : PureR Tryz.prog 45 [lexD l, int id] (sensD (sensesE l id)) := by
  refine pureN_of_bodyN Tryz.func45 rfl call_45 ?_
  refine cutN_ev mixed 1 { n := 17, next := 1, slots := [(0, .d (lexD l)), (1, .d (int id)), (4, .bp 0 0)], own := [(0, .box 98 [.nils])] } rfl ?_ ?_
  · simp (decide := true) [Tryz.f45, headC, lexD, int]
  simp only [tailC]
  refine tripleN_seqR (cutN_ev mixed 1 { n := 17, next := 3, slots := [(4, .bp 0 0), (8, .fn 160 [.bp 1 0, .bp 2 0])], own := [(0, .box 98 [.nils]), (1, .box 34 [.d (lexD l)]), (2, .box 3 [.d (int id)])] } rfl ?_ ?_)
  · simp (decide := true) [headC, lexD, int]
    refine ECall.mut [] [.d (lexD l), .d (int id)] [] (by rfl) (by simp [lexD, int]) (by simp) (by simp) (way_ok l id) ?_
    simp (decide := true) [lexD, int]
  simp only [tailC]
  refine tripleN_block (tripleN_range (k := 0) (ids := [3, 0, 1, 2]) (args0 := [.yd 0, .bp 2 0, .bp 3 0]) (own0 := senOwn l id) (by rfl) (by simp [rho]) (by simp) (by simp [Sym.los, Sym.lo]) ?_ (sen_iter l id hl hs) ?_)
  · simp (decide := true) [senOwn, senRaw, senCells, rAs, rBd, theRange, Tryz.f45, int, lexD]
  · unfold sensesE
    cases wayR l (l.length + 1) id with
    | none =>
      simp (decide := true) [senFin, senRaw, int, lexD, sensD]
    | some ss =>
      simp (decide := true) [senFin, senRaw, int, lexD]
end Go.V
namespace Go.V
open Go Go.Proofs
structure LexFit (l : List Ent) : Prop where
  len : l.length < 2^40
  alts : ∀ e ∈ l, e.alts.length < 2^39
  form : ∀ e ∈ l, ∀ w ∈ e.forms, w.length < 2^20
  senses : ∀ e ∈ l, e.senses.length < 2^40
theorem getE_mem {l : List Ent} {id : Int} (h : (getE l id).2 = true) : (getE l id).1 ∈ l := by
  rcases findE_get l id with ⟨_, h2⟩ | ⟨j, hj, _, h2⟩
  · rw [h2] at h; cases h
  · rw [h2]; exact List.getElem_mem hj
theorem getE_alts {l : List Ent} (h : LexFit l) (id : Int) : (getE l id).1.alts.length < 2^39 := by
  cases hb : (getE l id).2 with
  | true => exact h.alts _ (getE_mem hb)
  | false =>
    rcases findE_get l id with ⟨_, h2⟩ | ⟨j, hj, _, h2⟩
    · rw [h2]; simp [Ent.zero]
    · rw [h2] at hb; cases hb
theorem formsR_ok (e : Ent) (h : e.alts.length < 2^40) : PureR Tryz.prog 44 [.agg e.row] (listsD e.forms) := by
  refine pure_of_body mixed Tryz.func44 rfl call_44 ?_
  simp [Tryz.f44, Ent.row, listsD, ints, Ent.forms, maxLen]
  omega
def unAgg : D → List Sym
  | .agg l => l.map .d
  | _ => []
def formE (l : List Ent) (p : Prt) : Ent × List Int × Bool :=
  if (getE l p.entry).2 = true ∧ 0 ≤ p.alt ∧ p.alt < (getE l p.entry).1.forms.length then ((getE l p.entry).1, ((getE l p.entry).1.forms[p.alt.toNat]?.getD []), true) else ((getE l p.entry).1, [], false)
def formD (r : Ent × List Int × Bool) : D := .tup [.agg r.1.row, ints r.2.1, .bool r.2.2]
set_option maxHeartbeats 4000000 in
theorem form_ok (g : Lang) (hg : LexFit g.lex) (p : Prt) : PureR Tryz.prog 93 [g.d, .agg p.row] (formD (formE g.lex p)) := by
  have hG := lexGet_ok g.lex p.entry hg.len
  have hA := getE_alts hg p.entry
  unfold formE
  generalize getE g.lex p.entry = r at hG hA
  obtain ⟨e, ok⟩ := r
  simp only at hG hA
  have hF := formsR_ok e (by omega)
  have hfl : e.forms.length = e.alts.length + 1 := by simp [Ent.forms]
  refine pure_of_body mixed Tryz.func93 rfl call_93 ?_
  simp (decide := true) [Tryz.f93, Lang.d, Prt.row, int]
  refine ECall.pure (by rfl) hG (by simp [lexD, int]) ?_
  simp (decide := true) [int, Ent.row]
  refine ECall.pure (by rfl) hF (by simp [lexD, int]) ?_
  cases ok with
  | false =>
    simp (decide := true) [int, Ent.row, formD, ints]
  | true =>
    by_cases h0 : p.alt < 0
    · have h0' : ¬ 0 ≤ p.alt := by omega
      simp (decide := true) [int, Ent.row, formD, ints, h0, h0']
      done
    have h0' : 0 ≤ p.alt := by omega
    by_cases h1 : p.alt < e.forms.length
    · have hlt : p.alt.toNat < e.forms.length := by omega
      obtain ⟨w, ew⟩ : ∃ w, e.forms[p.alt.toNat] = w := ⟨_, rfl⟩
      have e1 : e.forms[p.alt.toNat]? = some w := by rw [List.getElem?_eq_getElem hlt, ew]
      have h1' : ¬ (e.forms.length : Int) ≤ p.alt := by omega
      simp (decide := true) [int, Ent.row, listsD, formD, h0, h0', h1, h1', e1, ew]
      refine draw_b mixed 6 2 (by rfl) rfl rfl rfl rfl (by rfl) (by simp) ?_
      simp (decide := true) [int, Ent.row, listsD, formD, ints, h0, h0', h1, h1', e1, ew, hlt]
    · have h1' : (e.forms.length : Int) ≤ p.alt := by omega
      simp (decide := true) [int, Ent.row, listsD, formD, ints, h0, h0', h1, h1']
end Go.V
namespace Go.V
open Go Go.Proofs
def classesE (l : List Ent) (ps : List Prt) : List Int := ps.flatMap fun p => if (formE l p).2.2 = true then [(formE l p).1.cls] else []
def baseE (l : List Ent) (ps : List Prt) : List Int := ps.flatMap fun p => if (formE l p).2.2 = true then (formE l p).2.1 else []
theorem classesE_snoc {l : List Ent} {ps : List Prt} {k : Nat} (h : k < ps.length) : classesE l (ps.take (k + 1)) = classesE l (ps.take k) ++ (if (formE l ps[k]).2.2 = true then [(formE l ps[k]).1.cls] else []) := by
  unfold classesE; rw [take_snocG h, List.flatMap_append, List.flatMap_singleton]
theorem baseE_snoc {l : List Ent} {ps : List Prt} {k : Nat} (h : k < ps.length) : baseE l (ps.take (k + 1)) = baseE l (ps.take k) ++ (if (formE l ps[k]).2.2 = true then (formE l ps[k]).2.1 else []) := by
  unfold baseE; rw [take_snocG h, List.flatMap_append, List.flatMap_singleton]
theorem classesE_len (l : List Ent) : ∀ ps : List Prt, (classesE l ps).length ≤ ps.length
  | [] => by simp [classesE]
  | p :: ps => by
    have := classesE_len l ps
    unfold classesE at this ⊢
    rw [List.flatMap_cons, List.length_append, List.length_cons]
    split <;> simp only [List.length_singleton, List.length_nil] <;> omega
theorem formE_len {l : List Ent} (h : LexFit l) (p : Prt) : (formE l p).2.1.length < 2^20 := by
  unfold formE
  split
  · rename_i hc
    have hlt : p.alt.toNat < (getE l p.entry).1.forms.length := by omega
    show ((getE l p.entry).1.forms[p.alt.toNat]?.getD []).length < _
    rw [List.getElem?_eq_getElem hlt]
    exact h.form _ (getE_mem hc.1) _ (List.getElem_mem hlt)
  · simp
theorem baseE_len {l : List Ent} (h : LexFit l) : ∀ ps : List Prt, (baseE l ps).length ≤ ps.length * 2^20
  | [] => by simp [baseE]
  | p :: ps => by
    have h1 := baseE_len h ps
    have h2 := formE_len h p
    unfold baseE at h1 ⊢
    rw [List.flatMap_cons, List.length_append, List.length_cons, Nat.add_mul]
    split
    · omega
    · simp only [List.length_nil]; omega
set_option maxHeartbeats 4000000 in
theorem classes_ok (g : Lang) (hg : LexFit g.lex) (ps : List Prt) (hp : ps.length < 2^20) : PureR Tryz.prog 95 [g.d, anaD ps] (ints (classesE g.lex ps)) := by
  refine pure_of_body mixed Tryz.func95 rfl call_95 ?_
  simp (decide := true) [Tryz.f95, Lang.d, anaD, partsD, int]
  refine loop_rule mixed (fun k : Nat => { n := 33, next := 4, slots := [(2, .bp 0 0), (5, .ar 3), (12, .d (partsD ps)), (13, .d (int ps.length)), (14, .d (int k))], own := [(0, .box 36 (unAgg g.d)), (3, .arr 3 1 ((classesE g.lex (ps.take k)).map fun n => [int n]))], moved := [3] })
    (fun k => k ≤ ps.length) (fun k => ps.length - k) 0 (by simp) (by simp (decide := true) [int, partsD, classesE, unAgg, Lang.d]) ?_
  intro k hk
  by_cases hlt : k < ps.length
  case neg =>
    have : k = ps.length := by omega
    subst this
    rw [List.take_length]
    simp (decide := true) [int, ints, partsD]
  have hlt' : (k : Int) < ps.length := by omega
  have hsn := classesE_snoc (l := g.lex) hlt
  have hlen := classesE_len g.lex (ps.take k)
  rw [List.length_take] at hlen
  obtain ⟨p, ep⟩ : ∃ p, ps[k] = p := ⟨_, rfl⟩
  have e1 : ps[k]? = some p := by rw [List.getElem?_eq_getElem hlt, ep]
  rw [ep] at hsn
  have hF := form_ok g hg p
  generalize formE g.lex p = r at hF hsn
  obtain ⟨e, w, ok⟩ := r
  simp only at hsn
  simp (decide := true) [int, partsD, Prt.row, hlt, hlt', e1, ep, I64, unAgg, Lang.d]
  refine ECall.pure (by rfl) hF (by simp [Lang.d, Prt.row, int]) ?_
  cases ok with
  | false =>
    simp only [Bool.false_eq_true, if_false, List.append_nil] at hsn
    simp (decide := true) [formD, int, ints, Ent.row, partsD, Prt.row, I64, unAgg, Lang.d]
    exact ⟨⟨by omega, by omega⟩, k + 1, hlt, by omega, by omega, by rw [hsn]⟩
  | true =>
    simp only [if_true] at hsn
    simp (decide := true) [formD, int, ints, Ent.row, partsD, Prt.row, I64, unAgg, Lang.d]
    exact ⟨by omega, by unfold maxLen; omega, ⟨by omega, by omega⟩, k + 1, hlt, by omega, by omega, by rw [hsn]; simp⟩
set_option maxHeartbeats 4000000 in
theorem base_ok (g : Lang) (hg : LexFit g.lex) (ps : List Prt) (hp : ps.length < 2^20) : PureR Tryz.prog 96 [g.d, anaD ps] (ints (baseE g.lex ps)) := by
  refine pure_of_body mixed Tryz.func96 rfl call_96 ?_
  simp (decide := true) [Tryz.f96, Lang.d, anaD, partsD, int]
  refine loop_rule mixed (fun k : Nat => { n := 31, next := 4, slots := [(2, .bp 0 0), (5, .ar 3), (12, .d (partsD ps)), (13, .d (int ps.length)), (14, .d (int k))], own := [(0, .box 36 (unAgg g.d)), (3, .arr 3 1 ((baseE g.lex (ps.take k)).map fun n => [int n]))], moved := [3] })
    (fun k => k ≤ ps.length) (fun k => ps.length - k) 0 (by simp) (by simp (decide := true) [int, partsD, baseE, unAgg, Lang.d]) ?_
  intro k hk
  by_cases hlt : k < ps.length
  case neg =>
    have : k = ps.length := by omega
    subst this
    rw [List.take_length]
    simp (decide := true) [int, ints, partsD]
  have hlt' : (k : Int) < ps.length := by omega
  have hsn := baseE_snoc (l := g.lex) hlt
  have hlen := baseE_len hg (ps.take k)
  rw [List.length_take] at hlen
  obtain ⟨p, ep⟩ : ∃ p, ps[k] = p := ⟨_, rfl⟩
  have e1 : ps[k]? = some p := by rw [List.getElem?_eq_getElem hlt, ep]
  rw [ep] at hsn
  have hF := form_ok g hg p
  have hFl := formE_len hg p
  generalize formE g.lex p = r at hF hsn hFl
  obtain ⟨e, w, ok⟩ := r
  simp only at hsn hFl
  simp (decide := true) [int, partsD, Prt.row, hlt, hlt', e1, ep, I64, unAgg, Lang.d]
  refine ECall.pure (by rfl) hF (by simp [Lang.d, Prt.row, int]) ?_
  cases ok with
  | false =>
    simp only [Bool.false_eq_true, if_false, List.append_nil] at hsn
    simp (decide := true) [formD, int, ints, Ent.row, partsD, Prt.row, I64, unAgg, Lang.d]
    exact ⟨⟨by omega, by omega⟩, k + 1, hlt, by omega, by omega, by rw [hsn]⟩
  | true =>
    simp only [if_true] at hsn
    simp (decide := true) [formD, int, ints, Ent.row, partsD, Prt.row, I64, unAgg, Lang.d]
    exact ⟨by omega, by unfold maxLen; omega, ⟨by omega, by omega⟩, k + 1, hlt, by omega, by omega, by rw [hsn]; simp⟩
end Go.V
namespace Go.V
open Go Go.Proofs
def idxL (l : List Int) (x : Int) : Int := match l.findIdx? (· = x) with
  | some k => k
  | none => -1
def fitsE (inv : List Phon) (cs : List Cls) (ws : List Int) : Bool := (ws.zip cs).all fun x => inCls inv x.1 x.2
end Go.V
namespace Go.V
open Go Go.Proofs
def siteE (inv : List Phon) (r : Rule) (w : List Int) (k : Nat) : Bool :=
  decide (w[k]?.getD 0 ∈ r.src) && decide (r.left.length ≤ k) && decide (k + 1 + r.right.length ≤ w.length) && !(r.beg && decide (r.left.length < k)) && !(r.fin && decide (k + 1 + r.right.length < w.length)) &&
    fitsE inv r.left ((w.take k).drop (k - r.left.length)) && fitsE inv r.right ((w.take (k + 1 + r.right.length)).drop (k + 1))
structure RuleFit (r : Rule) : Prop where
  src : r.src.length < 2^40
  left : r.left.length < 2^40
  right : r.right.length < 2^40
def segE (inv : List Phon) (r : Rule) (w : List Int) (k : Nat) (x : Int) : List Int :=
  if siteE inv r w k = true then (if r.dst[(idxL r.src x).toNat]?.getD 0 = 0 then [] else [r.dst[(idxL r.src x).toNat]?.getD 0]) else [x]
def applyE (inv : List Phon) (r : Rule) (w : List Int) : List Int := (w.zipIdx.map fun x => segE inv r w x.2 x.1).flatten
structure RuleOk (r : Rule) : Prop extends RuleFit r where
  dst : r.dst.length = r.src.length
def lastE (inv : List Phon) (rs : List Rule) (w : List Int) : List Int := rs.foldl (fun w r => applyE inv r w) w
end Go.V
namespace Go.V
open Go Go.Proofs
structure LangOk (g : Lang) : Prop where
  lex : LexFit g.lex
  inv : g.inv.length < 2^40
  rules : (∀ r ∈ g.rules, RuleOk r) ∧ g.rules.length < 2^40
  net : NetOk g.net
def partE (l : List Ent) (p : Prt) : Int :=
  if (getE l p.entry).2 = false then 9 else if (formE l p).2.2 = false then 2 else if p.sense < 0 ∨ (sensesE l p.entry).length ≤ p.sense then 22 else 0
def partsE (l : List Ent) : List Prt → Int
  | [] => 0
  | p :: ps => if partE l p = 0 then partsE l ps else partE l p
theorem partsE_drop {l : List Ent} {ps : List Prt} {k : Nat} (h : k < ps.length) : partsE l (ps.drop k) = if partE l ps[k] = 0 then partsE l (ps.drop (k + 1)) else partE l ps[k] := by
  rw [List.drop_eq_getElem_cons h]; rfl
def rightE (g : Lang) (ps : List Prt) : Int :=
  if ps.length = 0 then 4 else if 4 < ps.length then 11 else if partsE g.lex ps ≠ 0 then partsE g.lex ps else if acceptsS g.net (classesE g.lex ps) = false then 21 else if 24 < (baseE g.lex ps).length then 5 else 0
set_option maxHeartbeats 8000000 in
theorem right29_ok (g : Lang) (hg : LangOk g) (ps : List Prt) (hp : ps.length < 2^20) : PureR Tryz.prog 41 [g.d, anaD ps] (int (rightE g ps)) := by
  refine pure_of_body mixed Tryz.func41 rfl call_41 ?_
  obtain ⟨R, hR⟩ : ∃ R, rightE g ps = R := ⟨_, rfl⟩
  rw [hR]
  unfold rightE at hR
  by_cases h0 : ps.length = 0
  · rw [if_pos h0] at hR
    subst hR
    simp (decide := true) [Tryz.f41, Lang.d, anaD, partsD, int, h0]
    done
  rw [if_neg h0] at hR
  by_cases h4 : 4 < ps.length
  · rw [if_pos h4] at hR
    subst hR
    have h4' : (4 : Int) < ps.length := by omega
    have h0' : ¬ (ps.length : Int) = 0 := by omega
    simp (decide := true) [Tryz.f41, Lang.d, anaD, partsD, int, h0, h0', h4, h4']
    done
  rw [if_neg h4] at hR
  have h4' : ¬ (4 : Int) < ps.length := by omega
  have h0' : ¬ (ps.length : Int) = 0 := by omega
  simp (decide := true) [Tryz.f41, Lang.d, anaD, partsD, int, h0, h0', h4, h4']
  refine loop_rule mixed (fun k : Nat => { n := 73, next := 2, slots := [(2, .bp 0 0), (3, .bp 1 0), (21, .d (partsD ps)), (22, .d (int ps.length)), (23, .d (int k))], own := [(0, .box 36 (unAgg g.d)), (1, .box 39 [.d (partsD ps)])] })
    (fun k => k ≤ ps.length ∧ partsE g.lex (ps.drop k) = partsE g.lex ps) (fun k => ps.length - k) 0 (by simp) (by simp (decide := true) [int, partsD, unAgg, Lang.d]) ?_
  intro k ⟨hk, hpe⟩
  by_cases hlt : k < ps.length
  case neg =>
    have : k = ps.length := by omega
    subst this
    rw [List.drop_length] at hpe
    rw [← hpe] at hR
    have hz : partsE g.lex [] = 0 := rfl
    rw [hz, if_neg (by simp)] at hR
    have hC := classes_ok g hg.lex ps hp
    have hB := base_ok g hg.lex ps hp
    have hcl := classesE_len g.lex ps
    have hA := accepts_ok g.net hg.net (classesE g.lex ps) (by omega)
    have hbl := baseE_len hg.lex ps
    simp (decide := true) [int, partsD, unAgg, Lang.d]
    refine scall_pure (by rfl) (by rfl) hC (by simp [int]) ?_
    simp (decide := true) [int, partsD, unAgg, Lang.d]
    refine scall_pure (by rfl) (by rfl) hA (by simp [int]) ?_
    cases hac : acceptsS g.net (classesE g.lex ps) with
    | false =>
      rw [if_pos hac] at hR
      subst hR
      simp (decide := true) [int]
    | true =>
      rw [if_neg (by rw [hac]; decide)] at hR
      simp (decide := true) [int]
      refine ECall.pure (by rfl) hB (by simp [int]) ?_
      by_cases hb : 24 < (baseE g.lex ps).length
      · rw [if_pos hb] at hR
        subst hR
        have hb' : (24 : Int) < (baseE g.lex ps).length := by omega
        simp (decide := true) [int, ints, hb, hb']
      · rw [if_neg hb] at hR
        subst hR
        have hb' : ¬ (24 : Int) < (baseE g.lex ps).length := by omega
        simp (decide := true) [int, ints, hb, hb']
  have hlt' : (k : Int) < ps.length := by omega
  have hsn := partsE_drop (l := g.lex) hlt
  rw [hpe] at hsn
  obtain ⟨p, ep⟩ : ∃ p, ps[k] = p := ⟨_, rfl⟩
  have e1 : ps[k]? = some p := by rw [List.getElem?_eq_getElem hlt, ep]
  rw [ep] at hsn
  have hG := lexGet_ok g.lex p.entry hg.lex.len
  have hF := form_ok g hg.lex p
  have hS := senses_ok g.lex p.entry hg.lex.len hg.lex.senses
  unfold partE at hsn
  generalize getE g.lex p.entry = r1 at hG hsn
  generalize formE g.lex p = r2 at hF hsn
  generalize sensesE g.lex p.entry = ss at hS hsn
  obtain ⟨e, ok⟩ := r1
  obtain ⟨e2, w, ok2⟩ := r2
  simp only at hsn
  simp (decide := true) [int, partsD, Prt.row, hlt, hlt', e1, ep, I64, unAgg, Lang.d]
  refine ECall.pure (by rfl) hG (by simp [lexD, int]) ?_
  cases ok with
  | false =>
    have : R = 9 := by rw [← hR, hsn]; simp
    subst this
    simp (decide := true) [int, Ent.row]
  | true =>
    simp (decide := true) [int, Ent.row, Prt.row, I64, unAgg, Lang.d]
    refine ECall.pure (by rfl) hF (by simp [lexD, int]) ?_
    cases ok2 with
    | false =>
      have : R = 2 := by rw [← hR, hsn]; simp
      subst this
      simp (decide := true) [int, formD, Ent.row]
    | true =>
      simp (decide := true) [int, formD, Ent.row, Prt.row, I64, unAgg, Lang.d]
      by_cases hs0 : p.sense < 0
      · have : R = 22 := by rw [← hR, hsn]; simp [hs0]
        subst this
        simp (decide := true) [int, hs0]
        intro h
        omega
      · simp (decide := true) [int, hs0]
        intro _
        refine scall_pure (by rfl) (by rfl) hS (by simp [sensD]) ?_
        by_cases hs1 : (ss.length : Int) ≤ p.sense
        · have : R = 22 := by rw [← hR, hsn]; simp [hs0, hs1]
          subst this
          simp (decide := true) [int, sensD, hs1]
        · have hd : partsE g.lex (ps.drop (k + 1)) = partsE g.lex ps := by rw [hsn]; simp [hs0, hs1]
          simp (decide := true) [int, sensD, hs1]
          exact ⟨⟨by omega, by omega⟩, k + 1, ⟨hlt, hd⟩, by omega, by simp⟩
end Go.V
namespace Go.V
open Go Go.Proofs
def formA (g : Lang) (ps : List Prt) : List Int × Int :=
  if rightE g ps ≠ 0 then ([], rightE g ps) else if (lastE g.inv g.rules (baseE g.lex ps)).length = 0 then ([], 23) else (lastE g.inv g.rules (baseE g.lex ps), 0)
end Go.V
namespace Go.V
open Go Go.Proofs
def wayG (l : List Ent) : Nat → Int → List Int
  | 0, _ => []
  | f + 1, id => if (getE l id).2 = true then id :: (if (getE l id).1.main = 0 then [] else wayG l f (getE l id).1.main) else []
theorem wayG_len (l : List Ent) : ∀ f id, (wayG l f id).length ≤ f
  | 0, _ => Nat.le_refl _
  | f + 1, id => by
    have := wayG_len l f (getE l id).1.main
    unfold wayG
    split
    · split <;> simp <;> omega
    · simp
theorem getE_id {l : List Ent} {id : Int} (h : (getE l id).2 = true) : (getE l id).1.id = id := by
  unfold getE at h ⊢
  cases hf : l.find? (·.id = id) with
  | none => rw [hf] at h; cases h
  | some e => have := List.find?_some hf; simpa using this
theorem refForm_ok (e : Ent) (h : e.alts.length < 2^39) (alt : Int) : PureR Tryz.prog 161 [.agg e.row, int alt] (.bool (decide (0 ≤ alt ∧ alt < e.forms.length))) := by
  have hF : PureR Tryz.prog 49 [.agg e.row] (listsD e.forms) := by
    refine pure_of_body mixed Tryz.func49 rfl call_49 ?_
    simp [Tryz.f49, Ent.row, listsD, ints, Ent.forms, maxLen]
    omega
  have hfl : e.forms.length = e.alts.length + 1 := by simp [Ent.forms]
  refine pure_of_body mixed Tryz.func161 rfl call_161 ?_
  by_cases h0 : 0 ≤ alt
  · simp (decide := true) [Tryz.f161, int, Ent.row, h0]
    refine ECall.pure (by rfl) hF (by simp [Ent.row, int]) ?_
    simp (decide := true) [int, listsD]
  · simp (decide := true) [Tryz.f161, int, Ent.row, h0]
set_option maxHeartbeats 4000000 in
theorem way27_ok (l : List Ent) (id : Int) (hl : l.length < 2^40) : PureR Tryz.prog 109 [lexD l, int id] (ints (wayG l (l.length + 1) id)) := by
  refine pure_of_body mixed Tryz.func109 rfl call_109 ?_
  simp (decide := true) [Tryz.f109, int, ints]
  refine ECall.pure (by rfl) (find27_ok l id (by omega)) (by simp [lexD, int]) ?_
  simp (decide := true) [int, ints]
  refine loop_rule mixed (fun x : List Int × Int => { n := 42, next := 2, slots := [(0, .d (lexD l)), (5, .ar 1), (6, .d (int (findE l x.2)))], own := [(1, .arr 3 1 (x.1.map fun n => [int n]))], moved := [1] })
    (fun x => x.1 ++ wayG l (l.length + 1 - x.1.length) x.2 = wayG l (l.length + 1) id ∧ x.1.length ≤ l.length + 1) (fun x => l.length + 1 - x.1.length) ([], id) (by simp) (by simp (decide := true) [int]) ?_
  rintro ⟨out, x⟩ ⟨hw, hn⟩
  simp only at hw hn
  have hX : findE l x < 0 → (getE l x).2 = false := by
    intro h
    rcases findE_get l x with ⟨_, h2⟩ | ⟨j, hj, h1, _⟩
    · rw [h2]
    · omega
  by_cases hneg : findE l x < 0
  · have h0 : ¬ 0 ≤ findE l x := by omega
    have he : wayG l (l.length + 1) id = out := by
      rw [← hw]
      have : wayG l (l.length + 1 - out.length) x = [] := by
        cases l.length + 1 - out.length with
        | zero => rfl
        | succ f => unfold wayG; rw [if_neg (by rw [hX hneg]; decide)]
      rw [this, List.append_nil]
    rw [he]
    simp (decide := true) [int, ints, h0]
  have h0 : 0 ≤ findE l x := by omega
  by_cases hfull : out.length ≤ l.length
  case neg =>
    have : out.length = l.length + 1 := by omega
    have he : wayG l (l.length + 1) id = out := by
      rw [← hw, this, Nat.sub_self]
      exact List.append_nil _
    rw [he]
    have hf' : ¬ (out.length : Int) ≤ l.length := by omega
    simp (decide := true) [int, ints, h0, lexD, hf']
  rcases findE_get l x with ⟨h1, _⟩ | ⟨j, hj, h1, h2⟩
  · exact absurd h1 (by omega)
  have hid : l[j].id = x := by have := getE_id (l := l) (id := x) (by rw [h2]); rw [h2] at this; exact this
  obtain ⟨e, ee⟩ : ∃ e, l[j] = e := ⟨_, rfl⟩
  have e1 : l[j]? = some e := by rw [List.getElem?_eq_getElem hj, ee]
  rw [ee] at hid h2
  have hf' : (out.length : Int) ≤ l.length := by omega
  have hj' : (j : Int) < l.length := by omega
  have hs : wayG l (l.length + 1 - out.length) x = x :: (if e.main = 0 then [] else wayG l (l.length + 1 - (out.length + 1)) e.main) := by
    have : l.length + 1 - out.length = (l.length + 1 - (out.length + 1)) + 1 := by omega
    rw [this]
    conv => lhs; unfold wayG
    rw [if_pos (by rw [h2]), h2]
  rw [hs] at hw
  have hf2 := find27_ok l e.main (by omega)
  by_cases hm : e.main = 0
  · rw [if_pos hm] at hw
    rw [← hw]
    simp (decide := true) [int, ints, h0, lexD, hf', h1, hj, hj', e1, ee, hid, hm, I64, Ent.row]
    exact ⟨by omega, by unfold maxLen; omega⟩
  · rw [if_neg hm] at hw
    simp (decide := true) [int, ints, h0, lexD, hf', h1, hj, hj', e1, ee, hid, hm, I64, Ent.row]
    refine ⟨by omega, by unfold maxLen; omega, ECall.pure (by rfl) hf2 (by simp [lexD, int, Ent.row, ints]) ?_⟩
    simp (decide := true) [int, ints, lexD]
    exact ⟨out ++ [x], e.main, ⟨by rw [List.length_append, List.append_assoc]; exact hw, by simp; omega⟩, by simp; omega, rfl, by simp⟩
def senW (l : List Ent) : List Int → List Sens
  | [] => []
  | x :: ws => if (getE l x).1.senses ≠ [] then (getE l x).1.senses else senW l ws
theorem senW_way (l : List Ent) : ∀ f id, (wayR l f id).getD [] = senW l (wayG l f id)
  | 0, _ => rfl
  | f + 1, id => by
    have ih := senW_way l f (getE l id).1.main
    unfold wayR wayG
    by_cases h : (getE l id).2 = true
    · rw [if_pos h, if_pos h]
      by_cases hs : (getE l id).1.senses ≠ []
      · rw [if_pos hs]; unfold senW; rw [if_pos hs]; rfl
      · rw [if_neg hs]; unfold senW; rw [if_neg hs]
        by_cases hm : (getE l id).1.main = 0
        · rw [if_pos hm, if_pos hm]; rfl
        · rw [if_neg hm, if_neg hm]; exact ih
    · rw [if_neg h, if_neg h]; rfl
theorem wayG_found (l : List Ent) : ∀ f id, ∀ x ∈ wayG l f id, (getE l x).2 = true
  | 0, _, x, hx => by cases hx
  | f + 1, id, x, hx => by
    unfold wayG at hx
    split at hx
    · rename_i h
      rcases List.mem_cons.mp hx with hx | hx
      · rw [hx]; exact h
      · split at hx
        · cases hx
        · exact wayG_found l f _ x hx
    · cases hx
theorem senW_drop {l : List Ent} {ws : List Int} {k : Nat} (h : k < ws.length) : senW l (ws.drop k) = if (getE l ws[k]).1.senses ≠ [] then (getE l ws[k]).1.senses else senW l (ws.drop (k + 1)) := by
  rw [List.drop_eq_getElem_cons h]; rfl
set_option maxHeartbeats 4000000 in
theorem senses27_ok (l : List Ent) (id : Int) (hl : l.length < 2^40) : PureR Tryz.prog 50 [lexD l, int id] (sensD (sensesE l id)) := by
  unfold sensesE
  rw [senW_way]
  have hW := way27_ok l id hl
  have hwl := wayG_len l (l.length + 1) id
  have hfo := wayG_found l (l.length + 1) id
  generalize wayG l (l.length + 1) id = ws at hW hwl hfo ⊢
  refine pure_of_body mixed Tryz.func50 rfl call_50 ?_
  simp (decide := true) [Tryz.f50, int]
  refine ECall.pure (by rfl) hW (by simp [lexD, int]) ?_
  simp (decide := true) [int, ints]
  refine loop_rule mixed (fun k : Nat => { n := 32, next := 1, slots := [(0, .d (lexD l)), (5, .d (ints ws)), (6, .d (int k))], own := [] })
    (fun k => k ≤ ws.length ∧ senW l (ws.drop k) = senW l ws) (fun k => ws.length - k) 0 (by simp) (by simp (decide := true) [int, ints]) ?_
  intro k ⟨hk, hpe⟩
  by_cases hlt : k < ws.length
  case neg =>
    have : k = ws.length := by omega
    subst this
    rw [List.drop_length] at hpe
    rw [← hpe]
    simp (decide := true) [int, ints, sensD, senW]
  have hlt' : (k : Int) < ws.length := by omega
  have hsn := senW_drop (l := l) hlt
  have hfk := hfo ws[k] (List.getElem_mem hlt)
  obtain ⟨x, ex⟩ : ∃ x, ws[k] = x := ⟨_, rfl⟩
  have e1 : ws[k]? = some x := by rw [List.getElem?_eq_getElem hlt, ex]
  rw [ex] at hsn hfk
  have hF := find27_ok l x (by omega)
  rcases findE_get l x with ⟨h1, h2⟩ | ⟨j, hj, h1, h2⟩
  · rw [h2] at hfk; cases hfk
  rw [h1] at hF
  obtain ⟨e, ee⟩ : ∃ e, l[j] = e := ⟨_, rfl⟩
  have ej : l[j]? = some e := by rw [List.getElem?_eq_getElem hj, ee]
  rw [ee] at h2
  rw [h2] at hsn
  have hj' : (j : Int) < l.length := by omega
  simp (decide := true) [int, ints, hlt, hlt', e1, ex, lexD]
  refine ECall.pure (by rfl) hF (by simp [lexD, int]) ?_
  by_cases hs : e.senses = []
  · rw [if_neg (by simpa using hs)] at hsn
    simp (decide := true) [int, ints, lexD, hj, hj', ej, ee, hs, Ent.row, sensD]
    exact ⟨⟨by omega, by omega⟩, k + 1, ⟨hlt, by rw [← hsn]; exact hpe⟩, by omega, by simp⟩
  · rw [if_pos (by simpa using hs)] at hsn
    rw [← hpe, hsn]
    simp (decide := true) [int, ints, lexD, hj, hj', ej, ee, hs, Ent.row, sensD]
set_option maxHeartbeats 4000000 in
theorem part29_ok (g : Lang) (hg : LexFit g.lex) (p : Prt) : PureR Tryz.prog 104 [g.d, .agg p.row] (int (partE g.lex p)) := by
  have hG := get25_ok g.lex p.entry (by have := hg.len; omega)
  have hS := senses27_ok g.lex p.entry hg.len
  have hA := getE_alts hg p.entry
  unfold partE formE
  generalize getE g.lex p.entry = r at hG hA ⊢
  obtain ⟨e, ok⟩ := r
  simp only at hG hA ⊢
  have hF := refForm_ok e hA p.alt
  refine pure_of_body mixed Tryz.func104 rfl call_104 ?_
  simp (decide := true) [Tryz.f104, Lang.d, Prt.row, int]
  refine ECall.pure (by rfl) hG (by simp [lexD, int]) ?_
  cases ok with
  | false => simp (decide := true) [int, Ent.row]
  | true =>
    simp (decide := true) [int, Ent.row]
    refine ECall.pure (by rfl) hF (by simp [Ent.row, int]) ?_
    by_cases hf : 0 ≤ p.alt ∧ p.alt < e.forms.length
    · simp (decide := true) [int, hf]
      refine ⟨fun h1 h2 => absurd h2 (by omega), fun h => ?_⟩
      refine scall_pure (by rfl) (by rfl) hS (by simp [lexD, int]) ?_
      have hn : ¬ p.sense < 0 := by omega
      by_cases hs : ((sensesE g.lex p.entry).length : Int) ≤ p.sense
      · simp (decide := true) [int, sensD, hn, hs]
      · simp (decide := true) [int, sensD, hn, hs]
    · simp (decide := true) [int, hf]
end Go.V
namespace Go.V
open Go Go.Proofs
theorem formE_of (l : List Ent) (p : Prt) : formE l p = if (getE l p.entry).2 = true ∧ (0 ≤ p.alt ∧ p.alt < (getE l p.entry).1.forms.length) then ((getE l p.entry).1, ((getE l p.entry).1.forms[p.alt.toNat]?.getD []), true) else ((getE l p.entry).1, [], false) := rfl
theorem fseg_cons {P : Program} {all : List Oper} {n0 : Nat} {vl : List Nat} {K : St → List FK → List (Nat × Obj') → Prop} {o : Oper} {r : List Oper} {st : St} {ks : List FK} {hs : List (Nat × Obj')} :
    fseg P all n0 vl K (o :: r) st ks hs = (xdst o.dst st.n = true ∧ fop P all n0 vl o st hs (fun k hs' => fseg P all n0 vl K r (st.put o.dst k.sym) (k :: ks) hs')) := rfl
set_option maxHeartbeats 4000000 in
theorem refClasses_ok (g : Lang) (hg : LexFit g.lex) (ps : List Prt) (hp : ps.length < 2^20) : PureR Tryz.prog 106 [g.d, anaD ps] (ints (classesE g.lex ps)) := by
  refine pure_of_body mixed Tryz.func106 rfl call_106 ?_
  simp (decide := true) [Tryz.f106, Lang.d, anaD, partsD, int]
  refine loop_rule mixed (fun k : Nat => { n := 45, next := 4, slots := [(2, .bp 0 0), (3, .bp 1 0), (5, .ar 3), (6, .d (int k))], own := [(0, .box 36 (unAgg g.d)), (1, .box 39 [.d (partsD ps)]), (3, .arr 3 1 ((classesE g.lex (ps.take k)).map fun n => [int n]))], moved := [3] })
    (fun k => k ≤ ps.length) (fun k => ps.length - k) 0 (by simp) (by simp (decide := true) [int, partsD, classesE, unAgg, Lang.d]) ?_
  intro k hk
  by_cases hlt : k < ps.length
  case neg =>
    have : k = ps.length := by omega
    subst this
    rw [List.take_length]
    simp (decide := true) [int, ints, partsD]
  have hlt' : (k : Int) < ps.length := by omega
  have hsn := classesE_snoc (l := g.lex) hlt
  have hlen := classesE_len g.lex (ps.take k)
  rw [List.length_take] at hlen
  obtain ⟨p, ep⟩ : ∃ p, ps[k] = p := ⟨_, rfl⟩
  have e1 : ps[k]? = some p := by rw [List.getElem?_eq_getElem hlt, ep]
  rw [ep, formE_of] at hsn
  have hG := get25_ok g.lex p.entry (by have := hg.len; omega)
  have hA := getE_alts hg p.entry
  generalize getE g.lex p.entry = r at hG hA hsn
  obtain ⟨e, ok⟩ := r
  simp only at hG hA hsn
  have hF := refForm_ok e hA p.alt
  simp (decide := true) [int, partsD, Prt.row, hlt, hlt', e1, ep, I64, unAgg, Lang.d]
  refine draw_f mixed 15 [] (by rfl) (by rfl) (by rfl) (by rfl) ?_
  dsimp only [List.take]
  iterate 8 (rw [fseg_cons]; simp (decide := true) [-fseg, int, partsD, Prt.row, hlt, hlt', e1, ep, I64, unAgg, Lang.d])
  rw [fseg_cons]
  simp (decide := true) [-fseg, int, partsD, Prt.row, hlt, hlt', e1, ep, I64, unAgg, Lang.d]
  refine scall_pure (by rfl) (by rfl) hG (by simp [lexD, int]) ?_
  simp (decide := true) [-fseg, int]
  iterate 6 (rw [fseg_cons]; simp (decide := true) [-fseg, int, Ent.row])
  refine ⟨by rfl, ?_⟩
  cases ok with
  | false =>
    simp only [Bool.false_eq_true, false_and, if_false, List.append_nil] at hsn
    simp (decide := true) [int, ints, Ent.row, partsD, Prt.row, I64, unAgg, Lang.d]
    exact ⟨⟨by omega, by omega⟩, k + 1, hlt, by omega, by omega, by rw [hsn]⟩
  | true =>
    simp (decide := true) [int, ints, Ent.row, partsD, Prt.row, hlt, hlt', e1, ep, I64, unAgg, Lang.d]
    refine scall_pure (by rfl) (by rfl) hF (by simp [Ent.row, int, ints]) ?_
    by_cases hf : 0 ≤ p.alt ∧ p.alt < e.forms.length
    · simp only [true_and, hf, and_self, if_true] at hsn
      simp (decide := true) [int, ints, Ent.row, partsD, Prt.row, I64, unAgg, Lang.d, hf]
      exact ⟨by omega, by unfold maxLen; omega, ⟨by omega, by omega⟩, k + 1, hlt, by omega, by omega, by rw [hsn]; simp⟩
    · simp only [true_and, hf, Bool.false_eq_true, if_false, List.append_nil] at hsn
      simp (decide := true) [int, ints, Ent.row, partsD, Prt.row, I64, unAgg, Lang.d, hf]
      exact ⟨⟨by omega, by omega⟩, k + 1, hlt, by omega, by omega, by rw [hsn]⟩
end Go.V
namespace Go.V
open Go Go.Proofs
theorem refFormsR_ok (e : Ent) (h : e.alts.length < 2^40) : PureR Tryz.prog 49 [.agg e.row] (listsD e.forms) := by
  refine pure_of_body mixed Tryz.func49 rfl call_49 ?_
  simp [Tryz.f49, Ent.row, listsD, ints, Ent.forms, maxLen]
  omega
set_option maxHeartbeats 4000000 in
theorem refBase_ok (g : Lang) (hg : LexFit g.lex) (ps : List Prt) (hp : ps.length < 2^20) : PureR Tryz.prog 107 [g.d, anaD ps] (ints (baseE g.lex ps)) := by
  refine pure_of_body mixed Tryz.func107 rfl call_107 ?_
  simp (decide := true) [Tryz.f107, Lang.d, anaD, partsD, int]
  refine loop_rule mixed (fun k : Nat => { n := 52, next := 4, slots := [(2, .bp 0 0), (3, .bp 1 0), (5, .ar 3), (6, .d (int k))], own := [(0, .box 36 (unAgg g.d)), (1, .box 39 [.d (partsD ps)]), (3, .arr 3 1 ((baseE g.lex (ps.take k)).map fun n => [int n]))], moved := [3] })
    (fun k => k ≤ ps.length) (fun k => ps.length - k) 0 (by simp) (by simp (decide := true) [int, partsD, baseE, unAgg, Lang.d]) ?_
  intro k hk
  by_cases hlt : k < ps.length
  case neg =>
    have : k = ps.length := by omega
    subst this
    rw [List.take_length]
    simp (decide := true) [int, ints, partsD]
  have hlt' : (k : Int) < ps.length := by omega
  have hsn := baseE_snoc (l := g.lex) hlt
  have hlen := baseE_len hg (ps.take k)
  rw [List.length_take] at hlen
  obtain ⟨p, ep⟩ : ∃ p, ps[k] = p := ⟨_, rfl⟩
  have e1 : ps[k]? = some p := by rw [List.getElem?_eq_getElem hlt, ep]
  rw [ep, formE_of] at hsn
  have hG := get25_ok g.lex p.entry (by have := hg.len; omega)
  have hA := getE_alts hg p.entry
  have hwl : (0 ≤ p.alt ∧ p.alt < (getE g.lex p.entry).1.forms.length) → ((getE g.lex p.entry).1.forms[p.alt.toNat]?.getD []).length < 2^20 := by
    intro h
    by_cases hb : (getE g.lex p.entry).2 = true
    · have := formE_len hg p
      unfold formE at this
      rw [if_pos ⟨hb, h⟩] at this
      exact this
    · rcases findE_get g.lex p.entry with ⟨_, h2⟩ | ⟨j, hj, _, h2⟩
      · rw [h2] at h ⊢
        have h0 : p.alt = 0 := by have := h.2; simp [Ent.zero, Ent.forms] at this; omega
        rw [h0]; decide
      · rw [h2] at hb; exact absurd rfl hb
  generalize getE g.lex p.entry = r at hG hA hsn hwl
  obtain ⟨e, ok⟩ := r
  simp only at hG hA hsn hwl
  have hF := refForm_ok e hA p.alt
  have hL := refFormsR_ok e (by omega)
  simp (decide := true) [int, partsD, Prt.row, hlt, hlt', e1, ep, I64, unAgg, Lang.d]
  refine draw_f mixed 15 [] (by rfl) (by rfl) (by rfl) (by rfl) ?_
  dsimp only [List.take]
  iterate 8 (rw [fseg_cons]; simp (decide := true) [-fseg, int, partsD, Prt.row, hlt, hlt', e1, ep, I64, unAgg, Lang.d])
  rw [fseg_cons]
  simp (decide := true) [-fseg, int, partsD, Prt.row, hlt, hlt', e1, ep, I64, unAgg, Lang.d]
  refine scall_pure (by rfl) (by rfl) hG (by simp [lexD, int]) ?_
  simp (decide := true) [-fseg, int]
  iterate 6 (rw [fseg_cons]; simp (decide := true) [-fseg, int, Ent.row])
  refine ⟨by rfl, ?_⟩
  cases ok with
  | false =>
    simp only [Bool.false_eq_true, false_and, if_false, List.append_nil] at hsn
    simp (decide := true) [int, ints, Ent.row, partsD, Prt.row, I64, unAgg, Lang.d]
    exact ⟨⟨by omega, by omega⟩, k + 1, hlt, by omega, by omega, by rw [hsn]⟩
  | true =>
    simp (decide := true) [int, ints, Ent.row, partsD, Prt.row, hlt, hlt', e1, ep, I64, unAgg, Lang.d]
    refine scall_pure (by rfl) (by rfl) hF (by simp [Ent.row, int, ints]) ?_
    by_cases hf : 0 ≤ p.alt ∧ p.alt < e.forms.length
    · simp only [true_and, hf, and_self, if_true] at hsn
      have h0 : p.alt.toNat < e.forms.length := by omega
      obtain ⟨w, ew⟩ : ∃ w, e.forms[p.alt.toNat] = w := ⟨_, rfl⟩
      have ew' : e.forms[p.alt.toNat]? = some w := by rw [List.getElem?_eq_getElem h0, ew]
      rw [ew', Option.getD_some] at hsn hwl
      have hwl := hwl hf
      simp (decide := true) [int, ints, Ent.row, partsD, Prt.row, I64, unAgg, Lang.d, hf]
      refine draw_t mixed 11 (by rfl) (by rfl) (by rfl) (by rfl) (by simp) ?_
      simp (decide := true) [int, ints, Ent.row, partsD, Prt.row, hlt, hlt', e1, ep, I64, unAgg, Lang.d, hf]
      refine scall_pure (by rfl) (by rfl) hL (by simp [Ent.row, int, ints]) ?_
      simp (decide := true) [int, ints, Ent.row, partsD, Prt.row, hlt, hlt', e1, ep, I64, unAgg, Lang.d, hf, listsD, ew', ew, h0]
      exact ⟨by omega, by unfold maxLen; omega, ⟨by omega, by omega⟩, k + 1, hlt, by omega, by omega, by rw [hsn]; simp⟩
    · simp only [true_and, hf, Bool.false_eq_true, if_false, List.append_nil] at hsn
      simp (decide := true) [int, ints, Ent.row, partsD, Prt.row, I64, unAgg, Lang.d, hf]
      exact ⟨⟨by omega, by omega⟩, k + 1, hlt, by omega, by omega, by rw [hsn]⟩
end Go.V
namespace Go.V
open Go Go.Proofs
def bls (S m : Nat) : List Bool := (List.range S).map fun q => m.testBit q
def boolsD (l : List Bool) : D := .sl (l.map fun b => [.bool b])
@[simp] theorem bls_len (S m : Nat) : (bls S m).length = S := by simp [bls]
theorem bls_get {S m q : Nat} (h : q < S) : (bls S m)[q]? = some (m.testBit q) := by simp [bls, h]
theorem bls_el {S m q : Nat} (h : q < (bls S m).length) : (bls S m)[q] = m.testBit q := by simp [bls]
theorem bls_zero (S : Nat) : bls S 0 = List.replicate S false := by
  apply List.ext_getElem <;> simp [bls]
theorem testBit_with (m q j : Nat) : (m ||| (1 <<< q)).testBit j = (m.testBit j || decide (q = j)) := by
  rw [Nat.testBit_or, Nat.one_shiftLeft, Nat.testBit_two_pow]
theorem bls_set {S m q : Nat} (h : q < S) : (bls S m).set q true = bls S (withS m (q : Int)) := by
  apply List.ext_getElem
  · simp
  · intro i h1 h2
    have hi : i < S := by simpa using h2
    rw [List.getElem_set]
    unfold withS
    simp only [bls, List.getElem_map, List.getElem_range, Int.toNat_natCast, testBit_with]
    by_cases e : q = i
    · subst e; simp
    · simp [e]
structure NetL (n : Nett) : Prop where
  lo : 1 ≤ n.states
  hi : n.states ≤ 3
  steps : ∀ s ∈ n.steps, (0 ≤ s.src ∧ s.src < n.states) ∧ (0 ≤ s.dst ∧ s.dst < n.states) ∧ 1 ≤ s.cls
  final : ∀ q ∈ n.final, 0 ≤ q ∧ q < n.states
  few : n.steps.length < 2^40
  few2 : n.final.length < 2^40
theorem NetL.ok {n : Nett} (h : NetL n) : NetOk n := by
  refine ⟨fun s hs => ?_, fun q hq => ?_, h.few, h.few2⟩
  · have := h.steps s hs; have := h.hi; omega
  · have := h.final q hq; have := h.hi; omega
set_option maxHeartbeats 4000000 in
theorem set23_ok (n : Nett) (hn : NetL n) (l : List Int) (hl : ∀ q ∈ l, 0 ≤ q ∧ q < n.states) (hlen : l.length < 2^40) :
    PureR Tryz.prog 164 [.agg n.cells, ints l] (boolsD (bls n.states.toNat (finalS l))) := by
  have h1 := hn.lo
  have h3 := hn.hi
  refine pure_of_body mixed Tryz.func164 rfl call_164 ?_
  simp (decide := true) [Tryz.f164, Nett.cells, int, ints]
  refine ⟨by omega, by omega, by unfold maxLen; omega, ?_⟩
  refine loop_rule mixed (fun k : Nat => { n := 23, next := 3, slots := [(1, .d (ints l)), (5, .ar 2), (6, .d (int k))], own := [(2, .arr 4 1 ((bls n.states.toNat (finalS (l.take k))).map fun b => [.bool b]))], moved := [] })
    (fun k => k ≤ l.length) (fun k => l.length - k) 0 (by simp) (by simp (decide := true) [int, ints, finalS, bls_zero]) ?_
  intro k hk
  by_cases hlt : k < l.length
  case neg =>
    have : k = l.length := by omega
    subst this
    rw [List.take_length]
    simp (decide := true) [int, ints, boolsD]
  have hlt' : (k : Int) < l.length := by omega
  have hq := hl l[k] (List.getElem_mem hlt)
  have hsn : finalS (l.take (k + 1)) = withS (finalS (l.take k)) l[k] := by unfold finalS; rw [take_snocG hlt, List.foldl_append]; rfl
  obtain ⟨q, eq⟩ : ∃ q, l[k] = q := ⟨_, rfl⟩
  have e1 : l[k]? = some q := by rw [List.getElem?_eq_getElem hlt, eq]
  rw [eq] at hq hsn
  have hst := bls_set (S := n.states.toNat) (m := finalS (l.take k)) (q := q.toNat) (by omega)
  rw [show ((q.toNat : Nat) : Int) = q by omega, ← hsn] at hst
  have hgt := bls_get (S := n.states.toNat) (m := finalS (l.take k)) (q := q.toNat) (by omega)
  have hms : (List.map (fun b => [D.bool b]) (bls n.states.toNat (finalS (l.take k)))).set q.toNat [D.bool true] = List.map (fun b => [D.bool b]) (bls n.states.toNat (finalS (l.take (k + 1)))) := by
    rw [← hst, List.map_set]
  simp (decide := true) [int, ints, hlt, hlt', e1, eq, hq.1, hq.2, hgt]
  exact ⟨by omega, by omega, ⟨by omega, by omega⟩, k + 1, hlt, by omega, by omega, hms⟩
def takeStepR (m : Nat) (c : Int) (out : Nat) (s : Stp) : Nat := if hasS m s.src = true ∧ (c = 0 ∨ s.cls = c) then withS out s.dst else out
def afterR (l : List Stp) (m : Nat) (c : Int) : Nat := l.foldl (takeStepR m c) 0
set_option maxHeartbeats 4000000 in
theorem after23_ok (n : Nett) (hn : NetL n) (m : Nat) (c : Int) :
    PureR Tryz.prog 206 [.agg n.cells, boolsD (bls n.states.toNat m), int c] (boolsD (bls n.states.toNat (afterR n.steps m c))) := by
  have h1 := hn.lo
  have h3 := hn.hi
  have hfew := hn.few
  refine pure_of_body mixed Tryz.func206 rfl call_206 ?_
  simp (decide := true) [Tryz.f206, Nett.cells, int, ints, boolsD]
  refine ⟨by omega, by omega, by unfold maxLen; omega, ?_⟩
  refine loop_rule mixed (fun k : Nat => { n := 45, next := 3, slots := [(1, .d (boolsD (bls n.states.toNat m))), (2, .d (int c)), (3, .bp 0 0), (7, .ar 2), (8, .d (int k))], own := [(0, .box 33 (n.cells.map .d)), (2, .arr 4 1 ((bls n.states.toNat (afterR (n.steps.take k) m c)).map fun b => [.bool b]))], moved := [] })
    (fun k => k ≤ n.steps.length) (fun k => n.steps.length - k) 0 (by simp) (by simp (decide := true) [int, ints, afterR, bls_zero, Nett.cells, boolsD]) ?_
  intro k hk
  by_cases hlt : k < n.steps.length
  case neg =>
    have : k = n.steps.length := by omega
    subst this
    rw [List.take_length]
    simp (decide := true) [int, ints, boolsD, Nett.cells, stepsD]
  have hlt' : (k : Int) < n.steps.length := by omega
  have hq := hn.steps n.steps[k] (List.getElem_mem hlt)
  have hsn : afterR (n.steps.take (k + 1)) m c = takeStepR m c (afterR (n.steps.take k) m c) n.steps[k] := by unfold afterR; rw [take_snocG hlt, List.foldl_append]; rfl
  obtain ⟨x, eq⟩ : ∃ x, n.steps[k] = x := ⟨_, rfl⟩
  have e1 : n.steps[k]? = some x := by rw [List.getElem?_eq_getElem hlt, eq]
  rw [eq] at hq hsn
  obtain ⟨⟨q1, q2⟩, ⟨q3, q4⟩, q5⟩ := hq
  have hb := bls_get (S := n.states.toNat) (m := m) (q := x.src.toNat) (by omega)
  have hst := bls_set (S := n.states.toNat) (m := afterR (n.steps.take k) m c) (q := x.dst.toNat) (by omega)
  rw [show ((x.dst.toNat : Nat) : Int) = x.dst by omega] at hst
  have hgt := bls_get (S := n.states.toNat) (m := afterR (n.steps.take k) m c) (q := x.dst.toNat) (by omega)
  have hms : (List.map (fun b => [D.bool b]) (bls n.states.toNat (afterR (n.steps.take k) m c))).set x.dst.toNat [D.bool true] = List.map (fun b => [D.bool b]) (bls n.states.toNat (withS (afterR (n.steps.take k) m c) x.dst)) := by
    rw [← hst, List.map_set]
  unfold takeStepR hasS at hsn
  cases hx : m.testBit x.src.toNat with
  | false =>
    rw [hx] at hb hsn
    rw [if_neg (by simp)] at hsn
    simp (decide := true) [int, ints, hlt, hlt', e1, eq, q1, q2, q3, q4, hb, boolsD, Nett.cells, stepsD, Stp.row]
    exact ⟨by omega, ⟨by omega, by omega⟩, k + 1, hlt, by omega, by omega, by rw [hsn]⟩
  | true =>
    rw [hx] at hb hsn
    by_cases hc : c = 0 ∨ x.cls = c
    · rw [if_pos ⟨rfl, hc⟩] at hsn
      simp (decide := true) [int, ints, hlt, hlt', e1, eq, q1, q2, q3, q4, hb, boolsD, Nett.cells, stepsD, Stp.row, hc, hgt]
      refine ⟨by omega, fun h0 => ⟨fun h => ⟨by omega, by omega, ⟨by omega, by omega⟩, k + 1, hlt, by omega, by omega, by rw [hsn]; exact hms⟩, fun h => absurd hc (by rintro (h' | h'); exact h0 h'; exact h h')⟩, fun h0 => ⟨by omega, by omega, ⟨by omega, by omega⟩, k + 1, hlt, by omega, by omega, by rw [hsn]; exact hms⟩⟩
    · rw [if_neg (fun h => hc h.2)] at hsn
      have hc1 : ¬ c = 0 := fun h => hc (.inl h)
      have hc2 : ¬ x.cls = c := fun h => hc (.inr h)
      simp (decide := true) [int, ints, hlt, hlt', e1, eq, q1, q2, q3, q4, hb, boolsD, Nett.cells, stepsD, Stp.row, hc1, hc2]
      exact ⟨by omega, ⟨by omega, by omega⟩, k + 1, hlt, by omega, by omega, by rw [hsn]⟩
def bothS (S a b : Nat) : Bool := (List.range S).any fun q => a.testBit q && b.testBit q
theorem both23_ok (S a b : Nat) (hS : S ≤ 3) : PureR Tryz.prog 162 [boolsD (bls S a), boolsD (bls S b)] (.bool (bothS S a b)) := by
  refine pure_of_body mixed Tryz.func162 rfl call_162 ?_
  simp (decide := true) [Tryz.f162, int, boolsD]
  refine loop_rule mixed (fun k : Nat => { n := 22, next := 0, slots := [(0, .d (boolsD (bls S a))), (1, .d (boolsD (bls S b))), (5, .d (int k))], own := [], moved := [] })
    (fun k => k ≤ S ∧ ∀ j, j < k → (a.testBit j && b.testBit j) = false) (fun k => S - k) 0 (by simp) (by simp (decide := true) [int, boolsD]) ?_
  intro k ⟨hk, hp⟩
  by_cases hlt : k < S
  case neg =>
    have : k = S := by omega
    subst this
    have : bothS k a b = false := by
      unfold bothS
      rw [List.any_eq_false]
      intro j hj
      rw [hp j (List.mem_range.mp hj)]; decide
    rw [this]
    simp (decide := true) [int, boolsD]
  have hlt' : (k : Int) < S := by omega
  have ha := bls_get (S := S) (m := a) (q := k) hlt
  have hb := bls_get (S := S) (m := b) (q := k) hlt
  have hnx : (a.testBit k && b.testBit k) = false → ∀ j, j < k + 1 → (a.testBit j && b.testBit j) = false := by
    intro h j hj
    rcases Nat.lt_succ_iff_lt_or_eq.mp hj with h' | h'
    · exact hp j h'
    · rw [h']; exact h
  have hyes : (a.testBit k && b.testBit k) = true → bothS S a b = true := by
    intro h
    unfold bothS
    rw [List.any_eq_true]
    exact ⟨k, List.mem_range.mpr hlt, h⟩
  cases hx : a.testBit k with
  | false =>
    rw [hx] at ha
    simp (decide := true) [int, hlt, hlt', ha, boolsD, bls_el, hx]
    exact ⟨⟨by omega, by omega⟩, k + 1, ⟨hlt, fun j hj => by simpa using hnx (by rw [hx]; rfl) j hj⟩, by omega, by omega⟩
  | true =>
    rw [hx] at ha
    cases hy : b.testBit k with
    | false =>
      rw [hy] at hb
      simp (decide := true) [int, hlt, hlt', ha, hb, boolsD, bls_el, hx, hy]
      exact ⟨⟨by omega, by omega⟩, k + 1, ⟨hlt, fun j hj => by simpa using hnx (by rw [hx, hy]; rfl) j hj⟩, by omega, by omega⟩
    | true =>
      rw [hy] at hb
      rw [hyes (by rw [hx, hy]; rfl)]
      simp (decide := true) [int, hlt, hlt', ha, hb, boolsD, bls_el, hx, hy]
theorem withS_lt2 {S m : Nat} {q : Int} (hm : m < 2^S) (h0 : 0 ≤ q) (h1 : q < S) : withS m q < 2^S := by
  unfold withS
  refine Nat.or_lt_two_pow hm ?_
  rw [Nat.one_shiftLeft]
  exact Nat.pow_lt_pow_right (by omega) (by omega)
theorem afterS_eq {n : Nett} (hn : NetL n) (m : Nat) {c : Int} (hc : 1 ≤ c) : afterR n.steps m c = afterS n.steps m c := by
  unfold afterR afterS
  congr 1
  funext out s
  unfold takeStepR takeStep
  have : ¬ c = 0 := by omega
  simp [this]
theorem afterS_low {n : Nett} (hn : NetL n) (m : Nat) {c : Int} (hc : c < 1) : afterS n.steps m c = 0 := by
  unfold afterS
  have key : ∀ l : List Stp, (∀ s ∈ l, 1 ≤ s.cls) → l.foldl (takeStep m c) 0 = 0 := by
    intro l
    induction l with
    | nil => intro _; rfl
    | cons s l ih =>
      intro h
      rw [List.foldl_cons]
      have h1 := h s (List.mem_cons_self ..)
      have : takeStep m c 0 s = 0 := by unfold takeStep; rw [if_neg (fun h => by omega)]
      rw [this]
      exact ih fun x hx => h x (List.mem_cons_of_mem _ hx)
  exact key _ fun s hs => (hn.steps s hs).2.2
theorem fold_low {m : Nat} {c : Int} {S : Nat} : ∀ (l : List Stp) (out : Nat), (∀ s ∈ l, 0 ≤ s.dst ∧ s.dst < S) → out < 2^S → l.foldl (takeStep m c) out < 2^S
  | [], out, _, h => h
  | s :: l, out, hl, h => by
    rw [List.foldl_cons]
    refine fold_low l _ (fun x hx => hl x (List.mem_cons_of_mem _ hx)) ?_
    have := hl s (List.mem_cons_self ..)
    unfold takeStep
    split
    · exact withS_lt2 h this.1 this.2
    · exact h
theorem afterS_lt2 {n : Nett} (hn : NetL n) (m : Nat) (c : Int) : afterS n.steps m c < 2^n.states.toNat :=
  fold_low _ _ (fun s hs => by have := (hn.steps s hs).2.1; have := hn.lo; omega) (Nat.two_pow_pos _)
theorem afterS_none {n : Nett} (c : Int) : afterS n.steps 0 c = 0 := by
  unfold afterS
  induction n.steps with
  | nil => rfl
  | cons s l ih =>
    rw [List.foldl_cons]
    have : takeStep 0 c 0 s = 0 := by unfold takeStep hasS; rw [if_neg (fun h => by simp at h)]
    rw [this]; exact ih
theorem run_none {n : Nett} : ∀ cs : List Int, cs.foldl (fun m c => afterS n.steps m c) 0 = 0
  | [] => rfl
  | c :: cs => by rw [List.foldl_cons, afterS_none]; exact run_none cs
theorem runS_low {n : Nett} (hn : NetL n) {cs : List Int} {k : Nat} (hk : k < cs.length) (hc : cs[k] < 1) : runS n.steps cs = 0 := by
  unfold runS
  have : cs = cs.take k ++ cs[k] :: cs.drop (k + 1) := by rw [← List.drop_eq_getElem_cons hk, List.take_append_drop]
  rw [this, List.foldl_append, List.foldl_cons, afterS_low hn _ hc]
  exact run_none _
theorem runS_lt2 {n : Nett} (hn : NetL n) (cs : List Int) : runS n.steps cs < 2^n.states.toNat := by
  unfold runS
  have key : ∀ (cs : List Int) (m : Nat), m < 2^n.states.toNat → cs.foldl (fun m c => afterS n.steps m c) m < 2^n.states.toNat := by
    intro cs
    induction cs with
    | nil => intro m h; exact h
    | cons c cs ih => intro m h; rw [List.foldl_cons]; exact ih _ (afterS_lt2 hn _ _)
  refine key cs 1 ?_
  have := hn.lo
  exact Nat.one_lt_two_pow (by omega)
end Go.V
namespace Go.V
open Go Go.Proofs
set_option maxHeartbeats 4000000 in
theorem refRun23_ok (n : Nett) (hn : NetL n) (l : List Int) (hl : l.length < 2^40) : PureR Tryz.prog 163 [.agg n.cells, ints l] (boolsD (bls n.states.toNat (runS n.steps l))) := by
  have h1 := hn.lo
  have h3 := hn.hi
  have hS := set23_ok n hn [0] (by intro q hq; rw [List.mem_singleton] at hq; omega) (by decide)
  have h0 : finalS [0] = 1 := by decide
  rw [h0] at hS
  refine pure_of_body mixed Tryz.func163 rfl call_163 ?_
  simp (decide := true) [Tryz.f163, Nett.cells, int, ints, boolsD]
  refine ecall_frz (by rfl) hS (by simp) ?_
  simp (decide := true) [int, ints, boolsD, Nett.cells]
  refine loop_rule mixed (fun k : Nat => { n := 32, next := 1, slots := [(1, .d (ints l)), (2, .bp 0 0), (5, .d (boolsD (bls n.states.toNat (runS n.steps (l.take k))))), (6, .d (int k))], own := [(0, .box 33 (n.cells.map .d))], moved := [] })
    (fun k => k ≤ l.length) (fun k => l.length - k) 0 (by simp) (by simp (decide := true) [int, ints, runS, boolsD, Nett.cells]) ?_
  intro k hk
  by_cases hlt : k < l.length
  case neg =>
    have : k = l.length := by omega
    subst this
    rw [List.take_length]
    simp (decide := true) [int, ints, boolsD, Nett.cells]
  have hlt' : (k : Int) < l.length := by omega
  have hsn : runS n.steps (l.take (k + 1)) = afterS n.steps (runS n.steps (l.take k)) l[k] := by unfold runS; rw [take_snocG hlt, List.foldl_append]; rfl
  have hlow := fun h => runS_low hn hlt h
  obtain ⟨c, ec⟩ : ∃ c, l[k] = c := ⟨_, rfl⟩
  have e1 : l[k]? = some c := by rw [List.getElem?_eq_getElem hlt, ec]
  rw [ec] at hsn hlow
  have hA := after23_ok n hn (runS n.steps (l.take k)) c
  by_cases hc : c < 1
  · rw [hlow hc]
    simp (decide := true) [int, ints, hlt, hlt', e1, ec, hc, boolsD, Nett.cells, bls_zero]
    exact ⟨by omega, by omega, by unfold maxLen; omega⟩
  · rw [afterS_eq hn _ (by omega), ← hsn] at hA
    simp (decide := true) [int, ints, hlt, hlt', e1, ec, hc, boolsD, Nett.cells]
    refine scall_pure (by rfl) (by rfl) hA (by simp [int, ints, boolsD, Nett.cells]) ?_
    simp (decide := true) [int, ints, boolsD, Nett.cells]
    exact ⟨⟨by omega, by omega⟩, k + 1, hlt, by omega, rfl, by simp⟩
theorem bothS_and : ∀ (S : Fin 4) (a b : Fin 8), a.val < 2^S.val → bothS S.val a.val b.val = decide (a.val &&& b.val ≠ 0) := by decide +kernel
set_option maxHeartbeats 4000000 in
theorem refAccepts_ok (n : Nett) (hn : NetL n) (cs : List Int) (hc : cs.length < 2^40) : PureR Tryz.prog 105 [.agg n.cells, ints cs] (.bool (acceptsS n cs)) := by
  have h1 := hn.lo
  have h3 := hn.hi
  have hR := refRun23_ok n hn cs hc
  have hS := set23_ok n hn n.final hn.final hn.few2
  have hB := both23_ok n.states.toNat (runS n.steps cs) (finalS n.final) (by omega)
  have hlt := runS_lt2 hn cs
  have hlt8 : runS n.steps cs < 8 := Nat.lt_of_lt_of_le hlt (Nat.pow_le_pow_right (by omega) (show n.states.toNat ≤ 3 by omega))
  have hf8 := finalS_lt n.final 0 (fun q hq => hn.ok.2.1 q hq) (by omega)
  have heq : bothS n.states.toNat (runS n.steps cs) (finalS n.final) = acceptsS n cs := by
    unfold acceptsS
    exact bothS_and ⟨n.states.toNat, by omega⟩ ⟨_, hlt8⟩ ⟨_, hf8⟩ hlt
  rw [heq] at hB
  refine pure_of_body mixed Tryz.func105 rfl call_105 ?_
  simp (decide := true) [Tryz.f105, Nett.cells, int, ints]
  refine scall_pure (by rfl) (by rfl) hR (by simp [Nett.cells, int, ints]) ?_
  simp (decide := true) [int, ints, boolsD, Nett.cells]
  refine scall_pure (by rfl) (by rfl) hS (by simp [Nett.cells, int, ints]) ?_
  simp (decide := true) [int, ints, boolsD, Nett.cells]
  refine scall_pure (by rfl) (by rfl) hB (by simp [Nett.cells, int, ints, boolsD]) ?_
  simp (decide := true) [int, ints, boolsD, Nett.cells]
structure LangL (g : Lang) : Prop extends LangOk g where
  light : NetL g.net
set_option maxHeartbeats 8000000 in
theorem refRight29_ok (g : Lang) (hg : LangL g) (ps : List Prt) (hp : ps.length < 2^20) : PureR Tryz.prog 46 [g.d, anaD ps] (int (rightE g ps)) := by
  refine pure_of_body mixed Tryz.func46 rfl call_46 ?_
  obtain ⟨R, hR⟩ : ∃ R, rightE g ps = R := ⟨_, rfl⟩
  rw [hR]
  unfold rightE at hR
  by_cases h0 : ps.length = 0
  · rw [if_pos h0] at hR
    subst hR
    simp (decide := true) [Tryz.f46, Lang.d, anaD, partsD, int, h0]
    done
  rw [if_neg h0] at hR
  by_cases h4 : 4 < ps.length
  · rw [if_pos h4] at hR
    subst hR
    have h4' : (4 : Int) < ps.length := by omega
    have h0' : ¬ (ps.length : Int) = 0 := by omega
    simp (decide := true) [Tryz.f46, Lang.d, anaD, partsD, int, h0, h0', h4, h4']
    done
  rw [if_neg h4] at hR
  have h4' : ¬ (4 : Int) < ps.length := by omega
  have h0' : ¬ (ps.length : Int) = 0 := by omega
  simp (decide := true) [Tryz.f46, Lang.d, anaD, partsD, int, h0, h0', h4, h4']
  refine loop_rule mixed (fun k : Nat => { n := 44, next := 2, slots := [(2, .bp 0 0), (3, .bp 1 0), (5, .d (int k))], own := [(0, .box 36 (unAgg g.d)), (1, .box 39 [.d (partsD ps)])], moved := [] })
    (fun k => k ≤ ps.length ∧ partsE g.lex (ps.drop k) = partsE g.lex ps) (fun k => ps.length - k) 0 (by simp) (by simp (decide := true) [int, partsD, unAgg, Lang.d]) ?_
  intro k ⟨hk, hpe⟩
  by_cases hlt : k < ps.length
  case neg =>
    have : k = ps.length := by omega
    subst this
    rw [List.drop_length] at hpe
    rw [← hpe] at hR
    have hz : partsE g.lex [] = 0 := rfl
    rw [hz, if_neg (by simp)] at hR
    have hC := refClasses_ok g hg.lex ps hp
    have hB := refBase_ok g hg.lex ps hp
    have hcl := classesE_len g.lex ps
    have hA := refAccepts_ok g.net hg.light (classesE g.lex ps) (by omega)
    have hbl := baseE_len hg.lex ps
    simp (decide := true) [int, partsD, unAgg, Lang.d]
    refine scall_pure (by rfl) (by rfl) hC (by simp [int]) ?_
    simp (decide := true) [int, partsD, unAgg, Lang.d]
    refine scall_pure (by rfl) (by rfl) hA (by simp [int]) ?_
    cases hac : acceptsS g.net (classesE g.lex ps) with
    | false =>
      rw [if_pos hac] at hR
      subst hR
      simp (decide := true) [int]
    | true =>
      rw [if_neg (by rw [hac]; decide)] at hR
      simp (decide := true) [int]
      refine ECall.pure (by rfl) hB (by simp [int]) ?_
      by_cases hb : 24 < (baseE g.lex ps).length
      · rw [if_pos hb] at hR
        subst hR
        have hb' : (24 : Int) < (baseE g.lex ps).length := by omega
        simp (decide := true) [int, ints, hb, hb']
      · rw [if_neg hb] at hR
        subst hR
        have hb' : ¬ (24 : Int) < (baseE g.lex ps).length := by omega
        simp (decide := true) [int, ints, hb, hb']
  have hlt' : (k : Int) < ps.length := by omega
  have hsn := partsE_drop (l := g.lex) hlt
  rw [hpe] at hsn
  obtain ⟨p, ep⟩ : ∃ p, ps[k] = p := ⟨_, rfl⟩
  have e1 : ps[k]? = some p := by rw [List.getElem?_eq_getElem hlt, ep]
  rw [ep] at hsn
  have hP := part29_ok g hg.lex p
  generalize partE g.lex p = r at hP hsn
  simp (decide := true) [int, partsD, Prt.row, hlt, hlt', e1, ep, I64, unAgg, Lang.d]
  refine scall_pure (by rfl) (by rfl) hP (by simp [int, Lang.d, Prt.row]) ?_
  by_cases hr : r = 0
  · rw [if_pos hr] at hsn
    subst hr
    simp (decide := true) [int, partsD, Prt.row, I64, unAgg, Lang.d]
    exact ⟨⟨by omega, by omega⟩, k + 1, ⟨hlt, hsn.symm⟩, by omega, by simp⟩
  · rw [if_neg hr] at hsn
    have : R = r := by rw [← hR, hsn, if_pos hr]
    subst this
    simp (decide := true) [int, partsD, Prt.row, I64, unAgg, Lang.d, hr]
end Go.V
namespace Go.V
open Go Go.Proofs
section
variable {P : Program}
end
end Go.V
namespace Go.V
open Go Go.Proofs
structure RuleL (r : Rule) : Prop extends RuleOk r where
  once : r.src.Nodup
def NoZero (w : List Int) : Prop := ∀ x ∈ w, x ≠ 0
structure LangR (g : Lang) : Prop extends LangL g where
  rulesL : ∀ r ∈ g.rules, RuleL r
  nz : ∀ e ∈ g.lex, ∀ w ∈ e.forms, NoZero w
theorem refSame01_ok (a b : List Int) (ha : a.length < 2^62) (hb : b.length < 2^62) : PureR Tryz.prog 84 [ints a, ints b] (.bool (decide (a = b))) := by
  refine pure_of_body mixed Tryz.func84 rfl call_84 ?_
  by_cases hl : a.length = b.length
  case neg =>
    have : ¬ a = b := fun h => hl (by rw [h])
    have hl' : ¬ (a.length : Int) = b.length := by omega
    simp (decide := true) [Tryz.f84, ints, int, hl, hl', this]
  have hl' : (a.length : Int) = b.length := by omega
  simp (decide := true) [Tryz.f84, ints, int, hl, hl']
  refine loop_rule mixed (fun k : Nat => { n := 26, next := 0, slots := [(0, .d (ints a)), (1, .d (ints b)), (12, .d (int b.length)), (13, .d (int k))], own := [], moved := [] })
    (fun k => k ≤ a.length ∧ a.take k = b.take k) (fun k => a.length - k) 0 (by simp) (by simp (decide := true) [int, ints, hl']) ?_
  intro k ⟨hk, hp⟩
  by_cases hlt : k < a.length
  case neg =>
    have : k = a.length := by omega
    subst this
    rw [List.take_length, hl, List.take_length] at hp
    subst hp
    simp (decide := true) [int, ints]
  have hlt' : (k : Int) < a.length := by omega
  have hlb : k < b.length := by omega
  have hlb' : (k : Int) < b.length := by omega
  obtain ⟨x, ex⟩ : ∃ x, a[k] = x := ⟨_, rfl⟩
  obtain ⟨y, ey⟩ : ∃ y, b[k] = y := ⟨_, rfl⟩
  have ex1 : a[k]? = some x := by rw [List.getElem?_eq_getElem hlt, ex]
  have ey1 : b[k]? = some y := by rw [List.getElem?_eq_getElem hlb, ey]
  by_cases hxy : x = y
  · subst hxy
    simp (decide := true) [int, ints, hlt, hlt', hlb, hlb', ex, ey, ex1, ey1]
    exact ⟨⟨by omega, by omega⟩, k + 1, ⟨hlt, by rw [take_snocG hlt, take_snocG hlb, hp, ex, ey]⟩, by omega, by omega⟩
  · have : ¬ a = b := by
      intro h
      subst h
      exact hxy (by rw [← ex, ← ey])
    simp (decide := true) [int, ints, hlt, hlt', hlb, hlb', ex, ey, ex1, ey1, hxy, this]
def licE (g : Lang) (w : List Int) (ps : List Prt) : Bool := decide ((formA g ps).2 = 0 ∧ (formA g ps).1 = w)
end Go.V
namespace Go.V
open Go Go.Proofs
def roundsR (l : List Stp) : Nat → Nat → Nat
  | 0, m => m
  | k + 1, m => afterR l (roundsR l k m) 0 ||| roundsR l k m
def mixB (S a b k : Nat) : List Bool := (List.range S).map fun q => if q < k then (a.testBit q || b.testBit q) else a.testBit q
@[simp] theorem mixB_len (S a b k : Nat) : (mixB S a b k).length = S := by simp [mixB]
def endB (n : Nett) (q : Nat) : Bool := bothS n.states.toNat (roundsR n.steps n.states.toNat (withS 0 (q : Int))) (finalS n.final)
def endsS (n : Nett) : Nat := (List.range n.states.toNat).foldl (fun m q => if endB n q = true then m ||| (1 <<< q) else m) 0
def followL (n : Nett) (cs : List Int) (k : Nat) : List Int := ((List.range k).map fun (i : Nat) => (i : Int) + 1).filter fun c => bothS n.states.toNat (afterS n.steps (runS n.steps cs) c) (endsS n)
end Go.V
namespace Go.V
open Go Go.Proofs
end Go.V
namespace Go.V
open Go Go.Proofs Go.RowKit Go.WideShapes
mutual
def Cap (M : Nat) : D → Prop
  | .str b => b.size ≤ M
  | .sl l => l.length ≤ M ∧ CapR M l
  | _ => True
def CapR (M : Nat) : List (List D) → Prop
  | [] => True
  | r :: rs => Caps M r ∧ CapR M rs
def Caps (M : Nat) : List D → Prop
  | [] => True
  | d :: ds => Cap M d ∧ Caps M ds
end
def CapT (M : Nat) : D → Prop
  | .agg l => Caps M l
  | d => Cap M d
theorem capT_of {M : Nat} {d : D} (h : Cap M d) : (∀ l, d ≠ .agg l) → CapT M d := by
  intro hn
  cases d <;> first | exact h | exact absurd rfl (hn _)
theorem Caps.app {M : Nat} : ∀ {a b : List D}, Caps M a → Caps M b → Caps M (a ++ b)
  | [], b, _, h => h
  | d :: a, b, h, h' => by
    simp only [Caps, List.cons_append] at h ⊢
    exact ⟨h.1, Caps.app h.2 h'⟩
theorem CapR_of {M : Nat} : ∀ {l : List (List D)}, (∀ i (h : i < l.length), Caps M l[i]) → CapR M l
  | [], _ => by simp [CapR]
  | r :: rs, h => by
    simp only [CapR]
    exact ⟨h 0 (by simp), CapR_of fun i hi => h (i + 1) (by simp; omega)⟩
structure BulkFn {H : Type} (bulk : DataW H → Nat) : Prop where
  str : ∀ bytes, bytes.length ≤ bulk (.lit (.string bytes))
  sl : ∀ es rest, es.length ≤ bulk (.slice es rest)
  el : ∀ es rest e, e ∈ es → bulk e ≤ bulk (.slice es rest)
  part : ∀ ps p, p ∈ ps → bulk p ≤ bulk (.agg ps)
section
variable {H : Type} {enc : TypeId × Value → H} {P : Program} {w : World} {base : Nat} {spare : Nat → Bool} {held : Bool} {bulk : DataW H → Nat}
theorem fields_cap {g : Nat → Option (List Sh)} {m : Nat} {cs : List Value} {M : Nat}
    (hg : ∀ (f : Field) (l : List Sh), g f.type = some l → ∀ x, DataW.trod enc P w base spare held m f.type ((cs.drop f.offset).take (P.cellsOf f.type)) = some x → bulk x.1 ≤ M → ∃ ds, FitDs ds l ∧ Caps M ds ∧ Rcells w Ez ds ((cs.drop f.offset).take (P.cellsOf f.type))) :
    ∀ (fs : List Field) (off : Nat) (shs : List Sh), shapesF g P fs off = some shs → off + shs.length = cs.length →
      (∀ f ∈ fs, ∃ x, DataW.trod enc P w base spare held m f.type ((cs.drop f.offset).take (P.cellsOf f.type)) = some x ∧ bulk x.1 ≤ M) → ∃ ds, FitDs ds shs ∧ Caps M ds ∧ Rcells w Ez ds (cs.drop off)
  | [], off, shs, h, hl, _ => by
    simp only [shapesF, Option.some.injEq] at h
    subst h
    simp at hl
    exact ⟨[], by simp [FitDs], by simp [Caps], by simp [Rcells, List.drop_eq_nil_of_le, hl]⟩
  | f :: r, off, shs, h, hl, ht => by
    simp only [shapesF] at h
    split at h
    · rename_i ho
      split at h
      · rename_i l hgl
        split at h
        · rename_i hlen
          split at h
          · rename_i m' hm
            cases h
            obtain ⟨x, hx, hxm⟩ := ht f (by simp)
            obtain ⟨ds, hd1, hdc, hd2⟩ := hg f l hgl x hx hxm
            obtain ⟨ds', hd1', hdc', hd2'⟩ := fields_cap hg r (off + l.length) m' hm (by simp at hl; omega) fun f' hf' => ht f' (by simp [hf'])
            refine ⟨ds ++ ds', hd1.app hd1', hdc.app hdc', ?_⟩
            have e : cs.drop off = (cs.drop off).take (P.cellsOf f.type) ++ cs.drop (off + l.length) := by
              rw [hlen, ← List.drop_drop, List.take_append_drop]
            rw [e]
            subst ho
            exact hd2.app hd2'
          · cases h
        · cases h
      · cases h
    · cases h
theorem trod_cap (hB : BulkFn bulk) {M : Nat} : ∀ (fuel n t : Nat) (shs : List Sh) (cs : List Value) (x : DataW H × List MemPlace), shapes P n t = some shs → DataW.trod enc P w base spare held fuel t cs = some x → bulk x.1 ≤ M →
    ∃ ds, FitDs ds shs ∧ Caps M ds ∧ Rcells w Ez ds cs
  | 0, _, _, _, _, _, _, h, _ => by simp [DataW.trod] at h
  | fuel + 1, n, t, shs, cs, x, hs, h, hM => by
    cases n with
    | zero => simp [shapes] at hs
    | succ n =>
    simp only [shapes] at hs
    split at hs
    · rename_i k ht
      cases hs
      obtain ⟨m, rfl, _, hw⟩ := DataW.trod_int ht h
      exact ⟨[.int k m], by simp [FitDs, FitD, hw], by simp [Caps, Cap], by simp only [Rcells, R]; exact ⟨_, _, rfl, rfl, rfl, rfl⟩⟩
    · rename_i ht
      cases hs
      obtain ⟨b, rfl, _⟩ := DataW.trod_bool ht h
      exact ⟨[.bool b], by simp [FitDs, FitD], by simp [Caps, Cap], by simp only [Rcells, R]; exact ⟨_, _, rfl, rfl, rfl, rfl⟩⟩
    · rename_i ht
      cases hs
      obtain ⟨s, rfl, rfl, hw⟩ := DataW.trod_string ht h
      have hsz := hB.str s.data.toList
      have e0 : s.data.toList.length = s.size := by rw [Array.length_toList]; rfl
      exact ⟨[.str s], by simp [FitDs, FitD, hw], by simp only [Caps, Cap, and_true]; simp only at hM; omega, by simp only [Rcells, R]; exact ⟨_, _, rfl, rfl, rfl, rfl⟩⟩
    · rename_i e ht
      split at hs
      · rename_i l hl
        split at hs
        · rename_i hlen
          cases hs
          rcases DataW.trod_slice ht h with ⟨rfl, _⟩ | ⟨a, len, cap, elems, rest, m, hm, rfl, rfl, _, hlc, hcm, hel, helem, _⟩
          · exact ⟨[.sl []], by simp [FitDs, FitD, FitDR], by simp [Caps, Cap, CapR], by simp only [Rcells, R]; exact ⟨_, _, rfl, rfl, ⟨none, 0, rfl, by simp, by simp, fun _ => rfl, fun h => absurd rfl h⟩, rfl⟩⟩
          · cases hm
            have cellf : ∀ i, i < len → ∃ cs' x', w.cells? base (a.add (i * P.cellsOf e)) (P.cellsOf e) = some cs' ∧ DataW.trod enc P w base spare held fuel e cs' = some x' ∧ bulk x'.1 ≤ M := by
              intro i hi
              have h1 := helem i hi
              have h2 : elems[i]? = some (elems[i]'(by omega)) := List.getElem?_eq_getElem (by omega)
              rw [h2, Option.bind_eq_some_iff] at h1
              obtain ⟨cs', hc1, hc2⟩ := h1
              exact ⟨cs', _, hc1, hc2, Nat.le_trans (hB.el _ _ _ (List.mem_map.mpr ⟨_, List.getElem_mem _, rfl⟩)) hM⟩
            have hspot : 0 < len → a.spot = none ∧ a.block < w.heap.size := by
              intro hp
              obtain ⟨cs', _, hc1, _, _⟩ := cellf 0 hp
              obtain ⟨_, hcl, hcell⟩ := World.cells?_some hc1
              have c0 := hcell 0 (by omega)
              have : cs'[0]? = some (cs'[0]'(by omega)) := List.getElem?_eq_getElem (by omega)
              rw [this] at c0
              exact ⟨by simpa [Addr.add] using World.cell?_spot c0, by simpa [Addr.add] using cell_lt c0⟩
            have each : ∀ i, i < len → ∃ ds, (FitDs ds l ∧ Caps M ds) ∧ Rrow w Ez a.block ds (a.off + i * P.cellsOf e) := by
              intro i hi
              obtain ⟨q3, q4⟩ := hspot (by omega)
              obtain ⟨cs', x', hc1, hc2, hxm⟩ := cellf i hi
              obtain ⟨ds, hf, hfc, hr⟩ := trod_cap hB fuel n e l cs' _ hl hc2 hxm
              obtain ⟨_, hcl, hcell⟩ := World.cells?_some hc1
              refine ⟨ds, ⟨hf, hfc⟩, Rrow_of_cells hr fun j hj => ?_⟩
              have := hcell j (by rw [hr.len] at hj; omega)
              rw [← this]
              obtain ⟨ab, ao, asp⟩ := a
              subst q3
              rw [add_plain, add_plain]
            obtain ⟨rows, hrl, hrow⟩ := list_of len each
            have hbl := hB.sl (elems.map (·.1)) (rest.map (·.1))
            rw [List.length_map] at hbl
            refine ⟨[.sl rows], by simp [FitDs, FitD, hrl, FitDR_of fun i hi => (hrow i hi).1.1]; omega, by simp only [Caps, Cap, and_true]; exact ⟨by simp only at hM; omega, CapR_of fun i hi => (hrow i hi).1.2⟩, ?_⟩
            simp only [Rcells, R]
            refine ⟨_, _, rfl, rfl, ⟨some a, cap, by rw [hrl], by omega, hcm, fun h => by simp at h, fun hne => ?_⟩, rfl⟩
            have h0 : 0 < rows.length := List.length_pos_iff.2 hne
            obtain ⟨q1, q2⟩ := hrow 0 h0
            obtain ⟨q3, q4⟩ := hspot (by omega)
            have hsz : rowLen rows = P.cellsOf e := by
              cases hr : rows with
              | nil => exact absurd hr hne
              | cons r rs => 
                subst hr
                simp only [rowLen]
                have := q1.1.len
                simp at this
                omega
            refine ⟨a.block, a.off, ?_, fun h => h, q4, ?_⟩
            · obtain ⟨ab, ao, asp⟩ := a
              subst q3; rfl
            · rw [hsz]
              exact Rrows_of fun i hi => ⟨by rw [(hrow i hi).1.1.len]; exact hlen.1, (hrow i hi).2⟩
        · cases hs
      · cases hs
    · rename_i fs ht
      split at hs
      · rename_i l hl
        split at hs
        · rename_i hlen
          cases hs
          obtain ⟨xs, m, hm, hxe, hcl, hxl, hx⟩ := DataW.trod_struct ht h
          cases hm
          have := fields_cap (bulk := bulk) (M := M) (g := shapes P n) (m := fuel) (cs := cs) (P := P) (w := w) (enc := enc) (base := base) (spare := spare) (held := held) (fun f l' hf x hx hxm => trod_cap hB fuel n f.type l' _ x hf hx hxm) fs.toList 0 shs hl (by omega) ?_
          · simpa using this
          · intro f hf
            obtain ⟨i, hi, rfl⟩ := List.getElem_of_mem hf
            have h1 := hx i fs[i] (by simp at hi; simp [hi])
            rw [List.getElem?_eq_getElem (by simp at hi; omega)] at h1
            refine ⟨_, by simpa using h1, Nat.le_trans (hB.part _ _ (List.mem_map.mpr ⟨_, List.getElem_mem _, rfl⟩)) (by rw [hxe] at hM; exact hM)⟩
        · cases hs
      · cases hs
    · cases hs
theorem val_cap (hB : BulkFn bulk) {M : Nat} {n t : Nat} {v : Value} {d : DataW H} {ps : List MemPlace} {r : Reach} {b0 : Nat} (hs : (shapes P n t).isSome = true) (hv : Value.okWide P w r b0 t v) (h : DataW.Trod enc P w base spare held t v d ps) (hM : bulk d ≤ M) :
    ∃ x, FitT P n t x ∧ CapT M x ∧ R w Ez x v := by
  obtain ⟨fuel, hf⟩ := h
  cases hq : shapes P n t with
  | none => simp [hq] at hs
  | some shs =>
  obtain ⟨ds, h1, hc, h2⟩ := trod_cap hB fuel n t shs _ _ hq hf hM
  unfold FitT
  cases n with
  | zero => simp [shapes] at hq
  | succ n =>
  have hq0 := hq
  simp only [shapes] at hq
  have scalar : ∀ s, shs = [s] → v.cells = #[v] → ∃ x, (FitD x s ∧ CapT M x) ∧ R w Ez x v := by
    intro s e hcc
    subst e
    rw [hcc] at h2
    cases ds with
    | nil => simp [FitDs] at h1
    | cons d ds =>
      simp only [Rcells] at h2
      obtain ⟨u, us, e, _, hr, _⟩ := h2
      simp only [FitDs] at h1
      obtain ⟨s', r', e', hfit, _⟩ := h1
      cases e'
      simp at e
      obtain ⟨rfl, rfl⟩ := e
      simp only [Caps] at hc
      exact ⟨d, ⟨hfit, capT_of hc.1 (by intro l e; subst e; simp [FitD] at hfit)⟩, hr⟩
  split at hq
  · rename_i k ht
    cases hq
    obtain ⟨m, rfl⟩ := okWide_int ht hv
    obtain ⟨x, hx⟩ := scalar _ rfl rfl
    exact ⟨x, by rw [ht]; exact ⟨_, hq0, hx.1.1⟩, hx.1.2, hx.2⟩
  · rename_i ht
    cases hq
    obtain ⟨m, rfl⟩ := okWide_bool ht hv
    obtain ⟨x, hx⟩ := scalar _ rfl rfl
    exact ⟨x, by rw [ht]; exact ⟨_, hq0, hx.1.1⟩, hx.1.2, hx.2⟩
  · rename_i ht
    cases hq
    obtain ⟨m, rfl⟩ := okWide_string ht hv
    obtain ⟨x, hx⟩ := scalar _ rfl rfl
    exact ⟨x, by rw [ht]; exact ⟨_, hq0, hx.1.1⟩, hx.1.2, hx.2⟩
  · rename_i e ht
    split at hq
    · split at hq
      · cases hq
        obtain ⟨a, len, cap, rfl⟩ := okWide_slice ht hv
        obtain ⟨x, hx⟩ := scalar _ rfl rfl
        exact ⟨x, by rw [ht]; exact ⟨_, hq0, hx.1.1⟩, hx.1.2, hx.2⟩
      · cases hq
    · cases hq
  · rename_i fs ht
    obtain ⟨cs, rfl, _⟩ := okWide_struct ht hv
    refine ⟨.agg ds, by rw [ht]; exact ⟨ds, shs, rfl, hq0, h1⟩, by simp only [CapT]; exact hc, ?_⟩
    simp only [R]
    exact ⟨cs.toList, by simp, h2⟩
  · cases hq
theorem args_cap (hB : BulkFn bulk) {M : Nat} {n : Nat} {r : Reach} {b0 : Nat} : ∀ {ts : List Nat} {vs : List Value} {ds : List (DataW H)} {ps : List MemPlace}, (∀ t ∈ ts, (shapes P n t).isSome = true) →
    (∀ (j : Nat) (t : Nat) (v : Value), ts[j]? = some t → vs[j]? = some v → Value.okWide P w r b0 t v) → DataW.TrodAll enc P w base spare held ts vs ds ps → (∀ d ∈ ds, bulk d ≤ M) → ∃ xs, FitArgs P n ts xs ∧ (∀ x ∈ xs, CapT M x) ∧ Rvals w Ez xs vs
  | [], vs, ds, ps, _, _, h, _ => by
    cases vs with
    | nil => exact ⟨[], by simp [FitArgs], by simp, by simp [Rvals]⟩
    | cons v vs => cases ds <;> simp [DataW.TrodAll] at h
  | t :: ts, vs, ds, ps, hs, hv, h, hM => by
    cases vs with
    | nil => cases ds <;> simp [DataW.TrodAll] at h
    | cons v vs =>
      cases ds with
      | nil => simp [DataW.TrodAll] at h
      | cons d ds =>
        simp only [DataW.TrodAll] at h
        obtain ⟨p, q, h1, h2, _⟩ := h
        obtain ⟨x, hx1, hxc, hx2⟩ := val_cap hB (hs t (by simp)) (hv 0 t v rfl rfl) h1 (hM d (by simp))
        obtain ⟨xs, hy1, hyc, hy2⟩ := args_cap hB (ts := ts) (fun t ht => hs t (by simp [ht])) (fun j t v h h' => hv (j + 1) t v (by simpa using h) (by simpa using h')) h2 (fun d hd => hM d (by simp [hd]))
        exact ⟨x :: xs, by simp only [FitArgs]; exact ⟨x, xs, rfl, hx1, hy1⟩, by intro z hz; rcases List.mem_cons.mp hz with e | e; rw [e]; exact hxc; exact hyc z e, by simp only [Rvals]; exact ⟨v, vs, rfl, hx2, hy2⟩⟩
end
end Go.V
