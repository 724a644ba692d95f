/- Contracts and plain laws of this seat: part M1. It needs no conditions. -/
import Derived.Test.YtnflnfmbgghbeaaGreatDoorTab
import GoSem.Core.Value
import Derived.Test.YtnflnfmbgghbeaaGreatDoorS1
set_option linter.unusedVariables false
set_option linter.unusedSimpArgs false
set_option linter.unusedSectionVars false
set_option maxRecDepth 100000
namespace Go.V
open Go Go.Proofs
instance : Dr := ⟨false⟩
instance : Ov := ⟨false⟩
@[simp] theorem arith_i64 (n : Int) (k : Sym → Prop) : arith .i64 n k = (I64 n ∧ k (.d (.int .i64 n))) := rfl
@[simp] theorem arith_i32 (n : Int) (k : Sym → Prop) : arith .i32 n k = k (.d (.int .i32 (IntKind.i32.wrap n))) := rfl
@[simp] theorem arith_u8 (n : Int) (k : Sym → Prop) : arith .u8 n k = k (.d (.int .u8 (IntKind.u8.wrap n))) := rfl
@[simp] theorem arith_u32 (n : Int) (k : Sym → Prop) : arith .u32 n k = k (.d (.int .u32 (IntKind.u32.wrap n))) := rfl
@[simp] theorem arith_u64 (n : Int) (k : Sym → Prop) : arith .u64 n k = k (.d (.int .u64 (IntKind.u64.wrap n))) := rfl
def int (n : Int) : D := .int .i64 n
def ints (l : List Int) : D := .sl (l.map fun n => [.int .i64 n])
structure Phon where
  name : ByteArray
  feat : Int
  deriving DecidableEq
structure Grap where
  graph : ByteArray
  segs : List Int
  deriving DecidableEq
structure Orth where
  name : ByteArray
  units : List Grap
  letters : List (List ByteArray)
  deriving DecidableEq
structure Cls where
  mask : Int
  value : Int
  deriving DecidableEq
structure Rule where
  src : List Int
  dst : List Int
  left : List Cls
  right : List Cls
  beg : Bool
  fin : Bool
  deriving DecidableEq
structure Stp where
  src : Int
  cls : Int
  dst : Int
  deriving DecidableEq
structure Nett where
  states : Int
  steps : List Stp
  final : List Int
  deriving DecidableEq
structure Sens where
  gloss : ByteArray
  defn : ByteArray
  deriving DecidableEq
structure Lnk where
  kind : Int
  dst : Int
  deriving DecidableEq
structure Rf where
  rcd : Int
  note : Int
  deriving DecidableEq
structure Ent where
  id : Int
  form : List Int
  cls : Int
  alts : List (List Int)
  main : Int
  senses : List Sens
  links : List Lnk
  refs : List Rf
  deriving DecidableEq
structure Lang where
  inv : List Phon
  orth : Orth
  rules : List Rule
  net : Nett
  lex : List Ent
  deriving DecidableEq
structure Prt where
  entry : Int
  alt : Int
  sense : Int
  deriving DecidableEq
def Phon.row (p : Phon) : List D := [.str p.name, int p.feat]
def invD (l : List Phon) : D := .sl (l.map Phon.row)
def Grap.row (u : Grap) : List D := [.str u.graph, ints u.segs]
def unitsD (l : List Grap) : D := .sl (l.map Grap.row)
def lettersD (l : List (List ByteArray)) : D := .sl (l.map fun r => [.sl (r.map fun s => [.str s])])
def Orth.cells (o : Orth) : List D := [.str o.name, unitsD o.units, lettersD o.letters]
def Cls.row (c : Cls) : List D := [int c.mask, int c.value]
def clsD (l : List Cls) : D := .sl (l.map Cls.row)
def Rule.row (r : Rule) : List D := [ints r.src, ints r.dst, clsD r.left, clsD r.right, .bool r.beg, .bool r.fin]
def rulesD (l : List Rule) : D := .sl (l.map Rule.row)
def Stp.row (s : Stp) : List D := [int s.src, int s.cls, int s.dst]
def stepsD (l : List Stp) : D := .sl (l.map Stp.row)
def Nett.cells (n : Nett) : List D := [int n.states, stepsD n.steps, ints n.final]
def Sens.row (s : Sens) : List D := [.str s.gloss, .str s.defn]
def sensD (l : List Sens) : D := .sl (l.map Sens.row)
def Lnk.row (s : Lnk) : List D := [int s.kind, int s.dst]
def lnkD (l : List Lnk) : D := .sl (l.map Lnk.row)
def Rf.row (s : Rf) : List D := [int s.rcd, int s.note]
def rfD (l : List Rf) : D := .sl (l.map Rf.row)
def listsD (l : List (List Int)) : D := .sl (l.map fun a => [ints a])
def Ent.row (e : Ent) : List D := [int e.id, ints e.form, int e.cls, listsD e.alts, int e.main, sensD e.senses, lnkD e.links, rfD e.refs]
def lexD (l : List Ent) : D := .sl (l.map Ent.row)
def Lang.d (g : Lang) : D := .agg [invD g.inv, .str g.orth.name, unitsD g.orth.units, lettersD g.orth.letters, rulesD g.rules, int g.net.states, stepsD g.net.steps, ints g.net.final, lexD g.lex]
def Prt.row (p : Prt) : List D := [int p.entry, int p.alt, int p.sense]
@[simp ↓] theorem imp_tf (p : Prop) : (true = !true → p) = True := by simp
@[simp ↓] theorem imp_ff (p : Prop) : (false = !false → p) = True := by simp
@[simp ↓] theorem imp_tt (p : Prop) : (true = !false → p) = p := by simp
@[simp ↓] theorem imp_ft (p : Prop) : (false = !true → p) = p := by simp
@[simp ↓] theorem imp_1 (p : Prop) : (true = false → p) = True := by simp
@[simp ↓] theorem imp_2 (p : Prop) : (false = true → p) = True := by simp
@[simp ↓] theorem imp_3 (p : Prop) : (true = true → p) = p := by simp
@[simp ↓] theorem imp_4 (p : Prop) : (false = false → p) = p := by simp
end Go.V
namespace Go.V
open Go
structure Nt where
  id : Int
  tier : Int
  par : Int
  fr : Int
  tO : Int
  rank : Int
  text : ByteArray
  deriving Inhabited, DecidableEq
def Nt.enc (n : Nt) : List Value := [.int .i64 n.id, .int .i64 n.tier, .int .i64 n.par, .int .i64 n.fr, .int .i64 n.tO, .int .i64 n.rank, .string n.text]
def cmpI (a b : Int) : Int := if a < b then -1 else if b < a then 1 else 0
def orI : List Int → Int
  | [] => 0
  | x :: l => if x = 0 then orI l else x
theorem orI_drop {l : List Int} {k : Nat} (h : k < l.length) : orI (l.drop k) = if l[k] = 0 then orI (l.drop (k + 1)) else l[k] := by
  rw [List.drop_eq_getElem_cons h]; rfl
def cmpN (a b : Nt) : Int := orI [cmpI a.par b.par, cmpI a.fr b.fr, cmpI a.rank b.rank]
end Go.V
namespace Go.V
open Go Go.Proofs
variable [Dr]
def Nt.row (n : Nt) : List D := [int n.id, int n.tier, int n.par, int n.fr, int n.tO, int n.rank, .str n.text]
def notesD (l : List Nt) : D := .sl (l.map Nt.row)
theorem nt_enc : RowEnc Nt.enc Nt.row 7 where
  pos := by decide
  len := fun _ => rfl
  one := by intro x v hv; simp [Nt.enc] at hv; rcases hv with rfl | rfl | rfl | rfl | rfl | rfl | rfl <;> rfl
  rlen := fun _ => rfl
  read := by
    intro w E x
    simp only [Nt.row, Nt.enc, Rcells, R, int]
    exact ⟨_, _, rfl, rfl, rfl, _, _, rfl, rfl, rfl, _, _, rfl, rfl, rfl, _, _, rfl, rfl, rfl, _, _, rfl, rfl, rfl, _, _, rfl, rfl, rfl, _, _, rfl, rfl, rfl, rfl⟩
  uniq := by
    intro w E x vs h
    simp only [Nt.row, Rcells, R, int] at h
    obtain ⟨_, _, rfl, _, rfl, _, _, rfl, _, rfl, _, _, rfl, _, rfl, _, _, rfl, _, rfl, _, _, rfl, _, rfl, _, _, rfl, _, rfl, _, _, rfl, _, rfl, rfl⟩ := h
    rfl
theorem isNaN_ok (n : Int) : PureR Tryz.prog 119 [int n] (.bool false) := by
  refine pure_of_body mixed Tryz.func119 rfl call_119 ?_
  simp [Tryz.f119, int]
theorem compare_ok (a b : Int) : PureR Tryz.prog 100 [int a, int b] (int (cmpI a b)) := by
  refine pure_of_body mixed Tryz.func100 rfl call_100 ?_
  simp [Tryz.f100, int]
  refine ECall.pure (by rfl) (isNaN_ok a) (by simp) ?_
  simp
  refine ECall.pure (by rfl) (isNaN_ok b) (by simp) ?_
  simp [cmpI]
  refine ⟨fun h h' => by omega, fun h => by omega⟩
theorem or_ok (l : List Int) (hl : l.length < 2^62) : PureR Tryz.prog 99 [ints l] (int (orI l)) := by
  refine pure_of_body mixed Tryz.func99 rfl call_99 ?_
  simp [Tryz.f99, ints]
  refine loop_rule mixed (fun k : Nat => { n := 18, next := 0, slots := [(0, .d (ints l)), (3, .d (int 0)), (6, .d (ints l)), (7, .d (.int .i64 l.length)), (8, .d (.int .i64 k))], own := [] })
    (fun k => k ≤ l.length ∧ orI l = orI (l.drop k)) (fun k => l.length - k) 0 (by simp) (by simp [ints, int]) ?_
  intro k ⟨hk, hp⟩
  by_cases hlt : k < l.length
  · have e1 : l[k]? = some l[k] := List.getElem?_eq_getElem hlt
    rw [orI_drop hlt] at hp
    simp (decide := true) [ints, int, e1, hlt, I64]
    refine ⟨fun h => ?_, fun h => ⟨by omega, k + 1, ⟨hlt, ?_⟩, by omega, by omega⟩⟩
    · rw [hp, if_neg h]
    · rw [hp, if_pos h]
  · have : k = l.length := by omega
    subst this
    simp (decide := true) [ints, int, hp, orI]
theorem order_ok (a b : Nt) : PureR Tryz.prog 74 [.agg a.row, .agg b.row] (int (cmpN a b)) := by
  refine pure_of_body mixed Tryz.func74 rfl call_74 ?_
  simp (decide := true) [Tryz.f74, Nt.row, int]
  refine scall_pure (by rfl) (by rfl) (compare_ok a.par b.par) (by simp) ?_
  simp (decide := true) [int]
  refine scall_pure (by rfl) (by rfl) (compare_ok a.fr b.fr) (by simp) ?_
  simp (decide := true) [int]
  refine scall_pure (by rfl) (by rfl) (compare_ok a.rank b.rank) (by simp) ?_
  simp (decide := true) [int, inOrder, rowsOf, rowOf, symCells]
  refine scall_pure (by rfl) (by rfl) (or_ok [cmpI a.par b.par, cmpI a.fr b.fr, cmpI a.rank b.rank] (by simp)) (by simp) ?_
  simp (decide := true) [cmpN, int]
theorem order_lays {blk off size : Nat} {w : World} {E : Nat → Prop} (h1 : Seen w E) (hb : E blk) : Go.Proofs.CmpLays Tryz.prog 74 #[] Nt.enc 7 cmpN blk off size w := by
  let d : Dr := ⟨true⟩
  exact @cmpLays_of d _ _ _ _ _ _ _ rfl _ _ nt_enc (fun x y => @order_ok d x y) _ _ _ _ _ h1 hb
end Go.V
