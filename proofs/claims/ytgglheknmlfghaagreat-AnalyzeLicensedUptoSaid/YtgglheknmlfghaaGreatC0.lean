/- The data of the languages as plain Lean data, and how they lie in cells. -/
import Derived.Test.YtgglheknmlfghaaGreatTab
namespace Go.V
open Go Go.Proofs

instance : Dr := ⟨false⟩
instance : Ov := ⟨false⟩
@[simp] theorem arith_i64 (n : Int) (k : Sym → Prop) : arith .i64 n k = (I64 n ∧ k (.d (.int .i64 n))) := rfl
@[simp] theorem arith_i32 (n : Int) (k : Sym → Prop) : arith .i32 n k = k (.d (.int .i32 (IntKind.i32.wrap n))) := rfl
@[simp] theorem arith_u8 (n : Int) (k : Sym → Prop) : arith .u8 n k = k (.d (.int .u8 (IntKind.u8.wrap n))) := rfl
@[simp] theorem arith_u32 (n : Int) (k : Sym → Prop) : arith .u32 n k = k (.d (.int .u32 (IntKind.u32.wrap n))) := rfl
@[simp] theorem arith_u64 (n : Int) (k : Sym → Prop) : arith .u64 n k = k (.d (.int .u64 (IntKind.u64.wrap n))) := rfl

def int (n : Int) : D := .int .i64 n
def ints (l : List Int) : D := .sl (l.map fun n => [.int .i64 n])
structure Phon where
  name : ByteArray
  feat : Int
  deriving DecidableEq
structure Grap where
  graph : ByteArray
  segs : List Int
  deriving DecidableEq
structure Orth where
  name : ByteArray
  units : List Grap
  letters : List (List ByteArray)
  deriving DecidableEq
structure Cls where
  mask : Int
  value : Int
  deriving DecidableEq
structure Rule where
  src : List Int
  dst : List Int
  left : List Cls
  right : List Cls
  beg : Bool
  fin : Bool
  deriving DecidableEq
structure Stp where
  src : Int
  cls : Int
  dst : Int
  deriving DecidableEq
structure Nett where
  states : Int
  steps : List Stp
  final : List Int
  deriving DecidableEq
structure Sens where
  gloss : ByteArray
  defn : ByteArray
  deriving DecidableEq
structure Lnk where
  kind : Int
  dst : Int
  deriving DecidableEq
structure Rf where
  rcd : Int
  note : Int
  deriving DecidableEq
structure Ent where
  id : Int
  form : List Int
  cls : Int
  alts : List (List Int)
  main : Int
  senses : List Sens
  links : List Lnk
  refs : List Rf
  deriving DecidableEq
structure Lang where
  inv : List Phon
  orth : Orth
  rules : List Rule
  net : Nett
  lex : List Ent
  deriving DecidableEq
structure Prt where
  entry : Int
  alt : Int
  sense : Int
  deriving DecidableEq

def Phon.row (p : Phon) : List D := [.str p.name, int p.feat]
def invD (l : List Phon) : D := .sl (l.map Phon.row)
def Grap.row (u : Grap) : List D := [.str u.graph, ints u.segs]
def unitsD (l : List Grap) : D := .sl (l.map Grap.row)
def lettersD (l : List (List ByteArray)) : D := .sl (l.map fun r => [.sl (r.map fun s => [.str s])])
def Orth.cells (o : Orth) : List D := [.str o.name, unitsD o.units, lettersD o.letters]
def Cls.row (c : Cls) : List D := [int c.mask, int c.value]
def clsD (l : List Cls) : D := .sl (l.map Cls.row)
def Rule.row (r : Rule) : List D := [ints r.src, ints r.dst, clsD r.left, clsD r.right, .bool r.beg, .bool r.fin]
def rulesD (l : List Rule) : D := .sl (l.map Rule.row)
def Stp.row (s : Stp) : List D := [int s.src, int s.cls, int s.dst]
def stepsD (l : List Stp) : D := .sl (l.map Stp.row)
def Nett.cells (n : Nett) : List D := [int n.states, stepsD n.steps, ints n.final]
def Sens.row (s : Sens) : List D := [.str s.gloss, .str s.defn]
def sensD (l : List Sens) : D := .sl (l.map Sens.row)
def Lnk.row (s : Lnk) : List D := [int s.kind, int s.dst]
def lnkD (l : List Lnk) : D := .sl (l.map Lnk.row)
def Rf.row (s : Rf) : List D := [int s.rcd, int s.note]
def rfD (l : List Rf) : D := .sl (l.map Rf.row)
def listsD (l : List (List Int)) : D := .sl (l.map fun a => [ints a])
def Ent.row (e : Ent) : List D := [int e.id, ints e.form, int e.cls, listsD e.alts, int e.main, sensD e.senses, lnkD e.links, rfD e.refs]
def lexD (l : List Ent) : D := .sl (l.map Ent.row)
def Lang.d (g : Lang) : D := .agg [invD g.inv, .str g.orth.name, unitsD g.orth.units, lettersD g.orth.letters, rulesD g.rules, int g.net.states, stepsD g.net.steps, ints g.net.final, lexD g.lex]
def Prt.row (p : Prt) : List D := [int p.entry, int p.alt, int p.sense]
def partsD (l : List Prt) : D := .sl (l.map Prt.row)
def anaD (a : List Prt) : D := .agg [partsD a]
def anasD (l : List (List Prt)) : D := .sl (l.map fun a => [partsD a])
def errD (n : Int) : D := .int .i64 n

/-- A bound that every length in a store of cells keeps. -/
def Short {α : Type} (l : List α) : Prop := l.length < 2^62

/-- A side that is closed is not looked at. -/
@[simp ↓] theorem imp_tf (p : Prop) : (true = !true → p) = True := by simp
@[simp ↓] theorem imp_ff (p : Prop) : (false = !false → p) = True := by simp
@[simp ↓] theorem imp_tt (p : Prop) : (true = !false → p) = p := by simp
@[simp ↓] theorem imp_ft (p : Prop) : (false = !true → p) = p := by simp
@[simp ↓] theorem imp_1 (p : Prop) : (true = false → p) = True := by simp
@[simp ↓] theorem imp_2 (p : Prop) : (false = true → p) = True := by simp
@[simp ↓] theorem imp_3 (p : Prop) : (true = true → p) = p := by simp
@[simp ↓] theorem imp_4 (p : Prop) : (false = false → p) = p := by simp
end Go.V
