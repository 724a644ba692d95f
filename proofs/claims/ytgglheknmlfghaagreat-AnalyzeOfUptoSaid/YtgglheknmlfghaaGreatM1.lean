/- Contracts and plain laws of this seat: part M1. It needs no conditions. -/
import Derived.Test.YtgglheknmlfghaaGreatTab
import Derived.Test.YtgglheknmlfghaaGreatB1
set_option linter.unusedVariables false
set_option linter.unusedSimpArgs false
set_option linter.unusedSectionVars false
set_option maxRecDepth 100000
namespace Go.V
open Go Go.Proofs
instance : Dr := ⟨false⟩
instance : Ov := ⟨false⟩
@[simp] theorem yg8 (n : Int) (k : Sym → Prop) : arith .i64 n k = (I64 n ∧ k (.d (.int .i64 n))) := rfl
@[simp] theorem yg9 (n : Int) (k : Sym → Prop) : arith .i32 n k = k (.d (.int .i32 (IntKind.i32.wrap n))) := rfl
@[simp] theorem yic (n : Int) (k : Sym → Prop) : arith .u8 n k = k (.d (.int .u8 (IntKind.u8.wrap n))) := rfl
@[simp] theorem yha (n : Int) (k : Sym → Prop) : arith .u32 n k = k (.d (.int .u32 (IntKind.u32.wrap n))) := rfl
@[simp] theorem yhb (n : Int) (k : Sym → Prop) : arith .u64 n k = k (.d (.int .u64 (IntKind.u64.wrap n))) := rfl
def int (n : Int) : D := .int .i64 n
def ints (l : List Int) : D := .sl (l.map fun n => [.int .i64 n])
structure Phon where
 name : ByteArray
 feat : Int
 deriving DecidableEq
structure Grap where
 graph : ByteArray
 segs : List Int
 deriving DecidableEq
structure Orth where
 name : ByteArray
 units : List Grap
 letters : List (List ByteArray)
 deriving DecidableEq
structure Cls where
 mask : Int
 value : Int
 deriving DecidableEq
structure Rule where
 src : List Int
 dst : List Int
 left : List Cls
 right : List Cls
 beg : Bool
 fin : Bool
 deriving DecidableEq
structure Stp where
 src : Int
 cls : Int
 dst : Int
 deriving DecidableEq
structure Nett where
 states : Int
 steps : List Stp
 final : List Int
 deriving DecidableEq
structure Sens where
 gloss : ByteArray
 defn : ByteArray
 deriving DecidableEq
structure Lnk where
 kind : Int
 dst : Int
 deriving DecidableEq
structure Rf where
 rcd : Int
 note : Int
 deriving DecidableEq
structure Ent where
 id : Int
 form : List Int
 cls : Int
 alts : List (List Int)
 main : Int
 senses : List Sens
 links : List Lnk
 refs : List Rf
 deriving DecidableEq
structure Lang where
 inv : List Phon
 orth : Orth
 rules : List Rule
 net : Nett
 lex : List Ent
 deriving DecidableEq
structure Prt where
 entry : Int
 alt : Int
 sense : Int
 deriving DecidableEq
def Phon.row (p : Phon) : List D := [.str p.name, int p.feat]
def invD (l : List Phon) : D := .sl (l.map Phon.row)
def Grap.row (u : Grap) : List D := [.str u.graph, ints u.segs]
def za5 (l : List Grap) : D := .sl (l.map Grap.row)
def zdj (l : List (List ByteArray)) : D := .sl (l.map fun r => [.sl (r.map fun s => [.str s])])
def Orth.cells (o : Orth) : List D := [.str o.name, za5 o.units, zdj o.letters]
def Cls.row (c : Cls) : List D := [int c.mask, int c.value]
def clsD (l : List Cls) : D := .sl (l.map Cls.row)
def Rule.row (r : Rule) : List D := [ints r.src, ints r.dst, clsD r.left, clsD r.right, .bool r.beg, .bool r.fin]
def zbf (l : List Rule) : D := .sl (l.map Rule.row)
def Stp.row (s : Stp) : List D := [int s.src, int s.cls, int s.dst]
def stepsD (l : List Stp) : D := .sl (l.map Stp.row)
def Nett.cells (n : Nett) : List D := [int n.states, stepsD n.steps, ints n.final]
def Sens.row (s : Sens) : List D := [.str s.gloss, .str s.defn]
def zbl (l : List Sens) : D := .sl (l.map Sens.row)
def Lnk.row (s : Lnk) : List D := [int s.kind, int s.dst]
def lnkD (l : List Lnk) : D := .sl (l.map Lnk.row)
def Rf.row (s : Rf) : List D := [int s.rcd, int s.note]
def rfD (l : List Rf) : D := .sl (l.map Rf.row)
def zbd (l : List (List Int)) : D := .sl (l.map fun a => [ints a])
def Ent.row (e : Ent) : List D := [int e.id, ints e.form, int e.cls, zbd e.alts, int e.main, zbl e.senses, lnkD e.links, rfD e.refs]
def lexD (l : List Ent) : D := .sl (l.map Ent.row)
def Lang.d (g : Lang) : D := .agg [invD g.inv, .str g.orth.name, za5 g.orth.units, zdj g.orth.letters, zbf g.rules, int g.net.states, stepsD g.net.steps, ints g.net.final, lexD g.lex]
def Prt.row (p : Prt) : List D := [int p.entry, int p.alt, int p.sense]
def zab (l : List Prt) : D := .sl (l.map Prt.row)
def anaD (a : List Prt) : D := .agg [zab a]
def zbh (l : List (List Prt)) : D := .sl (l.map fun a => [zab a])
@[simp ↓] theorem yip (p : Prop) : (true = !true → p) = True := by simp
@[simp ↓] theorem yiq (p : Prop) : (false = !false → p) = True := by simp
@[simp ↓] theorem yir (p : Prop) : (true = !false → p) = p := by simp
@[simp ↓] theorem yis (p : Prop) : (false = !true → p) = p := by simp
@[simp ↓] theorem yiv (p : Prop) : (true = false → p) = True := by simp
@[simp ↓] theorem yiw (p : Prop) : (false = true → p) = True := by simp
@[simp ↓] theorem yix (p : Prop) : (true = true → p) = p := by simp
@[simp ↓] theorem yiy (p : Prop) : (false = false → p) = p := by simp
end Go.V
namespace Go.V
open Go Go.Proofs
theorem take_snoc {α : Type} {l : List α} {k : Nat} (h : k < l.length) : l.take (k + 1) = l.take k ++ [l[k]] := by
 rw [List.take_add_one, List.getElem?_eq_getElem h]; rfl
theorem yhc (l : List Int) (x : Int) (hl : l.length < 2^62) : zaq Tryz.prog 131 [ints l, int x] (.bool (decide (x ∈ l))) := by
 refine zaa mixed Tryz.func131 rfl call_131 ?_
 simp [Tryz.f131, ints, int]
 refine zaf mixed (fun k : Nat => { n := 17, next := 0, slots := [(0, .d (ints l)), (1, .d (int x)), (7, .d (ints l)), (8, .d (.int .i64 l.length)), (9, .d (.int .i64 k))], own := [] })
  (fun k => k ≤ l.length ∧ x ∉ l.take k) (fun k => l.length - k) 0 (by simp) (by simp [ints, int]) ?_
 intro k ⟨hk, hp⟩
 by_cases hlt : k < l.length
 ·have e1 : l[k]? = some l[k] := List.getElem?_eq_getElem hlt
  simp +decide [ints, int, e1, hlt, I64]; refine ⟨fun h => ?_, fun h => ⟨by omega, k + 1, ⟨hlt, ?_⟩, by omega, by omega⟩⟩
  ·rw [← h]; exact List.getElem_mem hlt
  ·rw [take_snoc hlt, List.mem_append, not_or]; exact ⟨hp, by simpa using fun e => h e.symm⟩
 ·have : k = l.length := by omega
  subst this; simp +decide [ints, int]; simpa using hp
theorem zpm (l : List Int) (x : Int) (hl : l.length < 2^62) : zaq Tryz.prog 135 [ints l, int x] (.bool (decide (x ∈ l))) := by
 refine zaa mixed Tryz.func135 rfl call_135 ?_
 simp [Tryz.f135, ints, int]
 refine zaf mixed (fun k : Nat => { n := 18, next := 0, slots := [(0, .d (ints l)), (1, .d (int x)), (7, .d (.int .i64 l.length)), (8, .d (.int .i64 k))], own := [] })
  (fun k => k ≤ l.length ∧ x ∉ l.take k) (fun k => l.length - k) 0 (by simp) (by simp [ints, int]) ?_
 intro k ⟨hk, hp⟩
 by_cases hlt : k < l.length
 ·have e1 : l[k]? = some l[k] := List.getElem?_eq_getElem hlt
  simp +decide [ints, int, e1, hlt, I64]; refine ⟨fun h => ?_, fun h => ⟨by omega, k + 1, ⟨hlt, ?_⟩, by omega, by omega⟩⟩
  ·rw [← h]; exact List.getElem_mem hlt
  ·rw [take_snoc hlt, List.mem_append, not_or]; exact ⟨hp, by simpa using fun e => h e.symm⟩
 ·have : k = l.length := by omega
  subst this; simp +decide [ints, int]; simpa using hp
theorem yb9 (a b : List Int) (hb : b.length < 2^62) : zaq Tryz.prog 39 [ints a, ints b] (.bool (decide (a = b))) := by
 refine zaa mixed Tryz.func39 rfl call_39 ?_
 simp [Tryz.f39, ints]
 refine ⟨fun h e => h (by rw [e]), fun h => ?_⟩
 refine zaf mixed (fun k : Nat => { n := 26, next := 0, slots := [(0, .d (ints a)), (1, .d (ints b)), (12, .d (.int .i64 a.length)), (13, .d (.int .i64 k))], own := [] })
  (fun k => k ≤ a.length ∧ a.take k = b.take k) (fun k => a.length - k) 0 (by simp) (by simp [ints]) ?_
 intro k ⟨hk, hp⟩
 have h : a.length = b.length := by omega
 by_cases hlt : k < a.length
 ·have e1 : a[k]? = some a[k] := List.getElem?_eq_getElem hlt
  have e2 : b[k]? = some (b[k]'(by omega)) := List.getElem?_eq_getElem (by omega)
  have hlt' : k < b.length := by omega
  simp +decide [ints, e1, e2, hlt, hlt', I64]; refine ⟨fun hne e => hne (by subst e; rfl), fun he => ⟨by omega, k + 1, ⟨hlt, ?_⟩, by omega, by omega⟩⟩
  rw [take_snoc hlt, take_snoc hlt', hp, he]
 ·have : k = a.length := by omega
  subst this; simp +decide [ints]; rw [List.take_length, h, List.take_length] at hp; exact hp
def yca : List Int → List Int → Bool
 | a :: l, b :: m => if a = b then yca l m else decide (a < b)
 | [], _ :: _ => true
 | _, [] => false
end Go.V
namespace Go.V
open Go Go.Proofs
def zdk (inv : List Phon) (n : Int) : Bool := decide (1 ≤ n) && decide (n ≤ inv.length)
theorem zo6 (inv : List Phon) (n : Int) : zaq Tryz.prog 94 [.agg [invD inv], int n] (.bool (zdk inv n)) := by
 refine zaa mixed Tryz.func94 rfl call_94 ?_
 simp [Tryz.f94, invD, int, zdk]
 omega
theorem zsn (inv : List Phon) (n : Int) : zaq Tryz.prog 92 [.agg [invD inv], int n] (.bool (zdk inv n)) := by
 refine zaa mixed Tryz.func92 rfl call_92 ?_
 simp [Tryz.f92, invD, int, zdk]
 omega
theorem z1p (n : Int) : zaq Tryz.prog 149 [int n] (.bool false) := by
 refine zaa mixed Tryz.func149 rfl call_149 ?_
 simp [Tryz.f149, int]
def cmpI (a b : Int) : Int := if a < b then -1 else if b < a then 1 else 0
theorem zmv (a b : Int) : zaq Tryz.prog 106 [int a, int b] (int (cmpI a b)) := by
 refine zaa mixed Tryz.func106 rfl call_106 ?_
 simp [Tryz.f106, int]
 refine zam.pure (by rfl) (z1p a) (by simp) ?_
 simp
 refine zam.pure (by rfl) (z1p b) (by simp) ?_
 simp [cmpI]
 refine ⟨fun h h' => by omega, fun h => by omega⟩
def zdq (l : List Ent) (id : Int) : Int := match l.findIdx? (·.id = id) with
 | some k => k
 | none => -1
theorem zpn {l : List Ent} {id : Int} {k : Nat} (h : k < l.length) (hp : ∀ e ∈ l.take k, e.id ≠ id) (he : l[k].id = id) : l.findIdx? (·.id = id) = some k := by
 rw [List.findIdx?_eq_some_iff_getElem]
 refine ⟨h, by simpa using he, fun j hj => ?_⟩
 have := hp l[j] (by rw [List.mem_take_iff_getElem]; exact ⟨j, by omega, rfl⟩)
 simpa using this
theorem zmw {l : List Ent} {id : Int} (hp : ∀ e ∈ l, e.id ≠ id) : l.findIdx? (·.id = id) = none := by
 rw [List.findIdx?_eq_none_iff]; intro e he; simpa using hp e he
theorem zhf {α : Type} {p : α → Prop} {l : List α} {k : Nat} (h : k < l.length) (hp : ∀ e ∈ l.take k, p e) (he : p l[k]) : ∀ e ∈ l.take (k + 1), p e := by
 rw [take_snoc h]
 intro e hm
 rcases List.mem_append.1 hm with hm | hm
 ·exact hp e hm
 ·simp at hm; rw [hm]; exact he
theorem zlo (l : List Ent) (id : Int) (hl : l.length < 2^62) : zaq Tryz.prog 125 [lexD l, int id] (int (zdq l id)) := by
 refine zaa mixed Tryz.func125 rfl call_125 ?_
 simp [Tryz.f125, lexD, int]
 refine zaf mixed (fun k : Nat => { n := 20, next := 0, slots := [(0, .d (lexD l)), (1, .d (int id)), (5, .d (.int .i64 k))], own := [] })
  (fun k => k ≤ l.length ∧ ∀ e ∈ l.take k, e.id ≠ id) (fun k => l.length - k) 0 (by simp) (by simp [lexD, int]) ?_
 intro k ⟨hk, hp⟩
 by_cases hlt : k < l.length
 ·have e1 : l[k]? = some l[k] := List.getElem?_eq_getElem hlt
  simp +decide [lexD, Ent.row, int, e1, hlt, I64]; refine ⟨fun h => ?_, fun h => ⟨by omega, k + 1, ⟨hlt, zhf hlt hp h⟩, by omega, by omega⟩⟩
  simp [zdq, zpn hlt hp h]
 ·have : k = l.length := by omega
  subst this; simp +decide [lexD, int]; simp [zdq, zmw (by simpa using hp)]
theorem zpo (l : List Ent) (id : Int) (hl : l.length < 2^62) : zaq Tryz.prog 121 [lexD l, int id] (int (zdq l id)) := by
 refine zaa mixed Tryz.func121 rfl call_121 ?_
 simp [Tryz.f121, lexD, int]
 refine zaf mixed (fun k : Nat => { n := 20, next := 0, slots := [(0, .d (lexD l)), (1, .d (int id)), (5, .d (.int .i64 k))], own := [] })
  (fun k => k ≤ l.length ∧ ∀ e ∈ l.take k, e.id ≠ id) (fun k => l.length - k) 0 (by simp) (by simp [lexD, int]) ?_
 intro k ⟨hk, hp⟩
 by_cases hlt : k < l.length
 ·have e1 : l[k]? = some l[k] := List.getElem?_eq_getElem hlt
  simp +decide [lexD, Ent.row, int, e1, hlt, I64]; refine ⟨fun h => ?_, fun h => ⟨by omega, k + 1, ⟨hlt, zhf hlt hp h⟩, by omega, by omega⟩⟩
  simp [zdq, zpn hlt hp h]
 ·have : k = l.length := by omega
  subst this; simp +decide [lexD, int]; simp [zdq, zmw (by simpa using hp)]
end Go.V
namespace Go.V
open Go Go.Proofs
def zj9 (inv : List Phon) (n : Int) (c : Cls) : Bool := zdk inv n && (match inv[n.toNat - 1]? with
 | some p => decide (c.value = zih .and .i64 p.feat c.mask)
 | none => false)
theorem yif (inv : List Phon) (n : Int) (c : Cls) (hl : inv.length < 2^62) : zaq Tryz.prog 181 [.agg [invD inv], int n, .agg c.row] (.bool (zj9 inv n c)) := by
 refine zaa mixed Tryz.func181 rfl call_181 ?_
 simp +decide [Tryz.f181, int, Cls.row]
 refine zad (by rfl) (by rfl) (zsn inv n) (by simp) ?_
 by_cases hs : zdk inv n = true
 ·have hs' := hs
  simp only [zdk, Bool.and_eq_true, decide_eq_true_eq] at hs'; have hlt : n.toNat - 1 < inv.length := by omega
  have e1 : inv[n.toNat - 1]? = some inv[n.toNat - 1] := List.getElem?_eq_getElem hlt
  have e2 : ¬ n < 1 := by omega
  simp +decide [invD, hs, hlt, e1, Phon.row, int, I64, zj9]; omega
 ·simp +decide [hs, zj9]
end Go.V
namespace Go.V
open Go Go.Proofs
def Ent.zero : Ent := ⟨0, [], 0, [], 0, [], [], []⟩
def getE (l : List Ent) (id : Int) : Ent × Bool := match l.find? (·.id = id) with
 | some e => (e, true)
 | none => (Ent.zero, false)
theorem ycb {l : List Ent} {id : Int} {k : Nat} (h : k < l.length) (hp : ∀ e ∈ l.take k, e.id ≠ id) (he : l[k].id = id) : l.find? (·.id = id) = some l[k] := by
 rw [List.find?_eq_some_iff_getElem]
 refine ⟨by simpa using he, k, h, rfl, fun j hj => ?_⟩
 have := hp l[j] (by rw [List.mem_take_iff_getElem]; exact ⟨j, by omega, rfl⟩)
 simpa using this
theorem z6x {l : List Ent} {id : Int} (hp : ∀ e ∈ l, e.id ≠ id) : l.find? (·.id = id) = none := by
 rw [List.find?_eq_none]; intro e he; simpa using hp e he
theorem zo7 (l : List Ent) (id : Int) (hl : l.length < 2^62) : zaq Tryz.prog 87 [lexD l, int id] (.tup [.agg (getE l id).1.row, .bool (getE l id).2]) := by
 refine zaa mixed Tryz.func87 rfl call_87 ?_
 simp [Tryz.f87, lexD, int, Value.oneCell']
 refine zaf mixed (fun k : Nat => { n := 25, next := 1, slots := [(0, .d (lexD l)), (1, .d (int id)), (4, .bp 0 0), (8, .d (.int .i64 l.length)), (9, .d (.int .i64 k))], own := [(0, .box 59 [.d (int 0), .nils, .d (int 0), .nils, .d (int 0), .nils, .nils, .nils])] })
  (fun k => k ≤ l.length ∧ ∀ e ∈ l.take k, e.id ≠ id) (fun k => l.length - k) 0 (by simp) (by simp [lexD, int]) ?_
 intro k ⟨hk, hp⟩
 by_cases hlt : k < l.length
 ·have e1 : l[k]? = some l[k] := List.getElem?_eq_getElem hlt
  simp +decide [lexD, Ent.row, int, e1, hlt, I64]; refine ⟨fun h => ?_, fun h => ⟨by omega, k + 1, ⟨hlt, zhf hlt hp h⟩, by omega, by omega⟩⟩
  simp [getE, ycb hlt hp h, int]
 ·have : k = l.length := by omega
  subst this; simp +decide [lexD, int]; simp [getE, z6x (by simpa using hp), Ent.zero, Ent.row, int, ints, zbd, zbl, lnkD, rfD]
end Go.V
namespace Go.V
open Go Go.Proofs
def zeu (l : List Rule) : Bool := l.any fun r => decide (0 ∈ r.dst)
theorem z6y {α : Type} {p : α → Bool} {l : List α} {k : Nat} (h : k < l.length) (hp : p l[k] = true) : l.any p = true := List.any_eq_true.2 ⟨_, List.getElem_mem h, hp⟩
theorem z3w (l : List Rule) (hl : l.length < 2^62) (hs : ∀ r ∈ l, r.dst.length < 2^62) : zaq Tryz.prog 83 [zbf l] (.bool (zeu l)) := by
 refine zaa mixed Tryz.func83 rfl call_83 ?_
 simp [Tryz.f83, zbf]
 refine zaf mixed (fun k : Nat => { n := 15, next := 0, slots := [(5, .d (zbf l)), (6, .d (.int .i64 l.length)), (7, .d (.int .i64 k))], own := [] })
  (fun k => k ≤ l.length ∧ ∀ r ∈ l.take k, 0 ∉ r.dst) (fun k => l.length - k) 0 (by simp) (by simp [zbf]) ?_
 intro k ⟨hk, hp⟩
 by_cases hlt : k < l.length
 ·have e1 : l[k]? = some l[k] := List.getElem?_eq_getElem hlt
  simp +decide [zbf, Rule.row, int, e1, hlt, I64, Value.oneCell']; refine zam.pure (by rfl) (yhc l[k].dst 0 (hs _ (List.getElem_mem hlt))) (by simp) ?_
  simp +decide [zbf, I64]; refine ⟨fun h => ?_, fun h => ⟨by omega, k + 1, ⟨hlt, zhf hlt hp h⟩, by omega, by omega⟩⟩
  exact (z6y hlt (by simpa using h))
 ·have : k = l.length := by omega
  subst this; simp +decide [zbf]; simp only [List.take_length] at hp; simp only [zeu, List.any_eq_false]; intro r hr; simpa using hp r hr
end Go.V
namespace Go.V
open Go Go.Proofs
def Ent.forms (e : Ent) : List (List Int) := e.form :: e.alts
end Go.V
namespace Go.V
open Go Go.Proofs
def zhg (a b : Prt) : Bool := if a.entry = b.entry then (if a.alt = b.alt then decide (a.sense < b.sense) else decide (a.alt < b.alt)) else decide (a.entry < b.entry)
theorem zzb (a b : Prt) : zaq Tryz.prog 141 [.agg a.row, .agg b.row] (.bool (zhg a b)) := by
 refine zaa mixed Tryz.func141 rfl call_141 ?_
 simp +decide [Tryz.f141, Prt.row, int, zhg]
 exact ⟨fun h h' => absurd h' h, fun h => ⟨fun h2 => by rw [if_pos h, if_neg h2], fun h2 => by rw [if_pos h, if_pos h2]⟩⟩
def zbm : List Prt → List Prt → Bool
 | a :: l, b :: m => if a = b then zbm l m else zhg a b
 | [], _ :: _ => true
 | _, [] => false
theorem z3x {a b : List Prt} {k : Nat} (h : k < a.length) (h' : k < b.length) : zbm (a.drop k) (b.drop k) = if a[k] = b[k] then zbm (a.drop (k + 1)) (b.drop (k + 1)) else zhg a[k] b[k] := by
 rw [List.drop_eq_getElem_cons h, List.drop_eq_getElem_cons h']; rfl
theorem zv7 {a b : List Prt} {k : Nat} (h : ¬ (k < a.length ∧ k < b.length)) (hk : k ≤ a.length ∧ k ≤ b.length) : zbm (a.drop k) (b.drop k) = decide (a.length < b.length) := by
 by_cases h1 : k < b.length
 ·have : k = a.length := by omega
  subst this; rw [List.drop_length, List.drop_eq_getElem_cons h1]; simp [zbm, h1]
 ·have : k = b.length := by omega
  subst this; rw [List.drop_length]; have : ¬ a.length < b.length := by omega
  cases a.drop b.length <;> simp [zbm, this]
theorem z6z {a b : Prt} : a = b ↔ a.entry = b.entry ∧ a.alt = b.alt ∧ a.sense = b.sense := by
 cases a; cases b; simp
theorem zpp (a b : List Prt) (ha : a.length < 2^62) (hb : b.length < 2^62) : zaq Tryz.prog 96 [anaD a, anaD b] (.bool (zbm a b)) := by
 refine zaa mixed Tryz.func96 rfl call_96 ?_
 simp [Tryz.f96, anaD, zab]
 refine zaf mixed (fun k : Nat => { n := 49, next := 2, slots := [(2, .bp 0 0), (3, .bp 1 0), (5, .d (.int .i64 k))], own := [(1, .box 39 [.d (zab b)]), (0, .box 39 [.d (zab a)])] })
  (fun k => k ≤ a.length ∧ k ≤ b.length ∧ zbm a b = zbm (a.drop k) (b.drop k)) (fun k => a.length - k) 0 (by simp) (by simp [zab]) ?_
 intro k ⟨hk, hk', hp⟩
 by_cases hlt : k < a.length
 ·by_cases hlt' : k < b.length
  ·have e1 : a[k]? = some a[k] := List.getElem?_eq_getElem hlt
   have e2 : b[k]? = some b[k] := List.getElem?_eq_getElem hlt'
   rw [z3x hlt hlt'] at hp; simp +decide [zab, Prt.row, int, e1, e2, hlt, hlt', I64]; refine ⟨fun h => ?_, fun h1 h2 h3 => ⟨by omega, k + 1, ⟨hlt, hlt', ?_⟩, by omega, by omega⟩⟩
   ·refine zad (by rfl) (by rfl) (zzb a[k] b[k]) (by simp) ?_
    have hne : ¬ a[k] = b[k] := fun e => by rw [z6z] at e; obtain ⟨q1, q2, q3⟩ := e; simp [q1, q2, q3] at h
    simp +decide [hp, if_neg hne]
   ·rw [hp, if_pos (z6z.2 ⟨h1, h2, h3⟩)]
  ·rw [zv7 (fun h => hlt' h.2) ⟨hk, hk'⟩] at hp
   simp +decide [zab, hlt, hlt', hp]
 ·rw [zv7 (fun h => hlt h.1) ⟨hk, hk'⟩] at hp
  simp +decide [zab, hlt, hp]
end Go.V
namespace Go.V
open Go Go.Proofs
theorem zzc {a b : Prt} (h : zhg a b = false) (h' : zhg b a = false) : a = b := by
 rw [z6z]
 unfold zhg at h h'
 by_cases e1 : a.entry = b.entry
 ·rw [if_pos e1] at h; rw [if_pos e1.symm] at h'
  by_cases e2 : a.alt = b.alt
  ·rw [if_pos e2] at h; rw [if_pos e2.symm] at h'
   simp at h h'
   exact ⟨e1, e2, by omega⟩
  ·rw [if_neg e2] at h; rw [if_neg (fun e => e2 e.symm)] at h'
   simp at h h'; omega
 ·rw [if_neg e1] at h; rw [if_neg (fun e => e1 e.symm)] at h'
  simp at h h'; omega
theorem zn2 : ∀ (a : List Prt), zbm a a = false
 | [] => rfl
 | a :: l => by simp [zbm, zn2 l]
theorem zpq : ∀ {a b : List Prt}, zbm a b = false → zbm b a = false → a = b
 | [], [], _, _ => rfl
 | [], _ :: _, h, _ => by simp [zbm] at h
 | _ :: _, [], _, h => by simp [zbm] at h
 | a :: l, b :: m, h, h' => by
  simp only [zbm] at h h'; by_cases e : a = b
  ·subst e
   simp at h h'
   rw [zpq h h']
  ·rw [if_neg e] at h; rw [if_neg (fun q => e q.symm)] at h'
   exact absurd (zzc h h') e
theorem z3y (a b : List Prt) : (!zbm a b && !zbm b a) = decide (a = b) := by
 by_cases e : a = b
 ·subst e; simp [zn2]
 ·rw [decide_eq_false e]
  cases h : zbm a b <;> cases h' : zbm b a <;> simp
  exact e (zpq h h')
theorem z7a (a b : List Prt) (ha : a.length < 2^62) (hb : b.length < 2^62) : zaq Tryz.prog 56 [anaD a, anaD b] (.bool (decide (a = b))) := by
 refine zaa mixed Tryz.func56 rfl call_56 ?_
 rw [← z3y]
 simp [Tryz.f56, anaD]
 refine zam.pure (by rfl) (zpp a b ha hb) (by simp) ?_
 cases h : zbm a b
 ·simp
  refine zam.pure (by rfl) (zpp b a hb ha) (by simp) ?_
  simp
 ·simp
theorem z7b (a b : List (List Prt)) (hb : b.length < 2^62) (ha : ∀ x ∈ a, x.length < 2^62) (hb' : ∀ x ∈ b, x.length < 2^62) : zaq Tryz.prog 22 [zbh a, zbh b] (.bool (decide (a = b))) := by
 refine zaa mixed Tryz.func22 rfl call_22 ?_
 simp [Tryz.f22, zbh]
 refine ⟨fun h e => h (by rw [e]), fun h => ?_⟩
 refine zaf mixed (fun k : Nat => { n := 27, next := 0, slots := [(0, .d (zbh a)), (1, .d (zbh b)), (5, .d (.int .i64 k))], own := [] })
  (fun k => k ≤ a.length ∧ a.take k = b.take k) (fun k => a.length - k) 0 (by simp) (by simp [zbh]) ?_
 intro k ⟨hk, hp⟩
 have h : a.length = b.length := by omega
 by_cases hlt : k < a.length
 ·have hlt' : k < b.length := by omega
  have e1 : a[k]? = some a[k] := List.getElem?_eq_getElem hlt
  have e2 : b[k]? = some b[k] := List.getElem?_eq_getElem hlt'
  simp +decide [zbh, e1, e2, hlt, hlt', I64]; refine zad (by rfl) (by rfl) (z7a a[k] b[k] (ha _ (List.getElem_mem hlt)) (hb' _ (List.getElem_mem hlt'))) (by simp) ?_
  simp +decide [zbh, I64]; refine ⟨fun hne e => hne (by subst e; rfl), fun he => ⟨by omega, k + 1, ⟨hlt, ?_⟩, by omega, by omega⟩⟩
  rw [take_snoc hlt, take_snoc hlt', hp, he]
 ·have : k = a.length := by omega
  subst this; simp +decide [zbh]; rw [List.take_length, h, List.take_length] at hp; exact hp
end Go.V
namespace Go.V
open Go Go.Proofs
theorem z3z (g : Lang) (hl : g.rules.length < 2^62) (hs : ∀ r ∈ g.rules, r.dst.length < 2^62) : zaq Tryz.prog 85 [g.d] (.bool (zeu g.rules)) := by
 refine zaa mixed Tryz.func85 rfl call_85 ?_
 simp [Tryz.f85, Lang.d, zbf, int]
 refine zaf mixed (fun k : Nat => { n := 18, next := 1, slots := [(1, .bp 0 0), (3, .d (.int .i64 k))], own := [(0, .box 36 [.d (invD g.inv), .d (.str g.orth.name), .d (za5 g.orth.units), .d (zdj g.orth.letters), .d (zbf g.rules), .d (int g.net.states), .d (stepsD g.net.steps), .d (ints g.net.final), .d (lexD g.lex)])] })
  (fun k => k ≤ g.rules.length ∧ ∀ r ∈ g.rules.take k, 0 ∉ r.dst) (fun k => g.rules.length - k) 0 (by simp) (by simp [zbf, int]) ?_
 intro k ⟨hk, hp⟩
 by_cases hlt : k < g.rules.length
 ·have e1 : g.rules[k]? = some g.rules[k] := List.getElem?_eq_getElem hlt
  simp +decide [zbf, Rule.row, int, e1, hlt, I64, Value.oneCell']; refine zam.pure (by rfl) (zpm g.rules[k].dst 0 (hs _ (List.getElem_mem hlt))) (by simp) ?_
  simp +decide [zbf, int, I64]; refine ⟨fun h => ?_, fun h => ⟨by omega, k + 1, ⟨hlt, zhf hlt hp h⟩, by omega, by omega⟩⟩
  exact (z6y hlt (by simpa using h))
 ·have : k = g.rules.length := by omega
  subst this; simp +decide [zbf]; simp only [List.take_length] at hp; simp only [zeu, List.any_eq_false]; intro r hr; simpa using hp r hr
end Go.V
namespace Go.V
open Go Go.Proofs
def z7c (n : Int) : Prop := (Lit.int .i64 n).wf = true
theorem z7c.I64 {n : Int} (h : z7c n) : I64 n := by
 have := bounds_i64 h
 unfold Go.V.I64; omega
def Prt.ok (p : Prt) : Prop := z7c p.entry ∧ z7c p.alt ∧ z7c p.sense
end Go.V
