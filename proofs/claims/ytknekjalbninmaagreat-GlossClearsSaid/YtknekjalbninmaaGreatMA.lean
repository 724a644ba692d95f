/- Contracts and plain laws of this seat: part MA. It needs no conditions. -/
import Derived.Test.YtknekjalbninmaaGreatTab
import GoSem.Core.Value
import Derived.Test.YtknekjalbninmaaGreatS1
import Derived.Test.YtknekjalbninmaaGreatW1
import Derived.Test.YtknekjalbninmaaGreatB1
import Derived.Test.YtknekjalbninmaaGreatU0
import Derived.Lib.TrimU
import Derived.Test.YtknekjalbninmaaGreatX9
import Derived.Test.YtknekjalbninmaaGreatProg
import Derived.KernelRfl
import Derived.Test.YtknekjalbninmaaGreatSh
import Derived.Test.YtknekjalbninmaaGreatSq
set_option linter.unusedVariables false
set_option linter.unusedSimpArgs false
set_option linter.unusedSectionVars false
set_option maxRecDepth 100000
namespace Go.V
open Go Go.Proofs
instance : Dr := ⟨false⟩
instance : Ov := ⟨false⟩
@[simp] theorem arith_i64 (n : Int) (k : Sym → Prop) : arith .i64 n k = (I64 n ∧ k (.d (.int .i64 n))) := rfl
@[simp] theorem arith_i32 (n : Int) (k : Sym → Prop) : arith .i32 n k = k (.d (.int .i32 (IntKind.i32.wrap n))) := rfl
@[simp] theorem arith_u8 (n : Int) (k : Sym → Prop) : arith .u8 n k = k (.d (.int .u8 (IntKind.u8.wrap n))) := rfl
@[simp] theorem arith_u32 (n : Int) (k : Sym → Prop) : arith .u32 n k = k (.d (.int .u32 (IntKind.u32.wrap n))) := rfl
@[simp] theorem arith_u64 (n : Int) (k : Sym → Prop) : arith .u64 n k = k (.d (.int .u64 (IntKind.u64.wrap n))) := rfl
def int (n : Int) : D := .int .i64 n
def ints (l : List Int) : D := .sl (l.map fun n => [.int .i64 n])
structure Phon where
  name : ByteArray
  feat : Int
  deriving DecidableEq
structure Grap where
  graph : ByteArray
  segs : List Int
  deriving DecidableEq
structure Orth where
  name : ByteArray
  units : List Grap
  letters : List (List ByteArray)
  deriving DecidableEq
structure Cls where
  mask : Int
  value : Int
  deriving DecidableEq
structure Rule where
  src : List Int
  dst : List Int
  left : List Cls
  right : List Cls
  beg : Bool
  fin : Bool
  deriving DecidableEq
structure Stp where
  src : Int
  cls : Int
  dst : Int
  deriving DecidableEq
structure Nett where
  states : Int
  steps : List Stp
  final : List Int
  deriving DecidableEq
structure Sens where
  gloss : ByteArray
  defn : ByteArray
  deriving DecidableEq
structure Lnk where
  kind : Int
  dst : Int
  deriving DecidableEq
structure Rf where
  rcd : Int
  note : Int
  deriving DecidableEq
structure Ent where
  id : Int
  form : List Int
  cls : Int
  alts : List (List Int)
  main : Int
  senses : List Sens
  links : List Lnk
  refs : List Rf
  deriving DecidableEq
structure Lang where
  inv : List Phon
  orth : Orth
  rules : List Rule
  net : Nett
  lex : List Ent
  deriving DecidableEq
structure Prt where
  entry : Int
  alt : Int
  sense : Int
  deriving DecidableEq
def Phon.row (p : Phon) : List D := [.str p.name, int p.feat]
def invD (l : List Phon) : D := .sl (l.map Phon.row)
def Grap.row (u : Grap) : List D := [.str u.graph, ints u.segs]
def unitsD (l : List Grap) : D := .sl (l.map Grap.row)
def lettersD (l : List (List ByteArray)) : D := .sl (l.map fun r => [.sl (r.map fun s => [.str s])])
def Orth.cells (o : Orth) : List D := [.str o.name, unitsD o.units, lettersD o.letters]
def Cls.row (c : Cls) : List D := [int c.mask, int c.value]
def clsD (l : List Cls) : D := .sl (l.map Cls.row)
def Rule.row (r : Rule) : List D := [ints r.src, ints r.dst, clsD r.left, clsD r.right, .bool r.beg, .bool r.fin]
def rulesD (l : List Rule) : D := .sl (l.map Rule.row)
def Stp.row (s : Stp) : List D := [int s.src, int s.cls, int s.dst]
def stepsD (l : List Stp) : D := .sl (l.map Stp.row)
def Nett.cells (n : Nett) : List D := [int n.states, stepsD n.steps, ints n.final]
def Sens.row (s : Sens) : List D := [.str s.gloss, .str s.defn]
def sensD (l : List Sens) : D := .sl (l.map Sens.row)
def Lnk.row (s : Lnk) : List D := [int s.kind, int s.dst]
def lnkD (l : List Lnk) : D := .sl (l.map Lnk.row)
def Rf.row (s : Rf) : List D := [int s.rcd, int s.note]
def rfD (l : List Rf) : D := .sl (l.map Rf.row)
def listsD (l : List (List Int)) : D := .sl (l.map fun a => [ints a])
def Ent.row (e : Ent) : List D := [int e.id, ints e.form, int e.cls, listsD e.alts, int e.main, sensD e.senses, lnkD e.links, rfD e.refs]
def lexD (l : List Ent) : D := .sl (l.map Ent.row)
def Lang.d (g : Lang) : D := .agg [invD g.inv, .str g.orth.name, unitsD g.orth.units, lettersD g.orth.letters, rulesD g.rules, int g.net.states, stepsD g.net.steps, ints g.net.final, lexD g.lex]
def Prt.row (p : Prt) : List D := [int p.entry, int p.alt, int p.sense]
@[simp ↓] theorem imp_tf (p : Prop) : (true = !true → p) = True := by simp
@[simp ↓] theorem imp_ff (p : Prop) : (false = !false → p) = True := by simp
@[simp ↓] theorem imp_tt (p : Prop) : (true = !false → p) = p := by simp
@[simp ↓] theorem imp_ft (p : Prop) : (false = !true → p) = p := by simp
@[simp ↓] theorem imp_1 (p : Prop) : (true = false → p) = True := by simp
@[simp ↓] theorem imp_2 (p : Prop) : (false = true → p) = True := by simp
@[simp ↓] theorem imp_3 (p : Prop) : (true = true → p) = p := by simp
@[simp ↓] theorem imp_4 (p : Prop) : (false = false → p) = p := by simp
end Go.V
namespace Go.V.Doc
open Go
structure Nt where
  id : Int
  tier : Int
  par : Int
  fr : Int
  tO : Int
  rank : Int
  text : ByteArray
  deriving Inhabited, DecidableEq
def Nt.enc (n : Nt) : List Value := [.int .i64 n.id, .int .i64 n.tier, .int .i64 n.par, .int .i64 n.fr, .int .i64 n.tO, .int .i64 n.rank, .string n.text]
def cmpI (a b : Int) : Int := if a < b then -1 else if b < a then 1 else 0
def orI : List Int → Int
  | [] => 0
  | x :: l => if x = 0 then orI l else x
theorem orI_drop {l : List Int} {k : Nat} (h : k < l.length) : orI (l.drop k) = if l[k] = 0 then orI (l.drop (k + 1)) else l[k] := by
  rw [List.drop_eq_getElem_cons h]; rfl
def cmpN (a b : Nt) : Int := orI [cmpI a.par b.par, cmpI a.fr b.fr, cmpI a.rank b.rank]
end Go.V.Doc
namespace Go.V.Doc
open Go Go.Proofs
variable [Dr]
def Nt.row (n : Nt) : List D := [int n.id, int n.tier, int n.par, int n.fr, int n.tO, int n.rank, .str n.text]
def notesD (l : List Nt) : D := .sl (l.map Nt.row)
theorem nt_enc : RowEnc Nt.enc Nt.row 7 where
  pos := by decide
  len := fun _ => rfl
  one := by intro x v hv; simp [Nt.enc] at hv; rcases hv with rfl | rfl | rfl | rfl | rfl | rfl | rfl <;> rfl
  rlen := fun _ => rfl
  read := by
    intro w E x
    simp only [Nt.row, Nt.enc, Rcells, R, int]
    exact ⟨_, _, rfl, rfl, rfl, _, _, rfl, rfl, rfl, _, _, rfl, rfl, rfl, _, _, rfl, rfl, rfl, _, _, rfl, rfl, rfl, _, _, rfl, rfl, rfl, _, _, rfl, rfl, rfl, rfl⟩
  uniq := by
    intro w E x vs h
    simp only [Nt.row, Rcells, R, int] at h
    obtain ⟨_, _, rfl, _, rfl, _, _, rfl, _, rfl, _, _, rfl, _, rfl, _, _, rfl, _, rfl, _, _, rfl, _, rfl, _, _, rfl, _, rfl, _, _, rfl, _, rfl, rfl⟩ := h
    rfl
theorem isNaN_ok (n : Int) : PureR Tryz.prog 123 [int n] (.bool false) := by
  refine pure_of_body mixed Tryz.func123 rfl call_123 ?_
  simp [Tryz.f123, int]
theorem compare_ok (a b : Int) : PureR Tryz.prog 67 [int a, int b] (int (cmpI a b)) := by
  refine pure_of_body mixed Tryz.func67 rfl call_67 ?_
  simp [Tryz.f67, int]
  refine ECall.pure (by rfl) (isNaN_ok a) (by simp) ?_
  simp
  refine ECall.pure (by rfl) (isNaN_ok b) (by simp) ?_
  simp [cmpI]
  refine ⟨fun h h' => by omega, fun h => by omega⟩
theorem or_ok (l : List Int) (hl : l.length < 2^62) : PureR Tryz.prog 166 [ints l] (int (orI l)) := by
  refine pure_of_body mixed Tryz.func166 rfl call_166 ?_
  simp [Tryz.f166, ints]
  refine loop_rule mixed (fun k : Nat => { n := 18, next := 0, slots := [(0, .d (ints l)), (3, .d (int 0)), (6, .d (ints l)), (7, .d (.int .i64 l.length)), (8, .d (.int .i64 k))], own := [] })
    (fun k => k ≤ l.length ∧ orI l = orI (l.drop k)) (fun k => l.length - k) 0 (by simp) (by simp [ints, int]) ?_
  intro k ⟨hk, hp⟩
  by_cases hlt : k < l.length
  · have e1 : l[k]? = some l[k] := List.getElem?_eq_getElem hlt
    rw [orI_drop hlt] at hp
    simp (decide := true) [ints, int, e1, hlt, I64]
    refine ⟨fun h => ?_, fun h => ⟨by omega, k + 1, ⟨hlt, ?_⟩, by omega, by omega⟩⟩
    · rw [hp, if_neg h]
    · rw [hp, if_pos h]
  · have : k = l.length := by omega
    subst this
    simp (decide := true) [ints, int, hp, orI]
theorem order_ok (a b : Nt) : PureR Tryz.prog 113 [.agg a.row, .agg b.row] (int (cmpN a b)) := by
  refine pure_of_body mixed Tryz.func113 rfl call_113 ?_
  simp (decide := true) [Tryz.f113, Nt.row, int]
  refine scall_pure (by rfl) (by rfl) (compare_ok a.par b.par) (by simp) ?_
  simp (decide := true) [int]
  refine scall_pure (by rfl) (by rfl) (compare_ok a.fr b.fr) (by simp) ?_
  simp (decide := true) [int]
  refine scall_pure (by rfl) (by rfl) (compare_ok a.rank b.rank) (by simp) ?_
  simp (decide := true) [int, inOrder, rowsOf, rowOf, symCells]
  refine scall_pure (by rfl) (by rfl) (or_ok [cmpI a.par b.par, cmpI a.fr b.fr, cmpI a.rank b.rank] (by simp)) (by simp) ?_
  simp (decide := true) [cmpN, int]
theorem order_lays {blk off size : Nat} {w : World} {E : Nat → Prop} (h1 : Seen w E) (hb : E blk) : Go.Proofs.CmpLays Tryz.prog 113 #[] Nt.enc 7 cmpN blk off size w := by
  let d : Dr := ⟨true⟩
  exact @cmpLays_of d _ _ _ _ _ _ _ rfl _ _ nt_enc (fun x y => @order_ok d x y) _ _ _ _ _ h1 hb
end Go.V.Doc
namespace Go.V.Doc
open Go Go.Proofs
structure Tir where
  name : ByteArray
  kind : Int
  role : Int
  par : Int
  deriving Inhabited, DecidableEq
def Tir.row (t : Tir) : List D := [.str t.name, int t.kind, int t.role, int t.par]
def tiersD (l : List Tir) : D := .sl (l.map Tir.row)
structure Dc where
  id : Int
  name : ByteArray
  len : Int
  day : Int
  spk : List Int
  tiers : List Tir
  notes : List Nt
  deriving DecidableEq
def Dc.row (d : Dc) : List D := [int d.id, .str d.name, int d.len, int d.day, ints d.spk, tiersD d.tiers, notesD d.notes]
def docD (d : Dc) : D := .agg d.row
theorem take_snoc' {α : Type} {l : List α} {k : Nat} (h : k < l.length) : l.take (k + 1) = l.take k ++ [l[k]] := by rw [List.take_succ_eq_append_getElem h]
theorem take_all' {α : Type} {p : α → Prop} {l : List α} {k : Nat} (h : k < l.length) (hp : ∀ e ∈ l.take k, p e) (he : p l[k]) : ∀ e ∈ l.take (k + 1), p e := by
  rw [take_snoc' h]
  intro e hm
  rcases List.mem_append.1 hm with hm | hm
  · exact hp e hm
  · simp at hm; rw [hm]; exact he
@[simp] theorem bytes_toList {a b : ByteArray} : a.toList = b.toList ↔ a = b := by
  rw [← MapKept.bytes_beq, beq_toListBytes, beq_iff_eq]
structure Dc.fit (d : Dc) : Prop where
  notes : d.notes.length ≤ 320
  tiers : d.tiers.length ≤ 20
  spk : d.spk.length ≤ 100
def Nt.zero : Nt := ⟨0, 0, 0, 0, 0, 0, ⟨#[]⟩⟩
def getN (l : List Nt) (id : Int) : Nt × Bool := match l.find? (fun n => decide (n.id = id)) with
  | some n => (n, true)
  | none => (Nt.zero, false)
def getD' (r : Nt × Bool) : D := .tup [.agg r.1.row, .bool r.2]
theorem getN_hit {l : List Nt} {id : Int} {k : Nat} (h : k < l.length) (hp : ∀ e ∈ l.take k, e.id ≠ id) (he : l[k].id = id) : getN l id = (l[k], true) := by
  have : l.find? (fun n => decide (n.id = id)) = some l[k] := by
    rw [List.find?_eq_some_iff_append]
    refine ⟨by simpa using he, l.take k, l.drop (k + 1), by rw [List.getElem_cons_drop, List.take_append_drop], fun e hm => by simpa using hp e hm⟩
  simp [getN, this]
theorem getN_miss {l : List Nt} {id : Int} (hp : ∀ e ∈ l, e.id ≠ id) : getN l id = (Nt.zero, false) := by
  have : l.find? (fun n => decide (n.id = id)) = none := by rw [List.find?_eq_none]; intro e he; simpa using hp e he
  simp [getN, this]
abbrev docCells (d : Dc) : List Sym := [.d (int d.id), .d (.str d.name), .d (int d.len), .d (int d.day), .d (ints d.spk), .d (tiersD d.tiers), .d (notesD d.notes)]
abbrev noteCells (n : Nt) : List Sym := [.d (int n.id), .d (int n.tier), .d (int n.par), .d (int n.fr), .d (int n.tO), .d (int n.rank), .d (.str n.text)]
theorem get_ok (d : Dc) (id : Int) (hl : d.notes.length < 2^62) : PureR Tryz.prog 54 [docD d, int id] (getD' (getN d.notes id)) := by
  refine pure_of_body mixed Tryz.func54 rfl call_54 ?_
  simp (decide := true) [Tryz.f54, docD, Dc.row, notesD, tiersD, ints, int]
  refine loop_rule mixed (fun k : Nat => { n := 22, next := 2, slots := [(1, .d (int id)), (2, .bp 0 0), (4, .bp 1 0), (5, .d (.bool false)), (9, .d (notesD d.notes)), (10, .d (.int .i64 d.notes.length)), (11, .d (.int .i64 k))], own := [(0, .box 53 (docCells d)), (1, .box 72 (noteCells Nt.zero))] })
    (fun k => k ≤ d.notes.length ∧ ∀ e ∈ d.notes.take k, e.id ≠ id) (fun k => d.notes.length - k) 0 (by simp) (by simp (decide := true) [notesD, tiersD, ints, int, Nt.zero]) ?_
  intro k ⟨hk, hp⟩
  by_cases hlt : k < d.notes.length
  · have e1 : d.notes[k]? = some d.notes[k] := List.getElem?_eq_getElem hlt
    simp (decide := true) [notesD, tiersD, ints, int, Nt.row, Nt.zero, e1, hlt, I64]
    refine ⟨fun h => ?_, fun h => ⟨by omega, k + 1, ⟨hlt, take_all' hlt hp h⟩, by omega, by omega⟩⟩
    simp [getD', getN_hit hlt hp h, Nt.row, int]
  · have : k = d.notes.length := by omega
    subst this
    rw [List.take_length] at hp
    simp (decide := true) [notesD, tiersD, ints, int, getN_miss hp, getD', Nt.row, Nt.zero]
theorem refGet_ok (d : Dc) (id : Int) (hl : d.notes.length < 2^62) : PureR Tryz.prog 36 [docD d, int id] (getD' (getN d.notes id)) := by
  refine pure_of_body mixed Tryz.func36 rfl call_36 ?_
  simp (decide := true) [Tryz.f36, docD, Dc.row, notesD, tiersD, ints, int]
  refine loop_rule mixed (fun k : Nat => { n := 28, next := 2, slots := [(1, .d (int id)), (2, .bp 0 0), (4, .bp 1 0), (5, .d (.bool false)), (6, .d (.int .i64 k))], own := [(0, .box 53 (docCells d)), (1, .box 72 (noteCells Nt.zero))] })
    (fun k => k ≤ d.notes.length ∧ ∀ e ∈ d.notes.take k, e.id ≠ id) (fun k => d.notes.length - k) 0 (by simp) (by simp (decide := true) [notesD, tiersD, ints, int, Nt.zero]) ?_
  intro k ⟨hk, hp⟩
  by_cases hlt : k < d.notes.length
  · have e1 : d.notes[k]? = some d.notes[k] := List.getElem?_eq_getElem hlt
    simp (decide := true) [notesD, tiersD, ints, int, Nt.row, Nt.zero, e1, hlt, I64]
    refine ⟨fun h => ?_, fun h => ⟨by omega, k + 1, ⟨hlt, take_all' hlt hp h⟩, by omega, by omega⟩⟩
    simp [getD', getN_hit hlt hp h, Nt.row, int]
  · have : k = d.notes.length := by omega
    subst this
    rw [List.take_length] at hp
    simp (decide := true) [notesD, tiersD, ints, int, getN_miss hp, getD', Nt.row, Nt.zero]
theorem ints_ok (a b : List Int) (hb : b.length < 2^62) : PureR Tryz.prog 62 [ints a, ints b] (.bool (decide (a = b))) := by
  refine pure_of_body mixed Tryz.func62 rfl call_62 ?_
  simp [Tryz.f62, ints]
  refine ⟨fun h e => h (by rw [e]), fun h => ?_⟩
  refine loop_rule mixed (fun k : Nat => { n := 26, next := 0, slots := [(0, .d (ints a)), (1, .d (ints b)), (5, .d (.int .i64 k))], own := [] })
    (fun k => k ≤ a.length ∧ a.take k = b.take k) (fun k => a.length - k) 0 (by simp) (by simp [ints]) ?_
  intro k ⟨hk, hp⟩
  have h : a.length = b.length := by omega
  by_cases hlt : k < a.length
  · have e1 : a[k]? = some a[k] := List.getElem?_eq_getElem hlt
    have e2 : b[k]? = some (b[k]'(by omega)) := List.getElem?_eq_getElem (by omega)
    have hlt' : k < b.length := by omega
    simp (decide := true) [ints, int, e1, e2, hlt, hlt', I64]
    refine ⟨fun hne e => by subst e; simp at hne, fun he => ⟨by omega, k + 1, ⟨hlt, ?_⟩, by omega, by omega⟩⟩
    rw [take_snoc' hlt, take_snoc' hlt', hp, he]
  · have : k = a.length := by omega
    subst this
    simp (decide := true) [ints]
    rw [List.take_length, h, List.take_length] at hp
    exact hp
end Go.V.Doc
namespace Go.V.Doc
open Go Go.Proofs
def IntOk (n : Int) : Prop := (Lit.int .i64 n).wf = true
theorem IntOk.I64 {n : Int} (h : IntOk n) : I64 n := by
  have := bounds_i64 h
  unfold Go.V.I64; omega
def IntsOk (l : List Int) : Prop := l.length ≤ maxLen ∧ ∀ n ∈ l, IntOk n
theorem ints_decode {d : D} (h : FitD d (.sl [.int .i64])) : ∃ l, d = ints l ∧ IntsOk l := by
  obtain ⟨xs, rfl, h1, h2⟩ := FitD.sl_decode (row := fun n => [int n]) (good := IntOk) (fun r hr => by
    obtain ⟨_, _, rfl, g1, r1⟩ := hr.cons_decode
    obtain rfl := r1.nil_decode
    obtain ⟨n, rfl, hn⟩ := g1.int_decode
    exact ⟨n, rfl, hn⟩) h
  exact ⟨xs, rfl, h1, h2⟩
theorem int_decode1 {d : D} (h : FitD d (.int .i64)) : ∃ n, d = int n ∧ IntOk n := h.int_decode
abbrev tierSh : List Sh := [.str, .int .i64, .int .i64, .int .i64]
abbrev noteSh : List Sh := [.int .i64, .int .i64, .int .i64, .int .i64, .int .i64, .int .i64, .str]
abbrev docSh : List Sh := [.int .i64, .str, .int .i64, .int .i64, .sl [.int .i64], .sl tierSh, .sl noteSh]
def Tir.ok (t : Tir) : Prop := t.name.size ≤ maxLen ∧ IntOk t.kind ∧ IntOk t.role ∧ IntOk t.par
structure Nt.ok (n : Nt) : Prop where
  id : IntOk n.id
  tier : IntOk n.tier
  par : IntOk n.par
  fr : IntOk n.fr
  tO : IntOk n.tO
  rank : IntOk n.rank
  text : n.text.size ≤ maxLen
structure Dc.ok (d : Dc) : Prop where
  id : IntOk d.id
  name : d.name.size ≤ maxLen
  len : IntOk d.len
  day : IntOk d.day
  spk : IntsOk d.spk
  tiers : d.tiers.length ≤ maxLen ∧ ∀ t ∈ d.tiers, t.ok
  notes : d.notes.length ≤ maxLen ∧ ∀ n ∈ d.notes, n.ok
theorem tier_decode {r : List D} (h : FitDs r tierSh) : ∃ t : Tir, r = t.row ∧ t.ok := by
  obtain ⟨_, _, rfl, g1, r1⟩ := h.cons_decode
  obtain ⟨_, _, rfl, g2, r2⟩ := r1.cons_decode
  obtain ⟨_, _, rfl, g3, r3⟩ := r2.cons_decode
  obtain ⟨_, _, rfl, g4, r4⟩ := r3.cons_decode
  obtain rfl := r4.nil_decode
  obtain ⟨a, rfl, wa⟩ := g1.str_decode
  obtain ⟨b, rfl, wb⟩ := g2.int_decode
  obtain ⟨c, rfl, wc⟩ := g3.int_decode
  obtain ⟨e, rfl, we⟩ := g4.int_decode
  exact ⟨⟨a, b, c, e⟩, rfl, wa, wb, wc, we⟩
theorem note_decode {r : List D} (h : FitDs r noteSh) : ∃ n : Nt, r = n.row ∧ n.ok := by
  obtain ⟨_, _, rfl, g1, r1⟩ := h.cons_decode
  obtain ⟨_, _, rfl, g2, r2⟩ := r1.cons_decode
  obtain ⟨_, _, rfl, g3, r3⟩ := r2.cons_decode
  obtain ⟨_, _, rfl, g4, r4⟩ := r3.cons_decode
  obtain ⟨_, _, rfl, g5, r5⟩ := r4.cons_decode
  obtain ⟨_, _, rfl, g6, r6⟩ := r5.cons_decode
  obtain ⟨_, _, rfl, g7, r7⟩ := r6.cons_decode
  obtain rfl := r7.nil_decode
  obtain ⟨a, rfl, wa⟩ := g1.int_decode
  obtain ⟨b, rfl, wb⟩ := g2.int_decode
  obtain ⟨c, rfl, wc⟩ := g3.int_decode
  obtain ⟨e, rfl, we⟩ := g4.int_decode
  obtain ⟨f, rfl, wf⟩ := g5.int_decode
  obtain ⟨g, rfl, wg⟩ := g6.int_decode
  obtain ⟨s, rfl, ws⟩ := g7.str_decode
  exact ⟨⟨a, b, c, e, f, g, s⟩, rfl, wa, wb, wc, we, wf, wg, ws⟩
theorem doc_decode {l : List D} (h : FitDs l docSh) : ∃ d : Dc, D.agg l = docD d ∧ d.ok := by
  obtain ⟨_, _, rfl, g1, r1⟩ := h.cons_decode
  obtain ⟨_, _, rfl, g2, r2⟩ := r1.cons_decode
  obtain ⟨_, _, rfl, g3, r3⟩ := r2.cons_decode
  obtain ⟨_, _, rfl, g4, r4⟩ := r3.cons_decode
  obtain ⟨_, _, rfl, g5, r5⟩ := r4.cons_decode
  obtain ⟨_, _, rfl, g6, r6⟩ := r5.cons_decode
  obtain ⟨_, _, rfl, g7, r7⟩ := r6.cons_decode
  obtain rfl := r7.nil_decode
  obtain ⟨a, rfl, wa⟩ := g1.int_decode
  obtain ⟨b, rfl, wb⟩ := g2.str_decode
  obtain ⟨c, rfl, wc⟩ := g3.int_decode
  obtain ⟨e, rfl, we⟩ := g4.int_decode
  obtain ⟨f, rfl, wf⟩ := ints_decode g5
  obtain ⟨ts, rfl, wt1, wt2⟩ := FitD.sl_decode (row := Tir.row) (good := Tir.ok) (fun r hr => tier_decode hr) g6
  obtain ⟨ns, rfl, wn1, wn2⟩ := FitD.sl_decode (row := Nt.row) (good := Nt.ok) (fun r hr => note_decode hr) g7
  exact ⟨⟨a, b, c, e, f, ts, ns⟩, rfl, wa, wb, wc, we, wf, ⟨wt1, wt2⟩, wn1, wn2⟩
end Go.V.Doc
namespace Go.V
open Go Go.Proofs
def validB (s : ByteArray) : Bool := Lib.validD s.data.toList
end Go.V
namespace Go.V.Doc
open Go Go.Proofs
def byteN (s : ByteArray) (k : Nat) : Nat := (s.data.toList.getD k 0).toNat
theorem byteAt_nat (s : ByteArray) (k : Nat) : byteAt s (k : Int) = (byteN s k : Int) := by simp [byteAt, byteN]
def badByte (b : Nat) : Bool := decide (b < 32) || decide (b = 127)
def badText (s : ByteArray) : Bool := (List.range s.size).any fun k => badByte (byteN s k)
def textE (s : ByteArray) : Int := if 200 < s.size then 5 else if validB s = true then (if badText s = true then 3 else 0) else 3
end Go.V.Doc
namespace Go.V.Doc
open Go Go.Proofs
def nmS (b : Nat) : Bool := decide (97 ≤ b) && decide (b ≤ 122)
def nmC (b : Nat) : Bool := nmS b || (decide (48 ≤ b) && decide (b ≤ 57)) || decide (b = 45) || decide (b = 95)
def nameP (s : ByteArray) : Bool := decide (1 ≤ s.size) && decide (s.size ≤ 32) && nmS (byteN s 0) && (List.range s.size).all fun k => nmC (byteN s k)
theorem strRows_len (s : ByteArray) : (strRows s).length = s.size := by unfold strRows; rw [List.length_map]; rfl
theorem nm_cases (b : Nat) : (97 ≤ b ∧ b ≤ 122) ∨ (48 ≤ b ∧ b ≤ 57) ∨ b = 45 ∨ b = 95 ∨ (b < 48 ∧ b ≠ 45) ∨ (57 < b ∧ b < 97 ∧ b ≠ 95) ∨ 122 < b := by omega
theorem refName_ok (s : ByteArray) (hs : s.size ≤ 9223372036854775807) : PureR Tryz.prog 143 [.str s] (.bool (nameP s)) := by
  refine pure_of_body mixed Tryz.func143 rfl call_143 ?_
  simp (decide := true) [Tryz.f143]
  refine loop_rule mixed (fun k : Nat => { n := 59, next := 0, slots := [(0, .d (.str s)), (3, .d (.int .i64 k))], own := [] })
    (fun k => k ≤ s.size ∧ ∀ j, j < k → (nmC (byteN s j) = true ∧ (j = 0 → nmS (byteN s 0) = true))) (fun k => s.size - k) 0 (by simp) (by simp (decide := true) [int]) ?_
  intro k ⟨hk, hp⟩
  by_cases hlt : k < s.size
  · have hlt' : (k : Int) < s.size := by omega
    have e0 : byteAt s (k : Int) = (byteN s k : Int) := byteAt_nat s k
    have good : nmC (byteN s k) = true → (k = 0 → nmS (byteN s k) = true) → ∀ j, j < k + 1 → (nmC (byteN s j) = true ∧ (j = 0 → nmS (byteN s 0) = true)) := by
      intro hb h0 j hj
      rcases Nat.lt_or_ge j k with hj' | hj'
      · exact hp j hj'
      · have : j = k := by omega
        subst this; exact ⟨hb, fun e => by subst e; exact h0 rfl⟩
    have bad : nmC (byteN s k) = false → nameP s = false := fun hb => by
      have : (List.range s.size).all (fun k => nmC (byteN s k)) = false := by rw [List.all_eq_false]; exact ⟨k, by simpa using hlt, by simp [hb]⟩
      simp only [nameP, this, Bool.and_false]
    have bad0 : k = 0 → nmS (byteN s k) = false → nameP s = false := fun h0 hb => by
      subst h0
      simp only [nameP, hb, Bool.and_false, Bool.false_and]
    generalize byteN s k = b at e0 good bad bad0
    by_cases hs : 97 ≤ b ∧ b ≤ 122
    · obtain ⟨c1, c2⟩ := hs
      have q1 : (97 : Int) ≤ b := by omega
      have q2 : (b : Int) ≤ 122 := by omega
      have hS : nmS b = true := by simp [nmS]; omega
      simp (decide := true) [hlt, hlt', e0, q1, q2, I64]
      exact ⟨by omega, k + 1, ⟨by omega, good (by simp [nmC, hS]) (fun _ => hS)⟩, by omega, by omega⟩
    · have hS : nmS b = false := by simp [nmS]; omega
      by_cases hk0 : k = 0
      · subst hk0
        have hb := bad0 rfl hS
        have e0' : byteAt s 0 = (b : Int) := e0
        by_cases q1 : (97 : Int) ≤ b
        · have q2 : ¬ (b : Int) ≤ 122 := by omega
          simp (decide := true) [hlt, hlt', e0', q1, q2, hb]
        · simp (decide := true) [hlt, hlt', e0', q1, hb]
      · have hk0' : ¬ (k : Int) = 0 := by omega
        have key : ∀ (r : Bool), nmC b = r → (decide (97 ≤ (b : Int)) && decide ((b : Int) ≤ 122)) = false := fun _ _ => by simp; omega
        by_cases q1 : (97 : Int) ≤ b
        · have q2 : ¬ (b : Int) ≤ 122 := by omega
          have q3 : ¬ (b : Int) = 45 := by omega
          have q4 : ¬ (b : Int) = 95 := by omega
          have q5 : ¬ (b : Int) < 48 := by omega
          have q6 : (57 : Int) < b := by omega
          have hb := bad (by simp [nmC, hS]; omega)
          simp (decide := true) [hlt, hlt', e0, q1, q2, q3, q4, q5, q6, hk0, hk0', hb]
        · rcases nm_cases b with ⟨c1, c2⟩ | ⟨c1, c2⟩ | rfl | rfl | ⟨c1, c2⟩ | ⟨c1, c2, c3⟩ | c1
          · omega
          · have q3 : ¬ (b : Int) = 45 := by omega
            have q4 : ¬ (b : Int) = 95 := by omega
            have q5 : ¬ (b : Int) < 48 := by omega
            have q6 : ¬ (57 : Int) < b := by omega
            simp (decide := true) [hlt, hlt', e0, q1, q3, q4, q5, q6, hk0, hk0', I64]
            exact ⟨by omega, k + 1, ⟨by omega, good (by simp [nmC]; omega) (fun h => absurd h hk0)⟩, by omega, by omega⟩
          · simp (decide := true) [hlt, hlt', e0, hk0, hk0', I64]
            exact ⟨by omega, k + 1, ⟨by omega, good (by decide) (fun h => absurd h hk0)⟩, by omega, by omega⟩
          · simp (decide := true) [hlt, hlt', e0, hk0, hk0', I64]
            exact ⟨by omega, k + 1, ⟨by omega, good (by decide) (fun h => absurd h hk0)⟩, by omega, by omega⟩
          · have q3 : ¬ (b : Int) = 45 := by omega
            have q4 : ¬ (b : Int) = 95 := by omega
            have q5 : (b : Int) < 48 := by omega
            have hb := bad (by simp [nmC, hS]; omega)
            simp (decide := true) [hlt, hlt', e0, q1, q3, q4, q5, hk0, hk0', hb]
          · have q3 : ¬ (b : Int) = 45 := by omega
            have q4 : ¬ (b : Int) = 95 := by omega
            have q5 : ¬ (b : Int) < 48 := by omega
            have q6 : (57 : Int) < b := by omega
            have hb := bad (by simp [nmC, hS]; omega)
            simp (decide := true) [hlt, hlt', e0, q1, q3, q4, q5, q6, hk0, hk0', hb]
          · omega
  · have : k = s.size := by omega
    subst this
    have hall : (List.range s.size).all (fun k => nmC (byteN s k)) = true := by
      rw [List.all_eq_true]; intro j hj; exact (hp j (by simpa using hj)).1
    by_cases h1 : 1 ≤ s.size
    · have h1' : (1 : Int) ≤ s.size := by omega
      have hS := (hp 0 (by omega)).2 rfl
      simp (decide := true) [h1', nameP, hall, hS, h1]
      omega
    · have h1' : ¬ (1 : Int) ≤ s.size := by omega
      simp (decide := true) [h1', nameP, h1]
end Go.V.Doc
namespace Go.V.Doc
open Go Go.Proofs
def alK (k : Int) : Bool := decide (k = 0) || decide (k = 1) || decide (k = 2)
def alT (l : List Tir) (i : Int) : Bool := decide (0 ≤ i) && decide (i < l.length) && alK (l[i.toNat]?.getD default).kind
def findT (l : List Tir) (name : ByteArray) : Bool := l.any fun t => decide (t.name = name)
def roleT (l : List Tir) (role : Int) : Bool := !decide (role = 0) && l.any fun t => decide (t.role = role)
def rolesE (pr tk tr : Int) : Int :=
  if tr = 1 then (if tk = 0 then 0 else 14) else if tr = 2 then (if pr = 1 then 0 else 13) else if tr = 3 then (if tk = 3 then (if pr = 2 then 0 else 13) else 14)
  else if tr = 4 then (if tk = 4 then (if pr = 3 then 0 else 13) else 14) else if tr = 5 then (if tk = 4 then (if pr = 1 then 0 else 13) else 14) else 0
def oneE (before : List Tir) (t : Tir) : Int :=
  if nameP t.name = false then 7 else if findT before t.name = true then 8 else if t.kind < 0 ∨ 4 < t.kind then 14 else if t.role < 0 ∨ 5 < t.role then 2
  else if roleT before t.role = true then 8 else if t.kind = 0 then (if t.par = -1 then rolesE (-1) t.kind t.role else 13)
  else if t.par < 0 ∨ before.length ≤ t.par then 13
  else if alK t.kind = true ∧ alK (before[t.par.toNat]?.getD default).kind = false then 13 else rolesE (before[t.par.toNat]?.getD default).role t.kind t.role
def tiersGo (l : List Tir) : Nat → Nat → Int
  | 0, _ => 0
  | n + 1, i => if h : i < l.length then (if oneE (l.take i) l[i] = 0 then tiersGo l n (i + 1) else oneE (l.take i) l[i]) else 0
def tiersE (l : List Tir) : Int := if 12 < l.length then 11 else tiersGo l l.length 0
end Go.V.Doc
namespace Go.V.Doc
open Go Go.Proofs
theorem timed_ok (k : Int) : PureR Tryz.prog 189 [int k] (.bool (alK k)) := by
  refine pure_of_body mixed Tryz.func189 rfl call_189 ?_
  by_cases h0 : k = 0
  · subst h0; simp (decide := true) [Tryz.f189, int, alK]
  by_cases h1 : k = 1
  · subst h1; simp (decide := true) [Tryz.f189, int, alK]
  by_cases h2 : k = 2
  · subst h2; simp (decide := true) [Tryz.f189, int, alK]
  simp (decide := true) [Tryz.f189, int, alK, h0, h1, h2]
def kindR (r : Int) : Int := if r = 1 then 0 else if r = 3 then 3 else if r = 4 then 4 else if r = 5 then 4 else -1
def overR (r : Int) : Int := if r = 2 then 1 else if r = 5 then 1 else if r = 3 then 2 else if r = 4 then 3 else -1
theorem kindR_ok (r : Int) : PureR Tryz.prog 190 [int r] (int (kindR r)) := by
  refine pure_of_body mixed Tryz.func190 rfl call_190 ?_
  by_cases h1 : r = 1
  · subst h1; simp (decide := true) [Tryz.f190, int, kindR]
  by_cases h3 : r = 3
  · subst h3; simp (decide := true) [Tryz.f190, int, kindR]
  by_cases h4 : r = 4
  · subst h4; simp (decide := true) [Tryz.f190, int, kindR]
  by_cases h5 : r = 5
  · subst h5; simp (decide := true) [Tryz.f190, int, kindR]
  simp (decide := true) [Tryz.f190, int, kindR, h1, h3, h4, h5]
theorem overR_ok (r : Int) : PureR Tryz.prog 191 [int r] (int (overR r)) := by
  refine pure_of_body mixed Tryz.func191 rfl call_191 ?_
  by_cases h2 : r = 2
  · subst h2; simp (decide := true) [Tryz.f191, int, overR]
  by_cases h5 : r = 5
  · subst h5; simp (decide := true) [Tryz.f191, int, overR]
  by_cases h3 : r = 3
  · subst h3; simp (decide := true) [Tryz.f191, int, overR]
  by_cases h4 : r = 4
  · subst h4; simp (decide := true) [Tryz.f191, int, overR]
  simp (decide := true) [Tryz.f191, int, overR, h2, h5, h3, h4]
theorem any_take {α : Type} {l : List α} {p : α → Bool} {k : Nat} (h : k < l.length) : (l.take (k + 1)).any p = ((l.take k).any p || p l[k]) := by
  rw [List.take_succ_eq_append_getElem h, List.any_append]; simp
set_option maxHeartbeats 8000000 in
theorem refTier_ok (l : List Tir) (i : Nat) (hi : i < l.length) (hl : l.length < 2^62) (hs : ∀ t ∈ l, t.name.size ≤ 9223372036854775807) : PureR Tryz.prog 131 [tiersD l, int i] (int (oneE (l.take i) l[i])) := by
  refine pure_of_body mixed Tryz.func131 rfl call_131 ?_
  have hi' : (i : Int) < l.length := by omega
  have ei : l[i]? = some l[i] := List.getElem?_eq_getElem hi
  have hlen : (l.take i).length = i := by rw [List.length_take]; omega
  have hsz := hs _ (List.getElem_mem hi)
  obtain ⟨t, et⟩ : ∃ t, l[i] = t := ⟨_, rfl⟩
  rw [et] at hsz ei ⊢
  obtain ⟨nm, kd, rl, pr⟩ := t
  simp (decide := true) [Tryz.f131, tiersD, Tir.row, int, ei, et, hi, hi']
  refine ECall.pure (by rfl) (refName_ok nm hsz) (by simp) ?_
  by_cases hn : nameP nm = true
  case neg => simp (decide := true) [hn, oneE, int]
  simp (decide := true) [hn, int]
  refine loop_rule mixed (fun k : Nat => { n := 136, next := 1, slots := [(0, .d (tiersD l)), (1, .d (int i)), (4, .d (int 0)), (5, .bp 0 0), (6, .d (.int .i64 k))], own := [(0, .box 74 [.d (.str nm), .d (int kd), .d (int rl), .d (int pr)])] })
    (fun k => k ≤ i ∧ findT (l.take k) nm = false) (fun k => i - k) 0 (by simp [findT]) (by simp (decide := true) [tiersD, int]) ?_
  rintro k ⟨hk, hp⟩
  by_cases hlt : k < i
  · have hlt' : (k : Int) < i := by omega
    have hkl : k < l.length := by omega
    have hkl' : (k : Int) < l.length := by omega
    have e1 : l[k]? = some l[k] := List.getElem?_eq_getElem hkl
    have hst : findT (l.take (k + 1)) nm = decide (l[k].name = nm) := by unfold findT at hp ⊢; rw [any_take hkl, hp, Bool.false_or]
    by_cases hq : l[k].name = nm
    · have hf : findT (l.take i) nm = true := by
        unfold findT; rw [List.any_eq_true]
        exact ⟨l[k], by rw [List.mem_take_iff_getElem]; exact ⟨k, by omega, rfl⟩, by simp [hq]⟩
      simp (decide := true) [tiersD, Tir.row, int, e1, hkl, hkl', hlt', hq, oneE, hn, hf]
    · simp (decide := true) [tiersD, Tir.row, int, e1, hkl, hkl', hlt', hq, I64]
      exact ⟨by omega, k + 1, ⟨by omega, by rw [hst]; simp [hq]⟩, by omega, by omega⟩
  have : k = i := by omega
  subst this
  by_cases k1 : kd < 0
  · simp (decide := true) [int, tiersD, k1, oneE, hn, hp]
  by_cases k2 : 4 < kd
  · simp (decide := true) [int, tiersD, k1, k2, oneE, hn, hp]
  by_cases r1 : rl < 0
  · simp (decide := true) [int, tiersD, k1, k2, r1, oneE, hn, hp]
  by_cases r2 : 5 < rl
  · simp (decide := true) [int, tiersD, k1, k2, r1, r2, oneE, hn, hp]
  simp (decide := true) [int, tiersD, k1, k2, r1, r2]
  refine loop_rule mixed (fun j : Nat => { n := 136, next := 1, slots := [(0, .d (tiersD l)), (1, .d (int k)), (4, .d (int 0)), (5, .bp 0 0), (7, .d (.int .i64 j))], own := [(0, .box 74 [.d (.str nm), .d (int kd), .d (int rl), .d (int pr)])] })
    (fun j => j ≤ k ∧ roleT (l.take j) rl = false) (fun j => k - j) 0 (by simp [roleT]) (by simp (decide := true) [tiersD, int]) ?_
  rintro j ⟨hj, hr⟩
  by_cases hlt : j < k
  · have hlt' : (j : Int) < k := by omega
    have hjl : j < l.length := by omega
    have hjl' : (j : Int) < l.length := by omega
    have e1 : l[j]? = some l[j] := List.getElem?_eq_getElem hjl
    by_cases z : rl = 0
    · subst z
      simp (decide := true) [tiersD, Tir.row, int, e1, hjl, hjl', hlt', I64]
      exact ⟨by omega, j + 1, ⟨by omega, by simp [roleT]⟩, by omega, by omega⟩
    have hst : roleT (l.take (j + 1)) rl = decide (l[j].role = rl) := by
      unfold roleT at hr ⊢
      simp only [z, decide_false, Bool.not_false, Bool.true_and] at hr ⊢
      rw [any_take hjl, hr, Bool.false_or]
    by_cases hq : l[j].role = rl
    · have hf : roleT (l.take k) rl = true := by
        unfold roleT
        simp only [z, decide_false, Bool.not_false, Bool.true_and]
        rw [List.any_eq_true]
        exact ⟨l[j], by rw [List.mem_take_iff_getElem]; exact ⟨j, by omega, rfl⟩, by simp [hq]⟩
      simp (decide := true) [tiersD, Tir.row, int, e1, hjl, hjl', hlt', hq, oneE, hn, hp, hf, k1, k2, r1, r2, z]
    · simp (decide := true) [tiersD, Tir.row, int, e1, hjl, hjl', hlt', hq, I64, z]
      exact ⟨by omega, j + 1, ⟨by omega, by rw [hst]; simp [hq]⟩, by omega, by omega⟩
  have : j = k := by omega
  subst this
  have hE : oneE (l.take j) ⟨nm, kd, rl, pr⟩ = if kd = 0 then (if pr = -1 then rolesE (-1) kd rl else 13) else if pr < 0 ∨ (j : Int) ≤ pr then 13 else if alK kd = true ∧ alK ((l.take j)[pr.toNat]?.getD default).kind = false then 13 else rolesE ((l.take j)[pr.toNat]?.getD default).role kd rl := by
    simp only [oneE]
    rw [if_neg (by simp [hn]), if_neg (by simp [hp]), if_neg (by omega), if_neg (by omega), if_neg (by simp [hr]), hlen]
  rw [hE]
  clear hE hp hr hn hlen
  by_cases k0 : kd = 0
  · subst k0
    by_cases p0 : pr = -1
    case neg =>
      simp (decide := true) [int, tiersD, Tir.row, p0]
    subst p0
    rcases (by omega : rl = 0 ∨ rl = 1 ∨ rl = 2 ∨ rl = 3 ∨ rl = 4 ∨ rl = 5) with rfl | rfl | rfl | rfl | rfl | rfl
    · skip
      simp (decide := true) [int, tiersD, Tir.row, rolesE, kindR, overR]
      repeat first
        | (refine scall_pure (by rfl) (by rfl) (kindR_ok _) (by simp [int]) ?_; simp (decide := true) [int, tiersD, Tir.row, rolesE, kindR, overR])
        | (refine scall_pure (by rfl) (by rfl) (overR_ok _) (by simp [int]) ?_; simp (decide := true) [int, tiersD, Tir.row, rolesE, kindR, overR])
        | (refine scall_pure (by rfl) (by rfl) (timed_ok _) (by simp [int]) ?_; simp (decide := true) [int, tiersD, Tir.row, rolesE, kindR, overR])
        | (refine ECall.pure (by rfl) (timed_ok _) (by simp [int]) ?_; simp (decide := true) [int, tiersD, Tir.row, rolesE, kindR, overR])
    · skip
      simp (decide := true) [int, tiersD, Tir.row, rolesE, kindR, overR]
      repeat first
        | (refine scall_pure (by rfl) (by rfl) (kindR_ok _) (by simp [int]) ?_; simp (decide := true) [int, tiersD, Tir.row, rolesE, kindR, overR])
        | (refine scall_pure (by rfl) (by rfl) (overR_ok _) (by simp [int]) ?_; simp (decide := true) [int, tiersD, Tir.row, rolesE, kindR, overR])
        | (refine scall_pure (by rfl) (by rfl) (timed_ok _) (by simp [int]) ?_; simp (decide := true) [int, tiersD, Tir.row, rolesE, kindR, overR])
        | (refine ECall.pure (by rfl) (timed_ok _) (by simp [int]) ?_; simp (decide := true) [int, tiersD, Tir.row, rolesE, kindR, overR])
    · skip
      simp (decide := true) [int, tiersD, Tir.row, rolesE, kindR, overR]
      repeat first
        | (refine scall_pure (by rfl) (by rfl) (kindR_ok _) (by simp [int]) ?_; simp (decide := true) [int, tiersD, Tir.row, rolesE, kindR, overR])
        | (refine scall_pure (by rfl) (by rfl) (overR_ok _) (by simp [int]) ?_; simp (decide := true) [int, tiersD, Tir.row, rolesE, kindR, overR])
        | (refine scall_pure (by rfl) (by rfl) (timed_ok _) (by simp [int]) ?_; simp (decide := true) [int, tiersD, Tir.row, rolesE, kindR, overR])
        | (refine ECall.pure (by rfl) (timed_ok _) (by simp [int]) ?_; simp (decide := true) [int, tiersD, Tir.row, rolesE, kindR, overR])
    · skip
      simp (decide := true) [int, tiersD, Tir.row, rolesE, kindR, overR]
      repeat first
        | (refine scall_pure (by rfl) (by rfl) (kindR_ok _) (by simp [int]) ?_; simp (decide := true) [int, tiersD, Tir.row, rolesE, kindR, overR])
        | (refine scall_pure (by rfl) (by rfl) (overR_ok _) (by simp [int]) ?_; simp (decide := true) [int, tiersD, Tir.row, rolesE, kindR, overR])
        | (refine scall_pure (by rfl) (by rfl) (timed_ok _) (by simp [int]) ?_; simp (decide := true) [int, tiersD, Tir.row, rolesE, kindR, overR])
        | (refine ECall.pure (by rfl) (timed_ok _) (by simp [int]) ?_; simp (decide := true) [int, tiersD, Tir.row, rolesE, kindR, overR])
    · skip
      simp (decide := true) [int, tiersD, Tir.row, rolesE, kindR, overR]
      repeat first
        | (refine scall_pure (by rfl) (by rfl) (kindR_ok _) (by simp [int]) ?_; simp (decide := true) [int, tiersD, Tir.row, rolesE, kindR, overR])
        | (refine scall_pure (by rfl) (by rfl) (overR_ok _) (by simp [int]) ?_; simp (decide := true) [int, tiersD, Tir.row, rolesE, kindR, overR])
        | (refine scall_pure (by rfl) (by rfl) (timed_ok _) (by simp [int]) ?_; simp (decide := true) [int, tiersD, Tir.row, rolesE, kindR, overR])
        | (refine ECall.pure (by rfl) (timed_ok _) (by simp [int]) ?_; simp (decide := true) [int, tiersD, Tir.row, rolesE, kindR, overR])
    · skip
      simp (decide := true) [int, tiersD, Tir.row, rolesE, kindR, overR]
      repeat first
        | (refine scall_pure (by rfl) (by rfl) (kindR_ok _) (by simp [int]) ?_; simp (decide := true) [int, tiersD, Tir.row, rolesE, kindR, overR])
        | (refine scall_pure (by rfl) (by rfl) (overR_ok _) (by simp [int]) ?_; simp (decide := true) [int, tiersD, Tir.row, rolesE, kindR, overR])
        | (refine scall_pure (by rfl) (by rfl) (timed_ok _) (by simp [int]) ?_; simp (decide := true) [int, tiersD, Tir.row, rolesE, kindR, overR])
        | (refine ECall.pure (by rfl) (timed_ok _) (by simp [int]) ?_; simp (decide := true) [int, tiersD, Tir.row, rolesE, kindR, overR])
  by_cases p0 : pr < 0
  · simp (decide := true) [int, tiersD, Tir.row, k0, p0]
  by_cases p1 : (j : Int) ≤ pr
  · simp (decide := true) [int, tiersD, Tir.row, k0, p0, p1]
  obtain ⟨q, rfl⟩ : ∃ q : Nat, pr = q := ⟨pr.toNat, by omega⟩
  have hq : q < l.length := by omega
  have hq' : (q : Int) < l.length := by omega
  obtain ⟨u, eu'⟩ : ∃ u, l[q] = u := ⟨_, rfl⟩
  have eu : l[q]? = some u := by rw [List.getElem?_eq_getElem hq, eu']
  have et : (l.take j)[(q : Int).toNat]? = some u := by rw [Int.toNat_natCast, List.getElem?_take, if_pos (by omega), eu]
  obtain ⟨un, uk, ur, up⟩ := u
  rw [et]
  simp only [Option.getD_some]
  by_cases a1 : alK kd = true
  · by_cases a2 : alK uk = true
    case neg =>
      simp (decide := true) [int, tiersD, Tir.row, k0, p0, p1, hq, hq', eu, eu', a1, a2, kindR, overR]
      repeat first
        | (refine scall_pure (by rfl) (by rfl) (kindR_ok _) (by simp [int]) ?_; simp (decide := true) [int, tiersD, Tir.row, k0, p0, p1, hq, hq', eu, eu', a1, a2, kindR, overR])
        | (refine scall_pure (by rfl) (by rfl) (overR_ok _) (by simp [int]) ?_; simp (decide := true) [int, tiersD, Tir.row, k0, p0, p1, hq, hq', eu, eu', a1, a2, kindR, overR])
        | (refine scall_pure (by rfl) (by rfl) (timed_ok _) (by simp [int]) ?_; simp (decide := true) [int, tiersD, Tir.row, k0, p0, p1, hq, hq', eu, eu', a1, a2, kindR, overR])
        | (refine ECall.pure (by rfl) (timed_ok _) (by simp [int]) ?_; simp (decide := true) [int, tiersD, Tir.row, k0, p0, p1, hq, hq', eu, eu', a1, a2, kindR, overR])
    rcases (by omega : rl = 0 ∨ rl = 1 ∨ rl = 2 ∨ rl = 3 ∨ rl = 4 ∨ rl = 5) with rfl | rfl | rfl | rfl | rfl | rfl
    · skip
      simp (decide := true) [int, tiersD, Tir.row, k0, p0, p1, hq, hq', eu, eu', a1, a2, rolesE, kindR, overR]
      repeat first
        | (refine scall_pure (by rfl) (by rfl) (kindR_ok _) (by simp [int]) ?_; simp (decide := true) [int, tiersD, Tir.row, k0, p0, p1, hq, hq', eu, eu', a1, a2, rolesE, kindR, overR])
        | (refine scall_pure (by rfl) (by rfl) (overR_ok _) (by simp [int]) ?_; simp (decide := true) [int, tiersD, Tir.row, k0, p0, p1, hq, hq', eu, eu', a1, a2, rolesE, kindR, overR])
        | (refine scall_pure (by rfl) (by rfl) (timed_ok _) (by simp [int]) ?_; simp (decide := true) [int, tiersD, Tir.row, k0, p0, p1, hq, hq', eu, eu', a1, a2, rolesE, kindR, overR])
        | (refine ECall.pure (by rfl) (timed_ok _) (by simp [int]) ?_; simp (decide := true) [int, tiersD, Tir.row, k0, p0, p1, hq, hq', eu, eu', a1, a2, rolesE, kindR, overR])
    · skip
      simp (decide := true) [int, tiersD, Tir.row, k0, p0, p1, hq, hq', eu, eu', a1, a2, rolesE, kindR, overR]
      repeat first
        | (refine scall_pure (by rfl) (by rfl) (kindR_ok _) (by simp [int]) ?_; simp (decide := true) [int, tiersD, Tir.row, k0, p0, p1, hq, hq', eu, eu', a1, a2, rolesE, kindR, overR])
        | (refine scall_pure (by rfl) (by rfl) (overR_ok _) (by simp [int]) ?_; simp (decide := true) [int, tiersD, Tir.row, k0, p0, p1, hq, hq', eu, eu', a1, a2, rolesE, kindR, overR])
        | (refine scall_pure (by rfl) (by rfl) (timed_ok _) (by simp [int]) ?_; simp (decide := true) [int, tiersD, Tir.row, k0, p0, p1, hq, hq', eu, eu', a1, a2, rolesE, kindR, overR])
        | (refine ECall.pure (by rfl) (timed_ok _) (by simp [int]) ?_; simp (decide := true) [int, tiersD, Tir.row, k0, p0, p1, hq, hq', eu, eu', a1, a2, rolesE, kindR, overR])
    · skip
      by_cases o1 : ur = 1
      · skip
        simp (decide := true) [int, tiersD, Tir.row, k0, p0, p1, hq, hq', eu, eu', a1, a2, rolesE, o1, kindR, overR]
        repeat first
          | (refine scall_pure (by rfl) (by rfl) (kindR_ok _) (by simp [int]) ?_; simp (decide := true) [int, tiersD, Tir.row, k0, p0, p1, hq, hq', eu, eu', a1, a2, rolesE, o1, kindR, overR])
          | (refine scall_pure (by rfl) (by rfl) (overR_ok _) (by simp [int]) ?_; simp (decide := true) [int, tiersD, Tir.row, k0, p0, p1, hq, hq', eu, eu', a1, a2, rolesE, o1, kindR, overR])
          | (refine scall_pure (by rfl) (by rfl) (timed_ok _) (by simp [int]) ?_; simp (decide := true) [int, tiersD, Tir.row, k0, p0, p1, hq, hq', eu, eu', a1, a2, rolesE, o1, kindR, overR])
          | (refine ECall.pure (by rfl) (timed_ok _) (by simp [int]) ?_; simp (decide := true) [int, tiersD, Tir.row, k0, p0, p1, hq, hq', eu, eu', a1, a2, rolesE, o1, kindR, overR])
      · skip
        simp (decide := true) [int, tiersD, Tir.row, k0, p0, p1, hq, hq', eu, eu', a1, a2, rolesE, o1, kindR, overR]
        repeat first
          | (refine scall_pure (by rfl) (by rfl) (kindR_ok _) (by simp [int]) ?_; simp (decide := true) [int, tiersD, Tir.row, k0, p0, p1, hq, hq', eu, eu', a1, a2, rolesE, o1, kindR, overR])
          | (refine scall_pure (by rfl) (by rfl) (overR_ok _) (by simp [int]) ?_; simp (decide := true) [int, tiersD, Tir.row, k0, p0, p1, hq, hq', eu, eu', a1, a2, rolesE, o1, kindR, overR])
          | (refine scall_pure (by rfl) (by rfl) (timed_ok _) (by simp [int]) ?_; simp (decide := true) [int, tiersD, Tir.row, k0, p0, p1, hq, hq', eu, eu', a1, a2, rolesE, o1, kindR, overR])
          | (refine ECall.pure (by rfl) (timed_ok _) (by simp [int]) ?_; simp (decide := true) [int, tiersD, Tir.row, k0, p0, p1, hq, hq', eu, eu', a1, a2, rolesE, o1, kindR, overR])
    · skip
      by_cases n1 : kd = 3
      case neg =>
        simp (decide := true) [int, tiersD, Tir.row, k0, p0, p1, hq, hq', eu, eu', a1, a2, rolesE, n1, kindR, overR]
        repeat first
          | (refine scall_pure (by rfl) (by rfl) (kindR_ok _) (by simp [int]) ?_; simp (decide := true) [int, tiersD, Tir.row, k0, p0, p1, hq, hq', eu, eu', a1, a2, rolesE, n1, kindR, overR])
          | (refine scall_pure (by rfl) (by rfl) (overR_ok _) (by simp [int]) ?_; simp (decide := true) [int, tiersD, Tir.row, k0, p0, p1, hq, hq', eu, eu', a1, a2, rolesE, n1, kindR, overR])
          | (refine scall_pure (by rfl) (by rfl) (timed_ok _) (by simp [int]) ?_; simp (decide := true) [int, tiersD, Tir.row, k0, p0, p1, hq, hq', eu, eu', a1, a2, rolesE, n1, kindR, overR])
          | (refine ECall.pure (by rfl) (timed_ok _) (by simp [int]) ?_; simp (decide := true) [int, tiersD, Tir.row, k0, p0, p1, hq, hq', eu, eu', a1, a2, rolesE, n1, kindR, overR])
      subst n1
      exact absurd a1 (by decide)
    · skip
      by_cases n1 : kd = 4
      case neg =>
        simp (decide := true) [int, tiersD, Tir.row, k0, p0, p1, hq, hq', eu, eu', a1, a2, rolesE, n1, kindR, overR]
        repeat first
          | (refine scall_pure (by rfl) (by rfl) (kindR_ok _) (by simp [int]) ?_; simp (decide := true) [int, tiersD, Tir.row, k0, p0, p1, hq, hq', eu, eu', a1, a2, rolesE, n1, kindR, overR])
          | (refine scall_pure (by rfl) (by rfl) (overR_ok _) (by simp [int]) ?_; simp (decide := true) [int, tiersD, Tir.row, k0, p0, p1, hq, hq', eu, eu', a1, a2, rolesE, n1, kindR, overR])
          | (refine scall_pure (by rfl) (by rfl) (timed_ok _) (by simp [int]) ?_; simp (decide := true) [int, tiersD, Tir.row, k0, p0, p1, hq, hq', eu, eu', a1, a2, rolesE, n1, kindR, overR])
          | (refine ECall.pure (by rfl) (timed_ok _) (by simp [int]) ?_; simp (decide := true) [int, tiersD, Tir.row, k0, p0, p1, hq, hq', eu, eu', a1, a2, rolesE, n1, kindR, overR])
      subst n1
      exact absurd a1 (by decide)
    · skip
      by_cases n1 : kd = 4
      case neg =>
        simp (decide := true) [int, tiersD, Tir.row, k0, p0, p1, hq, hq', eu, eu', a1, a2, rolesE, n1, kindR, overR]
        repeat first
          | (refine scall_pure (by rfl) (by rfl) (kindR_ok _) (by simp [int]) ?_; simp (decide := true) [int, tiersD, Tir.row, k0, p0, p1, hq, hq', eu, eu', a1, a2, rolesE, n1, kindR, overR])
          | (refine scall_pure (by rfl) (by rfl) (overR_ok _) (by simp [int]) ?_; simp (decide := true) [int, tiersD, Tir.row, k0, p0, p1, hq, hq', eu, eu', a1, a2, rolesE, n1, kindR, overR])
          | (refine scall_pure (by rfl) (by rfl) (timed_ok _) (by simp [int]) ?_; simp (decide := true) [int, tiersD, Tir.row, k0, p0, p1, hq, hq', eu, eu', a1, a2, rolesE, n1, kindR, overR])
          | (refine ECall.pure (by rfl) (timed_ok _) (by simp [int]) ?_; simp (decide := true) [int, tiersD, Tir.row, k0, p0, p1, hq, hq', eu, eu', a1, a2, rolesE, n1, kindR, overR])
      subst n1
      exact absurd a1 (by decide)
  · skip
    rcases (by omega : rl = 0 ∨ rl = 1 ∨ rl = 2 ∨ rl = 3 ∨ rl = 4 ∨ rl = 5) with rfl | rfl | rfl | rfl | rfl | rfl
    · skip
      simp (decide := true) [int, tiersD, Tir.row, k0, p0, p1, hq, hq', eu, eu', a1, rolesE, kindR, overR]
      repeat first
        | (refine scall_pure (by rfl) (by rfl) (kindR_ok _) (by simp [int]) ?_; simp (decide := true) [int, tiersD, Tir.row, k0, p0, p1, hq, hq', eu, eu', a1, rolesE, kindR, overR])
        | (refine scall_pure (by rfl) (by rfl) (overR_ok _) (by simp [int]) ?_; simp (decide := true) [int, tiersD, Tir.row, k0, p0, p1, hq, hq', eu, eu', a1, rolesE, kindR, overR])
        | (refine scall_pure (by rfl) (by rfl) (timed_ok _) (by simp [int]) ?_; simp (decide := true) [int, tiersD, Tir.row, k0, p0, p1, hq, hq', eu, eu', a1, rolesE, kindR, overR])
        | (refine ECall.pure (by rfl) (timed_ok _) (by simp [int]) ?_; simp (decide := true) [int, tiersD, Tir.row, k0, p0, p1, hq, hq', eu, eu', a1, rolesE, kindR, overR])
    · skip
      simp (decide := true) [int, tiersD, Tir.row, k0, p0, p1, hq, hq', eu, eu', a1, rolesE, kindR, overR]
      repeat first
        | (refine scall_pure (by rfl) (by rfl) (kindR_ok _) (by simp [int]) ?_; simp (decide := true) [int, tiersD, Tir.row, k0, p0, p1, hq, hq', eu, eu', a1, rolesE, kindR, overR])
        | (refine scall_pure (by rfl) (by rfl) (overR_ok _) (by simp [int]) ?_; simp (decide := true) [int, tiersD, Tir.row, k0, p0, p1, hq, hq', eu, eu', a1, rolesE, kindR, overR])
        | (refine scall_pure (by rfl) (by rfl) (timed_ok _) (by simp [int]) ?_; simp (decide := true) [int, tiersD, Tir.row, k0, p0, p1, hq, hq', eu, eu', a1, rolesE, kindR, overR])
        | (refine ECall.pure (by rfl) (timed_ok _) (by simp [int]) ?_; simp (decide := true) [int, tiersD, Tir.row, k0, p0, p1, hq, hq', eu, eu', a1, rolesE, kindR, overR])
    · skip
      by_cases o1 : ur = 1
      · skip
        simp (decide := true) [int, tiersD, Tir.row, k0, p0, p1, hq, hq', eu, eu', a1, rolesE, o1, kindR, overR]
        repeat first
          | (refine scall_pure (by rfl) (by rfl) (kindR_ok _) (by simp [int]) ?_; simp (decide := true) [int, tiersD, Tir.row, k0, p0, p1, hq, hq', eu, eu', a1, rolesE, o1, kindR, overR])
          | (refine scall_pure (by rfl) (by rfl) (overR_ok _) (by simp [int]) ?_; simp (decide := true) [int, tiersD, Tir.row, k0, p0, p1, hq, hq', eu, eu', a1, rolesE, o1, kindR, overR])
          | (refine scall_pure (by rfl) (by rfl) (timed_ok _) (by simp [int]) ?_; simp (decide := true) [int, tiersD, Tir.row, k0, p0, p1, hq, hq', eu, eu', a1, rolesE, o1, kindR, overR])
          | (refine ECall.pure (by rfl) (timed_ok _) (by simp [int]) ?_; simp (decide := true) [int, tiersD, Tir.row, k0, p0, p1, hq, hq', eu, eu', a1, rolesE, o1, kindR, overR])
      · skip
        simp (decide := true) [int, tiersD, Tir.row, k0, p0, p1, hq, hq', eu, eu', a1, rolesE, o1, kindR, overR]
        repeat first
          | (refine scall_pure (by rfl) (by rfl) (kindR_ok _) (by simp [int]) ?_; simp (decide := true) [int, tiersD, Tir.row, k0, p0, p1, hq, hq', eu, eu', a1, rolesE, o1, kindR, overR])
          | (refine scall_pure (by rfl) (by rfl) (overR_ok _) (by simp [int]) ?_; simp (decide := true) [int, tiersD, Tir.row, k0, p0, p1, hq, hq', eu, eu', a1, rolesE, o1, kindR, overR])
          | (refine scall_pure (by rfl) (by rfl) (timed_ok _) (by simp [int]) ?_; simp (decide := true) [int, tiersD, Tir.row, k0, p0, p1, hq, hq', eu, eu', a1, rolesE, o1, kindR, overR])
          | (refine ECall.pure (by rfl) (timed_ok _) (by simp [int]) ?_; simp (decide := true) [int, tiersD, Tir.row, k0, p0, p1, hq, hq', eu, eu', a1, rolesE, o1, kindR, overR])
    · skip
      by_cases n1 : kd = 3
      case neg =>
        simp (decide := true) [int, tiersD, Tir.row, k0, p0, p1, hq, hq', eu, eu', a1, rolesE, n1, kindR, overR]
        repeat first
          | (refine scall_pure (by rfl) (by rfl) (kindR_ok _) (by simp [int]) ?_; simp (decide := true) [int, tiersD, Tir.row, k0, p0, p1, hq, hq', eu, eu', a1, rolesE, n1, kindR, overR])
          | (refine scall_pure (by rfl) (by rfl) (overR_ok _) (by simp [int]) ?_; simp (decide := true) [int, tiersD, Tir.row, k0, p0, p1, hq, hq', eu, eu', a1, rolesE, n1, kindR, overR])
          | (refine scall_pure (by rfl) (by rfl) (timed_ok _) (by simp [int]) ?_; simp (decide := true) [int, tiersD, Tir.row, k0, p0, p1, hq, hq', eu, eu', a1, rolesE, n1, kindR, overR])
          | (refine ECall.pure (by rfl) (timed_ok _) (by simp [int]) ?_; simp (decide := true) [int, tiersD, Tir.row, k0, p0, p1, hq, hq', eu, eu', a1, rolesE, n1, kindR, overR])
      subst n1
      by_cases o1 : ur = 2
      · skip
        simp (decide := true) [int, tiersD, Tir.row, k0, p0, p1, hq, hq', eu, eu', a1, rolesE, o1, kindR, overR]
        repeat first
          | (refine scall_pure (by rfl) (by rfl) (kindR_ok _) (by simp [int]) ?_; simp (decide := true) [int, tiersD, Tir.row, k0, p0, p1, hq, hq', eu, eu', a1, rolesE, o1, kindR, overR])
          | (refine scall_pure (by rfl) (by rfl) (overR_ok _) (by simp [int]) ?_; simp (decide := true) [int, tiersD, Tir.row, k0, p0, p1, hq, hq', eu, eu', a1, rolesE, o1, kindR, overR])
          | (refine scall_pure (by rfl) (by rfl) (timed_ok _) (by simp [int]) ?_; simp (decide := true) [int, tiersD, Tir.row, k0, p0, p1, hq, hq', eu, eu', a1, rolesE, o1, kindR, overR])
          | (refine ECall.pure (by rfl) (timed_ok _) (by simp [int]) ?_; simp (decide := true) [int, tiersD, Tir.row, k0, p0, p1, hq, hq', eu, eu', a1, rolesE, o1, kindR, overR])
      · skip
        simp (decide := true) [int, tiersD, Tir.row, k0, p0, p1, hq, hq', eu, eu', a1, rolesE, o1, kindR, overR]
        repeat first
          | (refine scall_pure (by rfl) (by rfl) (kindR_ok _) (by simp [int]) ?_; simp (decide := true) [int, tiersD, Tir.row, k0, p0, p1, hq, hq', eu, eu', a1, rolesE, o1, kindR, overR])
          | (refine scall_pure (by rfl) (by rfl) (overR_ok _) (by simp [int]) ?_; simp (decide := true) [int, tiersD, Tir.row, k0, p0, p1, hq, hq', eu, eu', a1, rolesE, o1, kindR, overR])
          | (refine scall_pure (by rfl) (by rfl) (timed_ok _) (by simp [int]) ?_; simp (decide := true) [int, tiersD, Tir.row, k0, p0, p1, hq, hq', eu, eu', a1, rolesE, o1, kindR, overR])
          | (refine ECall.pure (by rfl) (timed_ok _) (by simp [int]) ?_; simp (decide := true) [int, tiersD, Tir.row, k0, p0, p1, hq, hq', eu, eu', a1, rolesE, o1, kindR, overR])
    · skip
      by_cases n1 : kd = 4
      case neg =>
        simp (decide := true) [int, tiersD, Tir.row, k0, p0, p1, hq, hq', eu, eu', a1, rolesE, n1, kindR, overR]
        repeat first
          | (refine scall_pure (by rfl) (by rfl) (kindR_ok _) (by simp [int]) ?_; simp (decide := true) [int, tiersD, Tir.row, k0, p0, p1, hq, hq', eu, eu', a1, rolesE, n1, kindR, overR])
          | (refine scall_pure (by rfl) (by rfl) (overR_ok _) (by simp [int]) ?_; simp (decide := true) [int, tiersD, Tir.row, k0, p0, p1, hq, hq', eu, eu', a1, rolesE, n1, kindR, overR])
          | (refine scall_pure (by rfl) (by rfl) (timed_ok _) (by simp [int]) ?_; simp (decide := true) [int, tiersD, Tir.row, k0, p0, p1, hq, hq', eu, eu', a1, rolesE, n1, kindR, overR])
          | (refine ECall.pure (by rfl) (timed_ok _) (by simp [int]) ?_; simp (decide := true) [int, tiersD, Tir.row, k0, p0, p1, hq, hq', eu, eu', a1, rolesE, n1, kindR, overR])
      subst n1
      by_cases o1 : ur = 3
      · skip
        simp (decide := true) [int, tiersD, Tir.row, k0, p0, p1, hq, hq', eu, eu', a1, rolesE, o1, kindR, overR]
        repeat first
          | (refine scall_pure (by rfl) (by rfl) (kindR_ok _) (by simp [int]) ?_; simp (decide := true) [int, tiersD, Tir.row, k0, p0, p1, hq, hq', eu, eu', a1, rolesE, o1, kindR, overR])
          | (refine scall_pure (by rfl) (by rfl) (overR_ok _) (by simp [int]) ?_; simp (decide := true) [int, tiersD, Tir.row, k0, p0, p1, hq, hq', eu, eu', a1, rolesE, o1, kindR, overR])
          | (refine scall_pure (by rfl) (by rfl) (timed_ok _) (by simp [int]) ?_; simp (decide := true) [int, tiersD, Tir.row, k0, p0, p1, hq, hq', eu, eu', a1, rolesE, o1, kindR, overR])
          | (refine ECall.pure (by rfl) (timed_ok _) (by simp [int]) ?_; simp (decide := true) [int, tiersD, Tir.row, k0, p0, p1, hq, hq', eu, eu', a1, rolesE, o1, kindR, overR])
      · skip
        simp (decide := true) [int, tiersD, Tir.row, k0, p0, p1, hq, hq', eu, eu', a1, rolesE, o1, kindR, overR]
        repeat first
          | (refine scall_pure (by rfl) (by rfl) (kindR_ok _) (by simp [int]) ?_; simp (decide := true) [int, tiersD, Tir.row, k0, p0, p1, hq, hq', eu, eu', a1, rolesE, o1, kindR, overR])
          | (refine scall_pure (by rfl) (by rfl) (overR_ok _) (by simp [int]) ?_; simp (decide := true) [int, tiersD, Tir.row, k0, p0, p1, hq, hq', eu, eu', a1, rolesE, o1, kindR, overR])
          | (refine scall_pure (by rfl) (by rfl) (timed_ok _) (by simp [int]) ?_; simp (decide := true) [int, tiersD, Tir.row, k0, p0, p1, hq, hq', eu, eu', a1, rolesE, o1, kindR, overR])
          | (refine ECall.pure (by rfl) (timed_ok _) (by simp [int]) ?_; simp (decide := true) [int, tiersD, Tir.row, k0, p0, p1, hq, hq', eu, eu', a1, rolesE, o1, kindR, overR])
    · skip
      by_cases n1 : kd = 4
      case neg =>
        simp (decide := true) [int, tiersD, Tir.row, k0, p0, p1, hq, hq', eu, eu', a1, rolesE, n1, kindR, overR]
        repeat first
          | (refine scall_pure (by rfl) (by rfl) (kindR_ok _) (by simp [int]) ?_; simp (decide := true) [int, tiersD, Tir.row, k0, p0, p1, hq, hq', eu, eu', a1, rolesE, n1, kindR, overR])
          | (refine scall_pure (by rfl) (by rfl) (overR_ok _) (by simp [int]) ?_; simp (decide := true) [int, tiersD, Tir.row, k0, p0, p1, hq, hq', eu, eu', a1, rolesE, n1, kindR, overR])
          | (refine scall_pure (by rfl) (by rfl) (timed_ok _) (by simp [int]) ?_; simp (decide := true) [int, tiersD, Tir.row, k0, p0, p1, hq, hq', eu, eu', a1, rolesE, n1, kindR, overR])
          | (refine ECall.pure (by rfl) (timed_ok _) (by simp [int]) ?_; simp (decide := true) [int, tiersD, Tir.row, k0, p0, p1, hq, hq', eu, eu', a1, rolesE, n1, kindR, overR])
      subst n1
      by_cases o1 : ur = 1
      · skip
        simp (decide := true) [int, tiersD, Tir.row, k0, p0, p1, hq, hq', eu, eu', a1, rolesE, o1, kindR, overR]
        repeat first
          | (refine scall_pure (by rfl) (by rfl) (kindR_ok _) (by simp [int]) ?_; simp (decide := true) [int, tiersD, Tir.row, k0, p0, p1, hq, hq', eu, eu', a1, rolesE, o1, kindR, overR])
          | (refine scall_pure (by rfl) (by rfl) (overR_ok _) (by simp [int]) ?_; simp (decide := true) [int, tiersD, Tir.row, k0, p0, p1, hq, hq', eu, eu', a1, rolesE, o1, kindR, overR])
          | (refine scall_pure (by rfl) (by rfl) (timed_ok _) (by simp [int]) ?_; simp (decide := true) [int, tiersD, Tir.row, k0, p0, p1, hq, hq', eu, eu', a1, rolesE, o1, kindR, overR])
          | (refine ECall.pure (by rfl) (timed_ok _) (by simp [int]) ?_; simp (decide := true) [int, tiersD, Tir.row, k0, p0, p1, hq, hq', eu, eu', a1, rolesE, o1, kindR, overR])
      · skip
        simp (decide := true) [int, tiersD, Tir.row, k0, p0, p1, hq, hq', eu, eu', a1, rolesE, o1, kindR, overR]
        repeat first
          | (refine scall_pure (by rfl) (by rfl) (kindR_ok _) (by simp [int]) ?_; simp (decide := true) [int, tiersD, Tir.row, k0, p0, p1, hq, hq', eu, eu', a1, rolesE, o1, kindR, overR])
          | (refine scall_pure (by rfl) (by rfl) (overR_ok _) (by simp [int]) ?_; simp (decide := true) [int, tiersD, Tir.row, k0, p0, p1, hq, hq', eu, eu', a1, rolesE, o1, kindR, overR])
          | (refine scall_pure (by rfl) (by rfl) (timed_ok _) (by simp [int]) ?_; simp (decide := true) [int, tiersD, Tir.row, k0, p0, p1, hq, hq', eu, eu', a1, rolesE, o1, kindR, overR])
          | (refine ECall.pure (by rfl) (timed_ok _) (by simp [int]) ?_; simp (decide := true) [int, tiersD, Tir.row, k0, p0, p1, hq, hq', eu, eu', a1, rolesE, o1, kindR, overR])
theorem refTiers_ok (l : List Tir) (hl : l.length < 2^62) (hs : ∀ t ∈ l, t.name.size ≤ 9223372036854775807) : PureR Tryz.prog 79 [tiersD l] (int (tiersE l)) := by
  refine pure_of_body mixed Tryz.func79 rfl call_79 ?_
  by_cases h0 : 12 < l.length
  · have h0' : (12 : Int) < l.length := by omega
    simp (decide := true) [Tryz.f79, tiersD, int, h0', tiersE, h0]
  have h0' : ¬ (12 : Int) < l.length := by omega
  simp (decide := true) [Tryz.f79, tiersD, int, h0', tiersE, h0]
  refine loop_rule mixed (fun k : Nat => { n := 20, next := 0, slots := [(0, .d (tiersD l)), (3, .d (.int .i64 k))], own := [] })
    (fun k => k ≤ l.length ∧ tiersGo l l.length 0 = tiersGo l (l.length - k) k) (fun k => l.length - k) 0 (by simp) (by simp (decide := true) [tiersD, int]) ?_
  intro k ⟨hk, hp⟩
  by_cases hlt : k < l.length
  · have hlt' : (k : Int) < l.length := by omega
    obtain ⟨m, hm⟩ : ∃ m, l.length - k = m + 1 := ⟨l.length - k - 1, by omega⟩
    rw [hm] at hp
    simp only [tiersGo, dif_pos hlt] at hp
    simp (decide := true) [tiersD, int, hlt']
    refine ECall.pure (by rfl) (refTier_ok l k hlt hl hs) (by simp [tiersD, int]) ?_
    by_cases hz : oneE (l.take k) l[k] = 0
    · rw [if_pos hz] at hp
      simp (decide := true) [int, hz, I64]
      exact ⟨by omega, k + 1, ⟨by omega, by rw [hp]; congr 1; omega⟩, by omega, by simp [tiersD]⟩
    · rw [if_neg hz] at hp
      simp (decide := true) [int, hz, hp]
  · have : k = l.length := by omega
    subst this
    rw [Nat.sub_self] at hp
    simp (decide := true) [tiersD, int, hp, tiersGo]
end Go.V.Doc
namespace Go.V.Doc
open Go Go.Proofs
theorem wrap_u8 (n : Int) : IntKind.wrap .u8 n = n % 256 := by
  simp [IntKind.wrap, IntKind.bits, IntKind.signed]
theorem u8_of {n : Int} {m : Nat} (h : n = (m : Int)) : UInt8.ofNat (IntKind.wrap .u8 n).toNat = UInt8.ofNat m := by
  subst h
  apply UInt8.toNat_inj.1
  rw [wrap_u8]
  simp only [UInt8.toNat_ofNat']
  omega
theorem wrap_i64 {n : Int} (h : I64 n) : IntKind.wrap .i64 n = n := by
  obtain ⟨h1, h2⟩ := h
  simp [IntKind.wrap, IntKind.bits, IntKind.signed]
  split <;> omega
theorem wrap_byte (s : ByteArray) (k : Nat) : IntKind.wrap .i64 (byteN s k : Int) = (byteN s k : Int) := by
  have : byteN s k < 256 := UInt8.toNat_lt _
  exact wrap_i64 ⟨by omega, by omega⟩
theorem scalar_ok (p : Nat) : PureR Tryz.prog 257 [int p] (.bool (decide (scalarR p))) := by
  refine pure_of_body mixed Tryz.func257 rfl call_257 ?_
  by_cases h1 : (p : Int) ≤ 1114111
  · by_cases h2 : (p : Int) < 55296
    · have : scalarR p := ⟨by omega, by omega⟩
      simp (decide := true) [Tryz.f257, int, h1, h2, this]
    · have h3 : scalarR p ↔ (57343 : Int) < p := ⟨fun h => by have := h.2; omega, fun h => ⟨by omega, by omega⟩⟩
      simp (decide := true) [Tryz.f257, int, h1, h2, h3]
  · have : ¬ scalarR p := fun h => h1 (by have := h.1; omega)
    simp (decide := true) [Tryz.f257, int, h1, this]
def encS (p : Nat) : ByteArray := ⟨((encR p).map UInt8.ofNat).toArray⟩
theorem enc_ok (p : Nat) (hp : p < 2^40) : PureR Tryz.prog 258 [int p] (.str (encS p)) := by
  refine pure_of_body mixed Tryz.func258 rfl call_258 ?_
  have t1 : (p : Int).tmod 64 = ((p % 64 : Nat) : Int) := rfl
  have t2 : ((p : Int) / 64).tmod 64 = ((p / 64 % 64 : Nat) : Int) := by rw [show (p : Int) / 64 = ((p / 64 : Nat) : Int) by omega]; rfl
  have t3 : ((p : Int) / 4096).tmod 64 = ((p / 4096 % 64 : Nat) : Int) := by rw [show (p : Int) / 4096 = ((p / 4096 : Nat) : Int) by omega]; rfl
  by_cases h1 : p < 128
  · have h1' : (p : Int) < 128 := by omega
    simp (decide := true) [Tryz.f258, int, h1', t1, t2, t3, eBytes, bytesOf]
    rw [u8_of (m := p) (by omega)]
    simp [encS, encR, h1]
  have h1' : ¬ (p : Int) < 128 := by omega
  by_cases h2 : p < 2048
  · have h2' : (p : Int) < 2048 := by omega
    simp (decide := true) [Tryz.f258, int, h1', h2', t1, t2, t3, eBytes, bytesOf, I64]
    rw [u8_of (m := 192 + p / 64) (by omega), u8_of (m := 128 + p % 64) (by omega)]
    refine ⟨by omega, by omega, by omega, ?_⟩
    simp [encS, encR, h1, h2]
  have h2' : ¬ (p : Int) < 2048 := by omega
  by_cases h3 : p < 65536
  · have h3' : (p : Int) < 65536 := by omega
    simp (decide := true) [Tryz.f258, int, h1', h2', h3', t1, t2, t3, eBytes, bytesOf, I64]
    rw [u8_of (m := 224 + p / 4096) (by omega), u8_of (m := 128 + p / 64 % 64) (by omega), u8_of (m := 128 + p % 64) (by omega)]
    refine ⟨by omega, by omega, by omega, by omega, by omega, ?_⟩
    simp [encS, encR, h1, h2, h3]
  have h3' : ¬ (p : Int) < 65536 := by omega
  simp (decide := true) [Tryz.f258, int, h1', h2', h3', t1, t2, t3, eBytes, bytesOf, I64]
  rw [u8_of (m := 240 + p / 262144) (by omega), u8_of (m := 128 + p / 4096 % 64) (by omega), u8_of (m := 128 + p / 64 % 64) (by omega), u8_of (m := 128 + p % 64) (by omega)]
  refine ⟨by omega, by omega, by omega, by omega, by omega, by omega, by omega, ?_⟩
  simp [encS, encR, h1, h2, h3]
end Go.V.Doc
namespace Go.V.Doc
open Go Go.Proofs
theorem bytes_inj {a b : ByteArray} (h : a.toList = b.toList) : a = b := by
  rw [← MapKept.bytes_beq, beq_toListBytes, beq_iff_eq]; exact h
def accR (s : ByteArray) (at_ p0 : Nat) : Nat → Nat
  | 0 => p0
  | k + 1 => accR s at_ p0 k * 64 + byteN s (at_ + (k + 1)) % 64
theorem accR_lt {s : ByteArray} {at_ p0 : Nat} (h : p0 < 256) : ∀ k, accR s at_ p0 k < 256 * 64 ^ k
  | 0 => by simpa [accR] using h
  | k + 1 => by
    have := accR_lt (s := s) (at_ := at_) h k
    simp only [accR, Nat.pow_succ]
    omega
def bytes4 (s : ByteArray) (at_ : Nat) : List Nat := [byteN s at_, byteN s (at_ + 1), byteN s (at_ + 2), byteN s (at_ + 3)]
theorem accR_fold (s : ByteArray) (at_ p0 : Nat) : ∀ n, n ≤ 4 → foldR p0 ([byteN s (at_ + 1), byteN s (at_ + 2), byteN s (at_ + 3)].take (n - 1)) = accR s at_ p0 (n - 1)
  | 0, _ => rfl
  | 1, _ => rfl
  | 2, _ => rfl
  | 3, _ => rfl
  | 4, _ => rfl
theorem toNat_inj_map : ∀ {a b : List UInt8}, a.map UInt8.toNat = b.map UInt8.toNat → a = b
  | [], [], _ => rfl
  | [], _ :: _, h => by simp at h
  | _ :: _, [], h => by simp at h
  | x :: a, y :: b, h => by
    simp only [List.map_cons, List.cons.injEq] at h
    rw [UInt8.toNat_inj.1 h.1, toNat_inj_map h.2]
theorem ext_bytes {s : ByteArray} {at_ n : Nat} (hn : n ≤ 4) (h : at_ + n ≤ s.size) : (s.extract at_ (at_ + n)).data.toList.map UInt8.toNat = (bytes4 s at_).take n := by
  have hsz : s.size = s.data.toList.length := by rw [Array.length_toList]; rfl
  have he : (s.extract at_ (at_ + n)).data.toList = (s.data.toList.drop at_).take n := by
    simp only [ByteArray.data_extract, Array.toList_extract, List.extract_eq_take_drop]
    congr 1; omega
  rw [he]
  apply List.ext_getElem?
  intro j
  rw [List.getElem?_map, List.getElem?_take, List.getElem?_take]
  by_cases hj : j < n
  · rw [if_pos hj, if_pos hj, List.getElem?_drop, List.getElem?_eq_getElem (by omega)]
    have hb : ∀ k, (hk : k < s.data.toList.length) → (s.data.toList[k]'hk).toNat = byteN s k := fun k hk => by simp [byteN, List.getD, List.getElem?_eq_getElem hk]
    have hj4 : j = 0 ∨ j = 1 ∨ j = 2 ∨ j = 3 := by omega
    rw [Option.map_some, hb]
    rcases hj4 with rfl | rfl | rfl | rfl <;> rfl
  · rw [if_neg hj, if_neg hj]; rfl
theorem encS_bytes (p : Nat) : (encS p).data.toList.map UInt8.toNat = (encR p).map (· % 256) := by
  simp only [encS, List.map_map]
  apply List.map_congr_left
  intro b _
  simp
theorem enc_eq {s : ByteArray} {at_ n p : Nat} (hn : n ≤ 4) (h : at_ + n ≤ s.size) : encS p = s.extract at_ (at_ + n) ↔ (encR p).map (· % 256) = (bytes4 s at_).take n := by
  rw [← encS_bytes, ← ext_bytes hn h]
  constructor
  · intro e; rw [e]
  · intro e
    have := toNat_inj_map e
    have e2 : (encS p).data = (s.extract at_ (at_ + n)).data := Array.ext' this
    cases hA : encS p; cases hB : s.extract at_ (at_ + n)
    rw [hA, hB] at e2
    simp only at e2; rw [e2]
def firstS (s : ByteArray) (at_ : Nat) : Option (Nat × Nat) := firstR (s.size - at_) (byteN s at_) (byteN s (at_ + 1)) (byteN s (at_ + 2)) (byteN s (at_ + 3))
def firstD' : Option (Nat × Nat) → D
  | none => .tup [int (-1), int 0]
  | some r => .tup [int r.1, int r.2]
theorem firstS_eq {s : ByteArray} {at_ p0 n : Nat} (hl : leadR (byteN s at_) = (p0, n)) (hn : n ≤ 4) : firstS s at_ = if s.size - at_ < n then none else if scalarR (accR s at_ p0 (n - 1)) ∧ (encR (accR s at_ p0 (n - 1))).map (· % 256) = (bytes4 s at_).take n then some (accR s at_ p0 (n - 1), n) else none := by
  unfold firstS firstR
  rw [hl]
  simp only
  rw [accR_fold s at_ p0 n hn]
  rfl
set_option maxHeartbeats 4000000 in
theorem first_ok (s : ByteArray) (at_ : Nat) (hat : at_ < s.size) (hs : s.size ≤ 1000000) : PureR Tryz.prog 226 [.str s, int at_] (firstD' (firstS s at_)) := by
  refine pure_of_body mixed Tryz.func226 rfl call_226 ?_
  have hb : byteN s at_ < 256 := UInt8.toNat_lt _
  have e0 := byteAt_nat s at_
  have w0 := wrap_byte s at_
  by_cases c4 : 240 ≤ byteN s at_
  · have q4 : (240 : Int) ≤ byteN s at_ := by omega
    have hl : leadR (byteN s at_) = (byteN s at_ - 240, 4) := by simp [leadR, c4]
    rw [firstS_eq hl (by omega)]
    by_cases hsz : s.size - at_ < 4
    · have g1 : (s.size : Int) < (at_ : Int) + 4 := by omega
      rw [if_pos hsz]
      have ep0 : (byteN s at_ : Int) - 240 = ((byteN s at_ - 240 : Nat) : Int) := by omega
      simp (decide := true) [Tryz.f226, int, hat, e0, w0, q4, g1, I64, eBytes, firstD', ep0]
      omega
    have g1 : ¬ (s.size : Int) < (at_ : Int) + 4 := by omega
    rw [if_neg hsz]
    have hp0 : byteN s at_ - 240 < 256 := by omega
    have ep0 : (byteN s at_ : Int) - 240 = ((byteN s at_ - 240 : Nat) : Int) := by omega
    simp (decide := true) [Tryz.f226, int, hat, e0, w0, q4, g1, I64, eBytes, ep0]
    refine ⟨by omega, ⟨by omega, by omega⟩, ?_⟩
    refine loop_rule mixed (fun j : Nat => { n := 65, next := 0, slots := [(0, .d (.str s)), (1, .d (int at_)), (6, .d (int (accR s at_ (byteN s at_ - 240) j))), (7, .d (int 4)), (8, .d (int (j + 1)))], own := [] })
      (fun j => j + 1 ≤ 4) (fun j => 4 - j) 0 (by simp) (by simp (decide := true) [int, accR]) ?_
    intro j hj
    have hac := accR_lt (s := s) (at_ := at_) hp0 j
    have hac2 : accR s at_ (byteN s at_ - 240) j < 2^30 := Nat.lt_of_lt_of_le hac (Nat.le_trans (Nat.mul_le_mul_left _ (Nat.pow_le_pow_right (by omega) (show j ≤ 3 by omega))) (by decide))
    by_cases hjn : j + 1 < 4
    · have k1 : (j : Int) + 1 < 4 := by omega
      have e1 : byteAt s ((at_ : Int) + ((j : Int) + 1)) = (byteN s (at_ + (j + 1)) : Int) := byteAt_nat s (at_ + (j + 1))
      have w1 := wrap_byte s (at_ + (j + 1))
      have t1 : (byteN s (at_ + (j + 1)) : Int).tmod 64 = ((byteN s (at_ + (j + 1)) % 64 : Nat) : Int) := rfl
      simp (decide := true) [int, k1, e1, w1, t1, I64, eBytes]
      exact ⟨by omega, by omega, ⟨by omega, by omega⟩, by omega, by omega, j + 1, by omega, by omega, by simp only [accR]; omega, by omega⟩
    · obtain rfl : j = 3 := by omega
      simp (decide := true) [int, I64, eBytes]
      generalize hq : accR s at_ (byteN s at_ - 240) 3 = q at hac2 ⊢
      refine scall_pure (by rfl) (by rfl) (scalar_ok q) (by simp) ?_
      by_cases hsc : scalarR q
      case neg => simp (decide := true) [hsc, int, firstD']
      simp (decide := true) [hsc, int]
      refine scall_pure (by rfl) (by rfl) (enc_ok q (by omega)) (by simp) ?_
      have z1 : ((at_ : Int) + 4).toNat = at_ + 4 := by omega
      have he := enc_eq (s := s) (at_ := at_) (n := 4) (p := q) (by omega) (by omega)
      by_cases hE : encS q = s.extract at_ (at_ + 4)
      · simp (decide := true) [hsc, int, z1, hE, he.1 hE, firstD', I64]
        omega
      · have hE2 : ¬ ((encR q).map (· % 256) = (bytes4 s at_).take 4) := fun h => hE (he.2 h)
        have hE3 : ¬ (encS q).toList = (s.extract at_ (at_ + 4)).toList := fun h => hE (bytes_inj h)
        simp (decide := true) [hsc, int, z1, hE2, hE3, firstD', I64]
        omega
  have q4 : ¬ (240 : Int) ≤ byteN s at_ := by omega
  by_cases c3 : 224 ≤ byteN s at_
  · have q3 : (224 : Int) ≤ byteN s at_ := by omega
    have hl : leadR (byteN s at_) = (byteN s at_ - 224, 3) := by simp [leadR, c4, c3]
    rw [firstS_eq hl (by omega)]
    by_cases hsz : s.size - at_ < 3
    · have g1 : (s.size : Int) < (at_ : Int) + 3 := by omega
      rw [if_pos hsz]
      have ep0 : (byteN s at_ : Int) - 224 = ((byteN s at_ - 224 : Nat) : Int) := by omega
      simp (decide := true) [Tryz.f226, int, hat, e0, w0, q4, q3, g1, I64, eBytes, firstD', ep0]
      omega
    have g1 : ¬ (s.size : Int) < (at_ : Int) + 3 := by omega
    rw [if_neg hsz]
    have hp0 : byteN s at_ - 224 < 256 := by omega
    have ep0 : (byteN s at_ : Int) - 224 = ((byteN s at_ - 224 : Nat) : Int) := by omega
    simp (decide := true) [Tryz.f226, int, hat, e0, w0, q4, q3, g1, I64, eBytes, ep0]
    refine ⟨by omega, ⟨by omega, by omega⟩, ?_⟩
    refine loop_rule mixed (fun j : Nat => { n := 65, next := 0, slots := [(0, .d (.str s)), (1, .d (int at_)), (6, .d (int (accR s at_ (byteN s at_ - 224) j))), (7, .d (int 3)), (8, .d (int (j + 1)))], own := [] })
      (fun j => j + 1 ≤ 3) (fun j => 3 - j) 0 (by simp) (by simp (decide := true) [int, accR]) ?_
    intro j hj
    have hac := accR_lt (s := s) (at_ := at_) hp0 j
    have hac2 : accR s at_ (byteN s at_ - 224) j < 2^30 := Nat.lt_of_lt_of_le hac (Nat.le_trans (Nat.mul_le_mul_left _ (Nat.pow_le_pow_right (by omega) (show j ≤ 3 by omega))) (by decide))
    by_cases hjn : j + 1 < 3
    · have k1 : (j : Int) + 1 < 3 := by omega
      have e1 : byteAt s ((at_ : Int) + ((j : Int) + 1)) = (byteN s (at_ + (j + 1)) : Int) := byteAt_nat s (at_ + (j + 1))
      have w1 := wrap_byte s (at_ + (j + 1))
      have t1 : (byteN s (at_ + (j + 1)) : Int).tmod 64 = ((byteN s (at_ + (j + 1)) % 64 : Nat) : Int) := rfl
      simp (decide := true) [int, k1, e1, w1, t1, I64, eBytes]
      exact ⟨by omega, by omega, ⟨by omega, by omega⟩, by omega, by omega, j + 1, by omega, by omega, by simp only [accR]; omega, by omega⟩
    · obtain rfl : j = 2 := by omega
      simp (decide := true) [int, I64, eBytes]
      generalize hq : accR s at_ (byteN s at_ - 224) 2 = q at hac2 ⊢
      refine scall_pure (by rfl) (by rfl) (scalar_ok q) (by simp) ?_
      by_cases hsc : scalarR q
      case neg => simp (decide := true) [hsc, int, firstD']
      simp (decide := true) [hsc, int]
      refine scall_pure (by rfl) (by rfl) (enc_ok q (by omega)) (by simp) ?_
      have z1 : ((at_ : Int) + 3).toNat = at_ + 3 := by omega
      have he := enc_eq (s := s) (at_ := at_) (n := 3) (p := q) (by omega) (by omega)
      by_cases hE : encS q = s.extract at_ (at_ + 3)
      · simp (decide := true) [hsc, int, z1, hE, he.1 hE, firstD', I64]
        omega
      · have hE2 : ¬ ((encR q).map (· % 256) = (bytes4 s at_).take 3) := fun h => hE (he.2 h)
        have hE3 : ¬ (encS q).toList = (s.extract at_ (at_ + 3)).toList := fun h => hE (bytes_inj h)
        simp (decide := true) [hsc, int, z1, hE2, hE3, firstD', I64]
        omega
  have q3 : ¬ (224 : Int) ≤ byteN s at_ := by omega
  by_cases c2 : 192 ≤ byteN s at_
  · have q2 : (192 : Int) ≤ byteN s at_ := by omega
    have hl : leadR (byteN s at_) = (byteN s at_ - 192, 2) := by simp [leadR, c4, c3, c2]
    rw [firstS_eq hl (by omega)]
    by_cases hsz : s.size - at_ < 2
    · have g1 : (s.size : Int) < (at_ : Int) + 2 := by omega
      rw [if_pos hsz]
      have ep0 : (byteN s at_ : Int) - 192 = ((byteN s at_ - 192 : Nat) : Int) := by omega
      simp (decide := true) [Tryz.f226, int, hat, e0, w0, q4, q3, q2, g1, I64, eBytes, firstD', ep0]
      omega
    have g1 : ¬ (s.size : Int) < (at_ : Int) + 2 := by omega
    rw [if_neg hsz]
    have hp0 : byteN s at_ - 192 < 256 := by omega
    have ep0 : (byteN s at_ : Int) - 192 = ((byteN s at_ - 192 : Nat) : Int) := by omega
    simp (decide := true) [Tryz.f226, int, hat, e0, w0, q4, q3, q2, g1, I64, eBytes, ep0]
    refine ⟨by omega, ⟨by omega, by omega⟩, ?_⟩
    refine loop_rule mixed (fun j : Nat => { n := 65, next := 0, slots := [(0, .d (.str s)), (1, .d (int at_)), (6, .d (int (accR s at_ (byteN s at_ - 192) j))), (7, .d (int 2)), (8, .d (int (j + 1)))], own := [] })
      (fun j => j + 1 ≤ 2) (fun j => 2 - j) 0 (by simp) (by simp (decide := true) [int, accR]) ?_
    intro j hj
    have hac := accR_lt (s := s) (at_ := at_) hp0 j
    have hac2 : accR s at_ (byteN s at_ - 192) j < 2^30 := Nat.lt_of_lt_of_le hac (Nat.le_trans (Nat.mul_le_mul_left _ (Nat.pow_le_pow_right (by omega) (show j ≤ 3 by omega))) (by decide))
    by_cases hjn : j + 1 < 2
    · have k1 : (j : Int) + 1 < 2 := by omega
      have e1 : byteAt s ((at_ : Int) + ((j : Int) + 1)) = (byteN s (at_ + (j + 1)) : Int) := byteAt_nat s (at_ + (j + 1))
      have w1 := wrap_byte s (at_ + (j + 1))
      have t1 : (byteN s (at_ + (j + 1)) : Int).tmod 64 = ((byteN s (at_ + (j + 1)) % 64 : Nat) : Int) := rfl
      simp (decide := true) [int, k1, e1, w1, t1, I64, eBytes]
      exact ⟨by omega, by omega, ⟨by omega, by omega⟩, by omega, by omega, j + 1, by omega, by omega, by simp only [accR]; omega, by omega⟩
    · obtain rfl : j = 1 := by omega
      simp (decide := true) [int, I64, eBytes]
      generalize hq : accR s at_ (byteN s at_ - 192) 1 = q at hac2 ⊢
      refine scall_pure (by rfl) (by rfl) (scalar_ok q) (by simp) ?_
      by_cases hsc : scalarR q
      case neg => simp (decide := true) [hsc, int, firstD']
      simp (decide := true) [hsc, int]
      refine scall_pure (by rfl) (by rfl) (enc_ok q (by omega)) (by simp) ?_
      have z1 : ((at_ : Int) + 2).toNat = at_ + 2 := by omega
      have he := enc_eq (s := s) (at_ := at_) (n := 2) (p := q) (by omega) (by omega)
      by_cases hE : encS q = s.extract at_ (at_ + 2)
      · simp (decide := true) [hsc, int, z1, hE, he.1 hE, firstD', I64]
        omega
      · have hE2 : ¬ ((encR q).map (· % 256) = (bytes4 s at_).take 2) := fun h => hE (he.2 h)
        have hE3 : ¬ (encS q).toList = (s.extract at_ (at_ + 2)).toList := fun h => hE (bytes_inj h)
        simp (decide := true) [hsc, int, z1, hE2, hE3, firstD', I64]
        omega
  have q2 : ¬ (192 : Int) ≤ byteN s at_ := by omega
  have hl : leadR (byteN s at_) = (byteN s at_, 1) := by simp [leadR, c4, c3, c2]
  rw [firstS_eq hl (by omega)]
  by_cases hsz : s.size - at_ < 1
  · omega
  have g1 : ¬ (s.size : Int) < (at_ : Int) + 1 := by omega
  rw [if_neg hsz]
  have hp0 : byteN s at_ < 256 := by omega
  simp (decide := true) [Tryz.f226, int, hat, e0, w0, q4, q3, q2, g1, I64, eBytes]
  refine ⟨⟨by omega, by omega⟩, ?_⟩
  refine loop_rule mixed (fun j : Nat => { n := 65, next := 0, slots := [(0, .d (.str s)), (1, .d (int at_)), (6, .d (int (accR s at_ (byteN s at_) j))), (7, .d (int 1)), (8, .d (int (j + 1)))], own := [] })
    (fun j => j + 1 ≤ 1) (fun j => 1 - j) 0 (by simp) (by simp (decide := true) [int, accR]) ?_
  intro j hj
  have hac := accR_lt (s := s) (at_ := at_) hp0 j
  have hac2 : accR s at_ (byteN s at_) j < 2^30 := Nat.lt_of_lt_of_le hac (Nat.le_trans (Nat.mul_le_mul_left _ (Nat.pow_le_pow_right (by omega) (show j ≤ 3 by omega))) (by decide))
  by_cases hjn : j + 1 < 1
  · omega
  · obtain rfl : j = 0 := by omega
    simp (decide := true) [int, I64, eBytes]
    generalize hq : accR s at_ (byteN s at_) 0 = q at hac2 ⊢
    refine scall_pure (by rfl) (by rfl) (scalar_ok q) (by simp) ?_
    by_cases hsc : scalarR q
    case neg => simp (decide := true) [hsc, int, firstD']
    simp (decide := true) [hsc, int]
    refine scall_pure (by rfl) (by rfl) (enc_ok q (by omega)) (by simp) ?_
    have z1 : ((at_ : Int) + 1).toNat = at_ + 1 := by omega
    have he := enc_eq (s := s) (at_ := at_) (n := 1) (p := q) (by omega) (by omega)
    by_cases hE : encS q = s.extract at_ (at_ + 1)
    · simp (decide := true) [hsc, int, z1, hE, he.1 hE, firstD', I64]
      omega
    · have hE2 : ¬ ((encR q).map (· % 256) = (bytes4 s at_).take 1) := fun h => hE (he.2 h)
      have hE3 : ¬ (encS q).toList = (s.extract at_ (at_ + 1)).toList := fun h => hE (bytes_inj h)
      simp (decide := true) [hsc, int, z1, hE2, hE3, firstD', I64]
      omega
end Go.V.Doc
namespace Go.V.Doc
open Go Go.Proofs Go.Lib
def ptsGo (s : ByteArray) : Nat → Nat → Option (List Int)
  | 0, _ => some []
  | n + 1, pos => if pos < s.size then (match firstS s pos with
    | none => none
    | some r => (ptsGo s n (pos + r.2)).map ((r.1 : Int) :: ·)) else some []
theorem firstS_good {s : ByteArray} {pos : Nat} (h : pos < s.size) : match firstS s pos with
    | none => decodeN (s.size - pos) (byteN s pos) (byteN s (pos + 1)) (byteN s (pos + 2)) (byteN s (pos + 3)) = (65533, 1)
    | some r => decodeN (s.size - pos) (byteN s pos) (byteN s (pos + 1)) (byteN s (pos + 2)) (byteN s (pos + 3)) = r ∧ ¬ (r.1 = 65533 ∧ r.2 = 1) ∧ r.2 ≤ s.size - pos ∧ 1 ≤ r.2 :=
  firstR_decode _ _ _ _ _ (by omega) (UInt8.toNat_lt _) (UInt8.toNat_lt _) (UInt8.toNat_lt _) (UInt8.toNat_lt _)
theorem valid_at {s : ByteArray} {pos : Nat} (h : pos < s.size) : validD (s.data.toList.drop pos) = match firstS s pos with
    | none => false
    | some r => validD (s.data.toList.drop (pos + r.2)) := by
  have hsz : s.size = s.data.toList.length := by rw [Array.length_toList]; rfl
  have hne : s.data.toList.drop pos ≠ [] := by
    intro e; have := congrArg List.length e; rw [List.length_drop] at this; simp at this; omega
  have hd : decodeL (s.data.toList.drop pos) = decodeN (s.size - pos) (byteN s pos) (byteN s (pos + 1)) (byteN s (pos + 2)) (byteN s (pos + 3)) := by
    rw [decodeL_N, List.length_drop, ← hsz, getD_dropU, getD_dropU, getD_dropU, getD_dropU]; rfl
  rw [validD_step _ hne, hd]
  have hg := firstS_good h
  cases hf : firstS s pos with
  | none => rw [hf] at hg; simp only at hg; rw [hg]; simp
  | some r =>
    rw [hf] at hg; simp only at hg
    obtain ⟨h1, h2, _, _⟩ := hg
    rw [h1, if_neg h2, List.drop_drop]
def badI (p : Int) : Bool := decide (p < 32) || decide (p = 127)
set_option maxHeartbeats 1000000 in
theorem decodeN_bytes (n b0 b1 b2 b3 : Nat) (h0 : b0 < 256) (h1 : b1 < 256) (h2 : b2 < 256) (h3 : b3 < 256) (hb : ¬ ((decodeN n b0 b1 b2 b3).1 = 65533 ∧ (decodeN n b0 b1 b2 b3).2 = 1)) :
    (decodeN n b0 b1 b2 b3 = (b0, 1)) ∨ (128 ≤ (decodeN n b0 b1 b2 b3).1 ∧ 128 ≤ b0 ∧ (1 < (decodeN n b0 b1 b2 b3).2 → 128 ≤ b1) ∧ (2 < (decodeN n b0 b1 b2 b3).2 → 128 ≤ b2) ∧ (3 < (decodeN n b0 b1 b2 b3).2 → 128 ≤ b3) ∧ (decodeN n b0 b1 b2 b3).2 ≤ 4) := by
  revert hb
  unfold decodeN
  repeat' split
  all_goals intro hb
  all_goals first | (left; rfl) | (exfalso; exact hb ⟨rfl, rfl⟩) | (right; simp only; refine ⟨by omega, by omega, fun _ => by omega, fun _ => by omega, fun _ => by omega, by omega⟩)
theorem bad_step {s : ByteArray} {pos : Nat} (h : pos < s.size) {r : Nat × Nat} (hf : firstS s pos = some r) :
    badI (r.1 : Int) = true ↔ ∃ j, pos ≤ j ∧ j < pos + r.2 ∧ badByte (byteN s j) = true := by
  have hg := firstS_good h
  rw [hf] at hg
  simp only at hg
  obtain ⟨h1, h2, h3, h4⟩ := hg
  have hk := decodeN_bytes (s.size - pos) (byteN s pos) (byteN s (pos + 1)) (byteN s (pos + 2)) (byteN s (pos + 3)) (UInt8.toNat_lt _) (UInt8.toNat_lt _) (UInt8.toNat_lt _) (UInt8.toNat_lt _) (by rw [h1]; exact h2)
  rw [h1] at hk
  rcases hk with hk | ⟨g1, g2, g3, g4, g5, g6⟩
  · rw [hk]
    simp only [badI, badByte, Bool.or_eq_true, decide_eq_true_eq]
    constructor
    · intro hb; exact ⟨pos, by omega, by omega, by omega⟩
    · rintro ⟨j, a, b, c⟩
      obtain rfl : j = pos := by omega
      omega
  · simp only [badI, badByte, Bool.or_eq_true, decide_eq_true_eq]
    constructor
    · intro hb; omega
    · rintro ⟨j, a, b, c⟩
      exfalso
      have hj : j = pos ∨ j = pos + 1 ∨ j = pos + 2 ∨ j = pos + 3 := by omega
      rcases hj with rfl | rfl | rfl | rfl
      · omega
      · have := g3 (by omega); omega
      · have := g4 (by omega); omega
      · have := g5 (by omega); omega
theorem pts_valid (s : ByteArray) : ∀ (m pos : Nat), s.size ≤ pos + m → pos ≤ s.size → validD (s.data.toList.drop pos) = (ptsGo s m pos).isSome ∧
    ∀ l, ptsGo s m pos = some l → (l.any badI = true ↔ ∃ j, pos ≤ j ∧ j < s.size ∧ badByte (byteN s j) = true)
  | 0, pos, hm, hp => by
    have hsz : s.size = s.data.toList.length := by rw [Array.length_toList]; rfl
    rw [List.drop_eq_nil_of_le (by omega), validD_nil]
    refine ⟨rfl, fun l hl => ?_⟩
    simp only [ptsGo, Option.some.injEq] at hl
    subst hl
    simp only [List.any_nil, Bool.false_eq_true, false_iff]
    rintro ⟨j, _, _, _⟩; omega
  | m + 1, pos, hm, hp => by
    have hsz : s.size = s.data.toList.length := by rw [Array.length_toList]; rfl
    by_cases h : pos < s.size
    · rw [valid_at h]
      simp only [ptsGo, if_pos h]
      have hg := firstS_good h
      cases hf : firstS s pos with
      | none => exact ⟨rfl, fun l hl => by cases hl⟩
      | some r =>
        rw [hf] at hg
        simp only at hg
        obtain ⟨i1, i2⟩ := pts_valid s m (pos + r.2) (by omega) (by omega)
        simp only
        refine ⟨by rw [i1]; cases ptsGo s m (pos + r.2) <;> rfl, fun l hl => ?_⟩
        rw [Option.map_eq_some_iff] at hl
        obtain ⟨l', hl', rfl⟩ := hl
        rw [List.any_cons, Bool.or_eq_true, i2 l' hl', bad_step h hf]
        constructor
        · rintro (⟨j, a, b, c⟩ | ⟨j, a, b, c⟩)
          · exact ⟨j, by omega, by omega, c⟩
          · exact ⟨j, by omega, b, c⟩
        · rintro ⟨j, a, b, c⟩
          rcases Nat.lt_or_ge j (pos + r.2) with hj | hj
          · exact .inl ⟨j, a, hj, c⟩
          · exact .inr ⟨j, hj, b, c⟩
    · rw [List.drop_eq_nil_of_le (by omega), validD_nil]
      simp only [ptsGo, if_neg h]
      refine ⟨rfl, fun l hl => ?_⟩
      simp only [Option.some.injEq] at hl
      subst hl
      simp only [List.any_nil, Bool.false_eq_true, false_iff]
      rintro ⟨j, _, _, _⟩; omega
theorem textE_eq (s : ByteArray) : textE s = if 200 < s.size then 5 else match ptsGo s s.size 0 with
    | none => 3
    | some l => if l.any badI = true then 3 else 0 := by
  unfold textE
  split
  · rfl
  · obtain ⟨h1, h2⟩ := pts_valid s s.size 0 (by omega) (by omega)
    rw [List.drop_zero] at h1
    have hv : validB s = (ptsGo s s.size 0).isSome := h1
    rw [hv]
    cases hp : ptsGo s s.size 0 with
    | none => rfl
    | some l =>
      simp only [Option.isSome_some, if_true]
      have := h2 l hp
      have hb : badText s = true ↔ l.any badI = true := by
        rw [this]
        unfold badText
        rw [List.any_eq_true]
        constructor
        · rintro ⟨j, hj, hb⟩; exact ⟨j, by omega, by simpa using hj, hb⟩
        · rintro ⟨j, _, hj, hb⟩; exact ⟨j, by simpa using hj, hb⟩
      by_cases h : l.any badI = true
      · rw [if_pos h, if_pos (hb.2 h)]
      · rw [if_neg h, if_neg (fun h' => h (hb.1 h'))]
end Go.V.Doc
namespace Go.V
open Go Go.Proofs
def scD (P : Program) (f : Nat) : Bool := match P.funcs[f]? with
  | some fn => match fn.resultTypes.toList with
    | [T] => (match TI.of P T with
      | some ⟨.int _, _, _, _, _⟩ => true
      | some ⟨.bool, _, _, _, _⟩ => true
      | some ⟨.str, _, _, _, _⟩ => true
      | _ => false)
    | _ => false
  | none => false
def fnD (P : Program) (f : Nat) : Option (Nat × Code × List ResultVar) := match P.funcs[f]? with
  | some fn => match fn.body with
    | some c => some (fn.ntmps, c, fn.results.toList)
    | none => none
  | none => none
def mkG (P : Program) : XG := ⟨fun t => TI.of P t, fun t => zfit P t, fun t => eqKinds P t, fnD P, scD P, fun _ => none, fun _ => none, fun _ => false⟩
def allCan (P : Program) : Bool := (List.range P.funcs.size).all fun f => match P.funcs[f]? with
  | some fn => fn.name != "runtime.NumGoroutine"
  | none => true
theorem mkG_good {P : Program} (h : allCan P = true) : XGood P (mkG P) := by
  refine ⟨fun h => h, fun h => h, fun h => h, ?_, fun h => (by cases h), fun h => (by cases h)⟩
  intro f n c rs hf
  have hf : fnD P f = some (n, c, rs) := hf
  unfold fnD at hf
  split at hf
  · rename_i fn hfn
    split at hf
    · rename_i c' hb
      cases hf
      refine ⟨?_, fn, hfn, hb, rfl, rfl⟩
      unfold allCan at h
      have hlt : f < P.funcs.size := by
        obtain ⟨h1, _⟩ := Array.getElem?_eq_some_iff.1 hfn
        exact h1
      have := (List.all_eq_true.1 h) f (List.mem_range.2 hlt)
      rw [hfn] at this
      unfold callable
      rw [hfn]
      simp only at this ⊢
      rw [this, hb]
      rfl
    · cases hf
  · cases hf
theorem can_all : allCan Tryz.prog = true := by kernel_rfl
theorem mixed_X : Tryz.prog.follows .mixedOrders = true := by kernel_rfl
def isT (r : Option XR) : Bool := match r with
  | some ⟨.d (.bool true), _, _, _⟩ => true
  | _ => false
end Go.V
namespace Go.V.Doc
open Go Go.Proofs Go.Sort Go.RowKit
def ltN : Nt → Nt → Bool := ltOf cmpN
theorem enters_order : ∀ args w, (callFunc 113 args).run Tryz.prog w = .ok (.enter 113 args) w := enters_of Tryz.func113 (by kernel_rfl) rfl
theorem isAggN : ∀ w, (isAgg 72).run Tryz.prog w = .ok true w := fun w => by kernel_rfl
theorem sizeOfN : ∀ w, (Go.sizeOf 72).run Tryz.prog w = .ok 7 w := fun w => by kernel_rfl
def insLoop : Nat → Nat → Array Nt → Array Nt
  | 0, _, d => d
  | k + 1, i, d => insLoop k (i + 1) (insInner ltN 0 i d)
theorem insOuter_loop (b : Nat) : ∀ (k i : Nat) (d : Array Nt), k = b - i → insOuter ltN 0 b i d = insLoop k i d
  | 0, i, d, h => by unfold insOuter; rw [if_neg (by omega)]; rfl
  | k + 1, i, d, h => by unfold insOuter; rw [if_pos (by omega), insOuter_loop b k (i + 1) _ (by omega)]; rfl
def isort (l : List Nt) : List Nt := (insLoop (l.length - 1) 1 l.toArray).toList
theorem isort_eq (l : List Nt) : (Sort.insertionSort ltN l.toArray 0 l.length) = (isort l).toArray := by
  unfold Sort.insertionSort isort
  rw [insOuter_loop l.length (l.length - 1) (0 + 1) _ (by omega)]
theorem ins_ok (T : Nat) (l : List Nt) (hne : l ≠ []) (hl : l.length < 4611686018427387904) (hs : (isort l).length = l.length) :
    CallC Tryz.prog 172 [.ar 0, .d (int 0), .d (int l.length), .fn 113 []] [(0, .arr T 7 (l.map Nt.row))] 1 (.d (.tup [])) 1 [(0, .arr T 7 ((isort l).map Nt.row))] [] := by
  refine sort_bridge nt_enc call_172 hne hs ?_
  intro w E β vs hvs hseen g cap hg hE hH
  simp only [Sms, Sm, R, int] at hvs
  obtain ⟨_, _, rfl, rfl, _, _, rfl, rfl, _, _, rfl, ⟨_, rfl, rfl⟩, rfl⟩ := hvs
  have := AnyQ.insertionSortCmpFunc Tryz.insNote 7 isAggN sizeOfN Nt.enc nt_enc.len nt_enc.one cmpN 113 #[] g 0 cap 0 l.length l.toArray w enters_order
    (order_lays hseen hE) hH hg (Nat.zero_le _) (by simp) (by simpa using hl)
  change Calls Tryz.prog 172 _ _ _ at this
  rw [show ltOf cmpN = ltN from rfl, isort_eq] at this
  simpa using this
theorem ins_nil : CallC Tryz.prog 172 [.d (.sl []), .d (int 0), .d (int 0), .fn 113 []] [] 0 (.tup []) 0 [] [] := by
  refine callC_of_body mixed Tryz.func172 rfl call_172 (by simp [Sym.los, Sym.lo]) ?_
  simp (decide := true) [Tryz.f172, int]
  refine ⟨by unfold I64; omega, loop_rule mixed (fun _ : Unit => { n := 53, next := 0, slots := [(2, .d (int 0)), (8, .d (int 1))], own := [] })
    (fun _ => True) (fun _ => 0) () trivial (by simp (decide := true) [int]) ?_⟩
  intro _ _
  simp (decide := true) [int]
end Go.V.Doc
namespace Go.V.Doc
open Go Go.Proofs
def rowNt : List D → Option Nt
  | [.int .i64 a, .int .i64 b, .int .i64 c, .int .i64 d, .int .i64 e, .int .i64 f, .str t] => some ⟨a, b, c, d, e, f, t⟩
  | _ => none
def rowsNt : List (List D) → Option (List Nt)
  | [] => some []
  | r :: rs => match rowNt r, rowsNt rs with
    | some x, some l => some (x :: l)
    | _, _ => none
theorem rowNt_eq {r : List D} {x : Nt} (h : rowNt r = some x) : r = x.row := by
  unfold rowNt at h
  split at h
  · cases h; rfl
  · cases h
theorem rowsNt_eq : ∀ {rows : List (List D)} {l : List Nt}, rowsNt rows = some l → rows = l.map Nt.row
  | [], l, h => by simp [rowsNt] at h; subst h; rfl
  | r :: rs, l, h => by
    simp only [rowsNt] at h
    split at h
    · rename_i x l' h1 h2
      cases h
      rw [rowNt_eq h1, rowsNt_eq h2]; rfl
    · cases h
def kcIns (args : List Sym) (own : List (Nat × Obj')) (n : Nat) : Option XR := match args, own, n with
  | [.ar 0, .d (.int .i64 a), .d (.int .i64 b), .fn g []], [(0, .arr T 7 rows)], 1 => match rowsNt rows with
    | some l => oguard (Nat.beq g 113 && decide (a = 0) && decide (b = (l.length : Int)) && Nat.blt 0 l.length && Nat.beq (isort l).length l.length && Nat.blt l.length 1000)
        (some ⟨.d (.tup []), 1, [(0, .arr T 7 ((isort l).map Nt.row))], []⟩)
    | none => none
  | [.d (.sl []), .d (.int .i64 a), .d (.int .i64 b), .fn g []], [], 0 => oguard (Nat.beq g 113 && decide (a = 0) && decide (b = 0)) (some ⟨.tup [], 0, [], []⟩)
  | _, _, _ => none
theorem kcIns_good {args : List Sym} {own : List (Nat × Obj')} {n : Nat} {r : XR} (h : kcIns args own n = some r) : CallC Tryz.prog 172 args own n r.s r.nx r.own r.mv := by
  unfold kcIns at h
  split at h
  · rename_i a b g T rows
    split at h
    · rename_i l hl
      rw [oguard_some] at h
      simp only [Bool.and_eq_true, beq_iff, blt_iff, decide_eq_true_eq] at h
      obtain ⟨⟨⟨⟨⟨⟨h1, h2⟩, h3⟩, h4⟩, h5⟩, h6⟩, h⟩ := h
      cases h
      subst h1; subst h2; subst h3
      rw [rowsNt_eq hl]
      exact ins_ok T l (by intro e; subst e; simp at h4) (by omega) h5
    · cases h
  · rename_i a b g
    rw [oguard_some] at h
    simp only [Bool.and_eq_true, beq_iff, decide_eq_true_eq] at h
    obtain ⟨⟨⟨h1, h2⟩, h3⟩, h⟩ := h
    cases h
    subst h1; subst h2; subst h3
    exact ins_nil
  · cases h
noncomputable def mkGs : XG := { mkG Tryz.prog with kc := fun f => match Nat.beq f 172 with
  | true => some kcIns
  | false => none }
theorem mkGs_good : XGood Tryz.prog mkGs := by
  have g := mkG_good can_all
  refine ⟨g.ti, g.zf, g.ek, g.fn, g.kn, ?_⟩
  intro f k args own n r hk hr _
  have hk : (match Nat.beq f 172 with | true => some kcIns | false => none) = some k := hk
  split at hk
  · rename_i e
    rw [beq_iff] at e
    cases hk
    subst e
    exact kcIns_good hr
  · cases hk
end Go.V.Doc
namespace Go.V.Doc
open Go Go.Proofs
def ptsD : Option (List Int) → D
  | none => .tup [.sl [], .bool false]
  | some l => .tup [ints l, .bool true]
def ptsS (s : ByteArray) (x : List Int × Nat × Nat) : St :=
  { n := 28, next := 2, slots := [(0, .d (.str s)), (4, .ar 1), (5, .d (int x.2.1))], own := [(1, .arr 3 1 (x.1.map fun n => [.int .i64 n]))], moved := [1] }
theorem pts_len (s : ByteArray) : ∀ (m pos : Nat) (l : List Int), ptsGo s m pos = some l → l.length ≤ m
  | 0, pos, l, h => by simp [ptsGo] at h; subst h; simp
  | m + 1, pos, l, h => by
    simp only [ptsGo] at h
    split at h
    · split at h
      · cases h
      · rw [Option.map_eq_some_iff] at h
        obtain ⟨l', h', rfl⟩ := h
        have := pts_len s m _ l' h'
        simp; omega
    · cases h; simp
set_option maxHeartbeats 1000000 in
theorem refPoints_ok (s : ByteArray) (hs : s.size ≤ 1000000) : PureR Tryz.prog 192 [.str s] (ptsD (ptsGo s s.size 0)) := by
  refine pure_of_body_frz mixed Tryz.func192 rfl call_192 [1, 2] ?_
  simp (decide := true) [Tryz.f192]
  refine loop_rule mixed (ptsS s) (fun x => x.2.1 ≤ s.size ∧ s.size ≤ x.2.1 + x.2.2 ∧ x.1.length ≤ x.2.1 ∧ ptsGo s s.size 0 = (ptsGo s x.2.2 x.2.1).map (x.1 ++ ·)) (fun x => x.2.2) ([], 0, s.size)
    ⟨by simp, by simp, by simp, by simp⟩ (by simp (decide := true) [ptsS, int]) ?_
  rintro ⟨acc, pos, m⟩ ⟨h1, h2, h3, h4⟩
  simp only at h1 h2 h3 h4
  by_cases hlt : pos < s.size
  · have hlt' : (pos : Int) < s.size := by omega
    obtain ⟨m, rfl⟩ : ∃ k, m = k + 1 := ⟨m - 1, by omega⟩
    simp only [ptsGo, if_pos hlt] at h4
    have hg := firstS_good hlt
    have hf0 := first_ok s pos hlt hs
    simp (decide := true) [ptsS, int, hlt']
    refine ECall.pure (by rfl) hf0 (by simp) ?_
    cases hf : firstS s pos with
    | none =>
      rw [hf] at h4
      simp (decide := true) [firstD', int, ptsD, h4]
    | some r =>
      rw [hf] at h4 hg
      simp only at h4 hg
      obtain ⟨_, _, g3, g4⟩ := hg
      have e1 : ¬ r.2 = 0 := by omega
      simp (decide := true) [firstD', int, e1, I64]
      refine ⟨by omega, by unfold maxLen; omega, ⟨by omega, by omega⟩, acc ++ [(r.1 : Int)], pos + r.2, m, ⟨by omega, by omega, by simp; omega, by rw [h4]; cases ptsGo s m (pos + r.2) <;> simp⟩, by omega, ?_⟩
      simp (decide := true) [ptsS, int]
  · have hlt' : ¬ (pos : Int) < s.size := by omega
    have hm : ptsGo s m pos = some [] := by cases m <;> simp [ptsGo, hlt]
    rw [hm] at h4
    simp (decide := true) [ptsS, int, hlt', h4, ptsD, ints]
theorem refText_ok (s : ByteArray) : PureR Tryz.prog 132 [.str s] (int (textE s)) := by
  refine pure_of_body mixed Tryz.func132 rfl call_132 ?_
  rw [textE_eq]
  by_cases h0 : 200 < s.size
  · have h0' : (200 : Int) < s.size := by omega
    simp (decide := true) [Tryz.f132, h0', h0, int]
  have h0' : ¬ (200 : Int) < s.size := by omega
  simp (decide := true) [Tryz.f132, h0', h0, int]
  refine ECall.pure (by rfl) (refPoints_ok s (by omega)) (by simp) ?_
  cases hp : ptsGo s s.size 0 with
  | none => simp (decide := true) [ptsD, int]
  | some l =>
    have hll : l.length ≤ s.size := pts_len s _ _ _ hp
    simp (decide := true) [ptsD, ints, int]
    refine loop_rule mixed (fun k : Nat => { n := 34, next := 0, slots := [(3, .d (ints l)), (5, .d (int k))], own := [] })
      (fun k => k ≤ l.length ∧ ∀ x ∈ l.take k, badI x = false) (fun k => l.length - k) 0 (by simp) (by simp (decide := true) [int, ints]) ?_
    intro k ⟨hk, hq⟩
    by_cases hlt : k < l.length
    · have e1 : l[k]? = some l[k] := List.getElem?_eq_getElem hlt
      have hbad : badI l[k] = true → l.any badI = true := fun hb => List.any_eq_true.2 ⟨l[k], List.getElem_mem hlt, hb⟩
      by_cases b1 : l[k] < 32
      · have hb := hbad (by simp [badI, b1])
        simp (decide := true) [ints, int, e1, hlt, b1]
        exact List.any_eq_true.1 hb
      · by_cases b2 : l[k] = 127
        · have hb := hbad (by simp [badI, b2])
          simp (decide := true) [ints, int, e1, hlt, b1, b2]
          exact List.any_eq_true.1 hb
        · simp (decide := true) [ints, int, e1, hlt, b1, b2, I64]
          refine ⟨by omega, k + 1, ⟨hlt, ?_⟩, by omega, by omega⟩
          rw [List.take_succ_eq_append_getElem hlt]
          intro x hx
          rcases List.mem_append.1 hx with hx | hx
          · exact hq x hx
          · simp at hx; rw [hx]; simp [badI, b1, b2]
    · have : k = l.length := by omega
      subst this
      rw [List.take_length] at hq
      have hb : l.any badI = false := by rw [List.any_eq_false]; intro x hx; simp [hq x hx]
      simp (decide := true) [ints, int]
      exact hq
end Go.V.Doc
namespace Go.V.Doc
open Go Go.Proofs
def rightS (f t : Int) : Bool := decide (0 ≤ f) && decide (f < t) && decide (t ≤ 86400000)
def tirAt (d : Dc) (i : Int) : Tir := d.tiers[i.toNat]?.getD default
def withinP (d : Dc) (n p : Nt) : Bool :=
  if alT d.tiers n.tier = true then rightS n.fr n.tO && (if (tirAt d n.tier).kind = 0 then decide (0 ≤ n.fr) && decide (n.tO ≤ d.len) else decide (p.fr ≤ n.fr) && decide (n.tO ≤ p.tO))
  else decide (n.fr = 0) && decide (n.tO = 0)
def noteE (d : Dc) (n : Nt) : Int :=
  if textE n.text = 0 then
    (if (if (tirAt d n.tier).kind = 0 then decide (n.par = 0) else (getN d.notes n.par).2 && decide ((getN d.notes n.par).1.tier = (tirAt d n.tier).par)) = true then
      (if withinP d n (getN d.notes n.par).1 = true then (if n.rank < 0 ∨ (n.rank ≠ 0 ∧ (tirAt d n.tier).kind ≠ 3) then 1 else 0) else 12)
    else 13)
  else textE n.text
end Go.V.Doc
namespace Go.V.Doc
open Go Go.Proofs Go.Sort Go.RowKit
theorem ltN_iff {a b : Nt} : ltN a b = true ↔ a.par < b.par ∨ (a.par = b.par ∧ (a.fr < b.fr ∨ (a.fr = b.fr ∧ a.rank < b.rank))) := by
  unfold ltN ltOf cmpN
  rw [decide_eq_true_eq]
  simp only [orI, cmpI]
  repeat' split
  all_goals omega
theorem ltN_false {a b : Nt} : ltN a b = false ↔ ¬ (a.par < b.par ∨ (a.par = b.par ∧ (a.fr < b.fr ∨ (a.fr = b.fr ∧ a.rank < b.rank)))) := by
  rw [← ltN_iff, Bool.not_eq_true]
theorem swoN : SWO ltN where
  irrefl := fun x => by rw [ltN_false]; omega
  trans := fun x y z h1 h2 => by rw [ltN_iff] at *; omega
  ntrans := fun x y z h1 h2 => by rw [ltN_false] at *; omega
def sortN (l : List Nt) : List Nt := (pdq ltN l.toArray 0 l.length (Lib.bitLen l.length) true true).toList
theorem sortN_spec (l : List Nt) : PermIn 0 l.length l.toArray (pdq ltN l.toArray 0 l.length (Lib.bitLen l.length) true true) ∧ SortedIn ltN 0 l.length (pdq ltN l.toArray 0 l.length (Lib.bitLen l.length) true true) :=
  pdq_sorts ltN swoN l.toArray 0 l.length (Lib.bitLen l.length) true true (Nat.zero_le _) (by simp) (Or.inl rfl)
theorem sortN_length (l : List Nt) : (sortN l).length = l.length := by
  have := (sortN_spec l).1.1
  unfold sortN
  rw [Array.length_toList, this]; simp
theorem sortN_perm (l : List Nt) : (sortN l).Perm l := by
  obtain ⟨h1, _, h3⟩ := (sortN_spec l).1
  unfold sortN
  generalize pdq ltN l.toArray 0 l.length (Lib.bitLen l.length) true true = A at h1 h3
  have e1 : A.extract 0 l.length = A := by rw [show l.length = A.size by rw [h1]; simp]; simp
  have e2 : l.toArray.extract 0 l.length = l.toArray := by rw [show l.length = l.toArray.size by simp]; simp
  rw [e1, e2] at h3
  simpa using h3
theorem sortN_sorted (l : List Nt) : (sortN l).Pairwise fun a b => ltN b a = false := by
  have hs := (sortN_spec l).2
  have hl := sortN_length l
  unfold sortN at hl ⊢
  generalize pdq ltN l.toArray 0 l.length (Lib.bitLen l.length) true true = A at hs hl
  rw [List.pairwise_iff_getElem]
  intro i j hi hj hij
  rw [Array.length_toList] at hl
  have := hs i j (Nat.zero_le _) hij (by rw [Array.length_toList] at hj; omega)
  rw [Array.length_toList] at hi hj
  simpa [getElem!_pos, hi, hj] using this
abbrev noNotes : List (Nat × Obj') := [(0, .arr 72 7 [])]
theorem insE_ok : CallC Tryz.prog 172 [.ar 0, .d (int 0), .d (int 0), .fn 113 []] noNotes 1 (.tup []) 1 noNotes [] := by
  refine callC_of_body mixed Tryz.func172 rfl call_172 (by simp [Sym.los, Sym.lo]) ?_
  simp (decide := true) [Tryz.f172, int]
  refine ⟨by unfold I64; omega, loop_rule mixed (fun _ : Unit => { n := 53, next := 1, slots := [(2, .d (int 0)), (8, .d (int 1))], own := noNotes, base := 1 })
    (fun _ => True) (fun _ => 0) () trivial (by simp (decide := true) [int]) ?_⟩
  intro _ _
  simp (decide := true) [int]
theorem CallC.unit {P : Program} {f : Nat} {args : List Sym} {own : List (Nat × Obj')} {n nx : Nat} {own' : List (Nat × Obj')} {mv : List Nat} (h : CallC P f args own n (.tup []) nx own' mv) : CallC P f args own n (.d (.tup [])) nx own' mv := by
  refine ⟨h.1, fun X w0 β w vs hβ hm hs => (h.2 X w0 β w vs hβ hm hs).mono fun e w' he => ?_⟩
  obtain ⟨β', v, h1, h2, h3, h4⟩ := he
  refine ⟨β', v, h1, h2, by simp [Sym.lo], ?_⟩
  simp only [Sm, Sms] at h4
  obtain ⟨vs', rfl, rfl⟩ := h4
  simp [Sm, R, Rvals]
end Go.V.Doc
namespace Go.V.Doc
open Go Go.Proofs
def ofT (l : List Nt) (t : Int) : List Nt := l.filter fun n => decide (n.tier = t)
def firstB (s : List Nt) (i : Nat) : Bool := decide (i = 0) || !decide ((s[i - 1]?.getD default).par = (s[i]?.getD default).par)
def lastB (s : List Nt) (i : Nat) : Bool := decide (i + 1 = s.length) || !decide ((s[i + 1]?.getD default).par = (s[i]?.getD default).par)
def tierGo (notes : List Nt) (kind : Int) (s : List Nt) : Nat → Nat → Int → Int
  | 0, _, why => why
  | m + 1, i, why => if i < s.length then
      (let n := s[i]?.getD default
       let pv := s[i - 1]?.getD default
       let p := (getN notes n.par).1
       if kind = 0 ∨ kind = 1 ∨ kind = 2 then
         (if firstB s i = false ∧ n.fr < pv.tO then 15
          else tierGo notes kind s m (i + 1) (if kind = 1 ∧ ((firstB s i = true ∧ n.fr ≠ p.fr) ∨ (firstB s i = false ∧ pv.tO ≠ n.fr) ∨ (lastB s i = true ∧ n.tO ≠ p.tO)) then 16 else why))
       else if kind = 3 then tierGo notes kind s m (i + 1) (if (firstB s i = true ∧ n.rank ≠ 0) ∨ (firstB s i = false ∧ n.rank ≠ IntKind.i64.wrap (pv.rank + 1)) then 10 else why)
       else if kind = 4 then tierGo notes kind s m (i + 1) (if firstB s i = false then 8 else why)
       else tierGo notes kind s m (i + 1) why)
    else why
def tierE (d : Dc) (t : Int) : Int := tierGo d.notes (tirAt d t).kind (sortN (ofT d.notes t)) (ofT d.notes t).length 0 0
end Go.V.Doc
namespace Go.V.Doc
open Go Go.Proofs
def notesGo (d : Dc) : Nat → Nat → Int
  | 0, _ => 0
  | m + 1, i => if i < d.notes.length then
      (let n := d.notes[i]?.getD default
       if n.id < 1 ∨ 1099511627776 < n.id then 2 else if i ≠ 0 ∧ n.id ≤ (d.notes[i - 1]?.getD default).id then 10
       else if n.tier < 0 ∨ (d.tiers.length : Int) ≤ n.tier then 2 else if noteE d n = 0 then notesGo d m (i + 1) else noteE d n)
    else 0
def tierGos (d : Dc) : Nat → Nat → Int
  | 0, _ => 0
  | m + 1, i => if i < d.tiers.length then (if tierE d i = 0 then tierGos d m (i + 1) else tierE d i) else 0
def checkE (d : Dc) : Int :=
  if tiersE d.tiers ≠ 0 then tiersE d.tiers else if d.len < 0 ∨ 86400000 < d.len then 12 else if 300 < d.notes.length then 11
  else if notesGo d d.notes.length 0 ≠ 0 then notesGo d d.notes.length 0 else tierGos d d.tiers.length 0
end Go.V.Doc
namespace Go.V.Doc
open Go Go.Proofs
theorem alR_ok (k : Int) : PureR Tryz.prog 135 [int k] (.bool (alK k)) := by
  refine pure_of_body mixed Tryz.func135 rfl call_135 ?_
  by_cases h0 : k = 0
  · subst h0; simp (decide := true) [Tryz.f135, int, alK]
  by_cases h1 : k = 1
  · subst h1; simp (decide := true) [Tryz.f135, int, alK]
  by_cases h2 : k = 2
  · subst h2; simp (decide := true) [Tryz.f135, int, alK]
  simp (decide := true) [Tryz.f135, int, alK, h0, h1, h2]
theorem rightR_ok (f t : Int) : PureR Tryz.prog 193 [.agg [int f, int t]] (.bool (rightS f t)) := by
  refine pure_of_body mixed Tryz.func193 rfl call_193 ?_
  by_cases h1 : 0 ≤ f
  case neg => simp (decide := true) [Tryz.f193, int, rightS, h1]
  by_cases h2 : f < t
  case neg => simp (decide := true) [Tryz.f193, int, rightS, h1, h2]
  simp (decide := true) [Tryz.f193, int, rightS, h1, h2]
def placeE (d : Dc) (n : Nt) : Int :=
  if (if (tirAt d n.tier).kind = 0 then decide (n.par = 0) else (getN d.notes n.par).2 && decide ((getN d.notes n.par).1.tier = (tirAt d n.tier).par)) = true then
    (if withinP d n (getN d.notes n.par).1 = true then (if n.rank < 0 ∨ (n.rank ≠ 0 ∧ (tirAt d n.tier).kind ≠ 3) then 1 else 0) else 12)
  else 13
theorem noteE_place (d : Dc) (n : Nt) : noteE d n = if textE n.text = 0 then placeE d n else textE n.text := rfl
set_option maxHeartbeats 8000000 in
theorem placed_ok (d : Dc) (n : Nt) (hl : d.tiers.length < 2^62) (hn : d.notes.length < 2^62) (h0 : 0 ≤ n.tier) (h1 : n.tier < d.tiers.length) :
    PureR Tryz.prog 133 [docD d, .agg n.row] (int (placeE d n)) := by
  refine pure_of_body mixed Tryz.func133 rfl call_133 ?_
  obtain ⟨ni, nt, np, nf, nto, nr, nx⟩ := n
  simp only at h0 h1
  obtain ⟨k, rfl⟩ : ∃ k : Nat, nt = k := ⟨nt.toNat, by omega⟩
  have hk : k < d.tiers.length := by omega
  obtain ⟨t, ek⟩ : ∃ t, d.tiers[k] = t := ⟨_, rfl⟩
  have e1 : d.tiers[k]? = some t := by rw [List.getElem?_eq_getElem hk, ek]
  have et : tirAt d (k : Int) = t := by simp [tirAt, e1]
  obtain ⟨tn, kd, tr, tp⟩ := t
  have hal : alT d.tiers (k : Int) = alK kd := by
    unfold alT; rw [decide_eq_true (by omega), decide_eq_true (by omega), Int.toNat_natCast, e1]; rfl
  simp (decide := true) [Tryz.f133, docD, Dc.row, Nt.row, Tir.row, int, ints, notesD, tiersD, hk, e1, ek]
  refine ECall.pure (by rfl) (refGet_ok d np hn) (by simp (decide := true) [docD, Dc.row, int, ints, tiersD, notesD]) ?_
  have hpl : placeE d ⟨ni, k, np, nf, nto, nr, nx⟩ = if (if kd = 0 then decide (np = 0) else (getN d.notes np).2 && decide ((getN d.notes np).1.tier = tp)) = true then
    (if withinP d ⟨ni, k, np, nf, nto, nr, nx⟩ (getN d.notes np).1 = true then (if nr < 0 ∨ (nr ≠ 0 ∧ kd ≠ 3) then 1 else 0) else 12) else 13 := by
    simp only [placeE, et]
  rw [hpl]
  have hwi : ∀ q : Nt, withinP d ⟨ni, k, np, nf, nto, nr, nx⟩ q = if alK kd = true then rightS nf nto && (if kd = 0 then decide (0 ≤ nf) && decide (nto ≤ d.len) else decide (q.fr ≤ nf) && decide (nto ≤ q.tO))
      else decide (nf = 0) && decide (nto = 0) := by
    intro q; simp only [withinP, et, hal]
  simp only [hwi]
  clear hpl hwi
  obtain ⟨⟨p, ok⟩, eg⟩ : ∃ g, getN d.notes np = g := ⟨_, rfl⟩
  rw [eg]
  obtain ⟨pi, pt, pp, pf, pto, prr, px⟩ := p
  simp only [getD']
  by_cases k0 : kd = 0
  · subst k0
    have ak : alK 0 = true := rfl
    by_cases p0 : np = 0
    case neg =>
      simp (decide := true) [int, Nt.row, Tir.row, ak, p0]
      repeat first
        | (refine ECall.pure (by rfl) (alR_ok _) (by simp [int]) ?_; simp (decide := true) [int, Nt.row, Tir.row, ak, p0])
        | (refine ECall.pure (by rfl) (rightR_ok _ _) (by simp [int]) ?_; simp (decide := true) [int, Nt.row, Tir.row, ak, p0])
    subst p0
    by_cases hr : rightS nf nto = true
    case neg =>
      simp (decide := true) [int, Nt.row, Tir.row, ak, hr]
      repeat first
        | (refine ECall.pure (by rfl) (alR_ok _) (by simp [int]) ?_; simp (decide := true) [int, Nt.row, Tir.row, ak, hr])
        | (refine ECall.pure (by rfl) (rightR_ok _ _) (by simp [int]) ?_; simp (decide := true) [int, Nt.row, Tir.row, ak, hr])
    have hf : 0 ≤ nf := by simp only [rightS, Bool.and_eq_true, decide_eq_true_eq] at hr; omega
    by_cases hz : nto ≤ d.len
    case neg =>
      simp (decide := true) [int, Nt.row, Tir.row, ak, hr, hf, hz]
      repeat first
        | (refine ECall.pure (by rfl) (alR_ok _) (by simp [int]) ?_; simp (decide := true) [int, Nt.row, Tir.row, ak, hr, hf, hz])
        | (refine ECall.pure (by rfl) (rightR_ok _ _) (by simp [int]) ?_; simp (decide := true) [int, Nt.row, Tir.row, ak, hr, hf, hz])
    by_cases r1 : nr < 0
    · skip
      simp (decide := true) [int, Nt.row, Tir.row, ak, hr, hf, hz, r1]
      repeat first
        | (refine ECall.pure (by rfl) (alR_ok _) (by simp [int]) ?_; simp (decide := true) [int, Nt.row, Tir.row, ak, hr, hf, hz, r1])
        | (refine ECall.pure (by rfl) (rightR_ok _ _) (by simp [int]) ?_; simp (decide := true) [int, Nt.row, Tir.row, ak, hr, hf, hz, r1])
    by_cases r2 : nr = 0
    · skip
      simp (decide := true) [int, Nt.row, Tir.row, ak, hr, hf, hz, r1, r2]
      repeat first
        | (refine ECall.pure (by rfl) (alR_ok _) (by simp [int]) ?_; simp (decide := true) [int, Nt.row, Tir.row, ak, hr, hf, hz, r1, r2])
        | (refine ECall.pure (by rfl) (rightR_ok _ _) (by simp [int]) ?_; simp (decide := true) [int, Nt.row, Tir.row, ak, hr, hf, hz, r1, r2])
    simp (decide := true) [int, Nt.row, Tir.row, ak, hr, hf, hz, r1, r2]
    repeat first
      | (refine ECall.pure (by rfl) (alR_ok _) (by simp [int]) ?_; simp (decide := true) [int, Nt.row, Tir.row, ak, hr, hf, hz, r1, r2])
      | (refine ECall.pure (by rfl) (rightR_ok _ _) (by simp [int]) ?_; simp (decide := true) [int, Nt.row, Tir.row, ak, hr, hf, hz, r1, r2])
  cases ok with
  | false =>
    simp (decide := true) [int, Nt.row, Tir.row, k0]
    repeat first
      | (refine ECall.pure (by rfl) (alR_ok _) (by simp [int]) ?_; simp (decide := true) [int, Nt.row, Tir.row, k0])
      | (refine ECall.pure (by rfl) (rightR_ok _ _) (by simp [int]) ?_; simp (decide := true) [int, Nt.row, Tir.row, k0])
  | true =>
    by_cases pq : pt = tp
    case neg =>
      simp (decide := true) [int, Nt.row, Tir.row, k0, pq]
      repeat first
        | (refine ECall.pure (by rfl) (alR_ok _) (by simp [int]) ?_; simp (decide := true) [int, Nt.row, Tir.row, k0, pq])
        | (refine ECall.pure (by rfl) (rightR_ok _ _) (by simp [int]) ?_; simp (decide := true) [int, Nt.row, Tir.row, k0, pq])
    by_cases ha : alK kd = true
    · skip
      have k3 : ¬ kd = 3 := by rintro rfl; exact absurd ha (by decide)
      by_cases hr : rightS nf nto = true
      case neg =>
        simp (decide := true) [int, Nt.row, Tir.row, k0, pq, ha, hr]
        repeat first
          | (refine ECall.pure (by rfl) (alR_ok _) (by simp [int]) ?_; simp (decide := true) [int, Nt.row, Tir.row, k0, pq, ha, hr])
          | (refine ECall.pure (by rfl) (rightR_ok _ _) (by simp [int]) ?_; simp (decide := true) [int, Nt.row, Tir.row, k0, pq, ha, hr])
      by_cases b1 : pf ≤ nf
      case neg =>
        simp (decide := true) [int, Nt.row, Tir.row, k0, pq, ha, hr, b1]
        repeat first
          | (refine ECall.pure (by rfl) (alR_ok _) (by simp [int]) ?_; simp (decide := true) [int, Nt.row, Tir.row, k0, pq, ha, hr, b1])
          | (refine ECall.pure (by rfl) (rightR_ok _ _) (by simp [int]) ?_; simp (decide := true) [int, Nt.row, Tir.row, k0, pq, ha, hr, b1])
      by_cases b2 : nto ≤ pto
      case neg =>
        simp (decide := true) [int, Nt.row, Tir.row, k0, pq, ha, hr, b1, b2]
        repeat first
          | (refine ECall.pure (by rfl) (alR_ok _) (by simp [int]) ?_; simp (decide := true) [int, Nt.row, Tir.row, k0, pq, ha, hr, b1, b2])
          | (refine ECall.pure (by rfl) (rightR_ok _ _) (by simp [int]) ?_; simp (decide := true) [int, Nt.row, Tir.row, k0, pq, ha, hr, b1, b2])
      by_cases r1 : nr < 0
      · skip
        simp (decide := true) [int, Nt.row, Tir.row, k0, pq, ha, hr, b1, b2, k3, r1]
        repeat first
          | (refine ECall.pure (by rfl) (alR_ok _) (by simp [int]) ?_; simp (decide := true) [int, Nt.row, Tir.row, k0, pq, ha, hr, b1, b2, k3, r1])
          | (refine ECall.pure (by rfl) (rightR_ok _ _) (by simp [int]) ?_; simp (decide := true) [int, Nt.row, Tir.row, k0, pq, ha, hr, b1, b2, k3, r1])
      by_cases r2 : nr = 0
      · skip
        simp (decide := true) [int, Nt.row, Tir.row, k0, pq, ha, hr, b1, b2, k3, r1, r2]
        repeat first
          | (refine ECall.pure (by rfl) (alR_ok _) (by simp [int]) ?_; simp (decide := true) [int, Nt.row, Tir.row, k0, pq, ha, hr, b1, b2, k3, r1, r2])
          | (refine ECall.pure (by rfl) (rightR_ok _ _) (by simp [int]) ?_; simp (decide := true) [int, Nt.row, Tir.row, k0, pq, ha, hr, b1, b2, k3, r1, r2])
      simp (decide := true) [int, Nt.row, Tir.row, k0, pq, ha, hr, b1, b2, k3, r1, r2]
      repeat first
        | (refine ECall.pure (by rfl) (alR_ok _) (by simp [int]) ?_; simp (decide := true) [int, Nt.row, Tir.row, k0, pq, ha, hr, b1, b2, k3, r1, r2])
        | (refine ECall.pure (by rfl) (rightR_ok _ _) (by simp [int]) ?_; simp (decide := true) [int, Nt.row, Tir.row, k0, pq, ha, hr, b1, b2, k3, r1, r2])
    by_cases z1 : nf = 0
    case neg =>
      simp (decide := true) [int, Nt.row, Tir.row, k0, pq, ha, z1]
      repeat first
        | (refine ECall.pure (by rfl) (alR_ok _) (by simp [int]) ?_; simp (decide := true) [int, Nt.row, Tir.row, k0, pq, ha, z1])
        | (refine ECall.pure (by rfl) (rightR_ok _ _) (by simp [int]) ?_; simp (decide := true) [int, Nt.row, Tir.row, k0, pq, ha, z1])
    by_cases z2 : nto = 0
    case neg =>
      simp (decide := true) [int, Nt.row, Tir.row, k0, pq, ha, z1, z2]
      repeat first
        | (refine ECall.pure (by rfl) (alR_ok _) (by simp [int]) ?_; simp (decide := true) [int, Nt.row, Tir.row, k0, pq, ha, z1, z2])
        | (refine ECall.pure (by rfl) (rightR_ok _ _) (by simp [int]) ?_; simp (decide := true) [int, Nt.row, Tir.row, k0, pq, ha, z1, z2])
    by_cases r1 : nr < 0
    · skip
      simp (decide := true) [int, Nt.row, Tir.row, k0, pq, ha, z1, z2, r1]
      repeat first
        | (refine ECall.pure (by rfl) (alR_ok _) (by simp [int]) ?_; simp (decide := true) [int, Nt.row, Tir.row, k0, pq, ha, z1, z2, r1])
        | (refine ECall.pure (by rfl) (rightR_ok _ _) (by simp [int]) ?_; simp (decide := true) [int, Nt.row, Tir.row, k0, pq, ha, z1, z2, r1])
    by_cases r2 : nr = 0
    · skip
      simp (decide := true) [int, Nt.row, Tir.row, k0, pq, ha, z1, z2, r1, r2]
      repeat first
        | (refine ECall.pure (by rfl) (alR_ok _) (by simp [int]) ?_; simp (decide := true) [int, Nt.row, Tir.row, k0, pq, ha, z1, z2, r1, r2])
        | (refine ECall.pure (by rfl) (rightR_ok _ _) (by simp [int]) ?_; simp (decide := true) [int, Nt.row, Tir.row, k0, pq, ha, z1, z2, r1, r2])
    by_cases r3 : kd = 3
    · skip
      subst r3
      simp (decide := true) [int, Nt.row, Tir.row, k0, pq, ha, z1, z2, r1, r2]
      repeat first
        | (refine ECall.pure (by rfl) (alR_ok _) (by simp [int]) ?_; simp (decide := true) [int, Nt.row, Tir.row, k0, pq, ha, z1, z2, r1, r2])
        | (refine ECall.pure (by rfl) (rightR_ok _ _) (by simp [int]) ?_; simp (decide := true) [int, Nt.row, Tir.row, k0, pq, ha, z1, z2, r1, r2])
    simp (decide := true) [int, Nt.row, Tir.row, k0, pq, ha, z1, z2, r1, r2, r3]
    repeat first
      | (refine ECall.pure (by rfl) (alR_ok _) (by simp [int]) ?_; simp (decide := true) [int, Nt.row, Tir.row, k0, pq, ha, z1, z2, r1, r2, r3])
      | (refine ECall.pure (by rfl) (rightR_ok _ _) (by simp [int]) ?_; simp (decide := true) [int, Nt.row, Tir.row, k0, pq, ha, z1, z2, r1, r2, r3])
def noteIE (d : Dc) (i : Nat) : Int :=
  let n := d.notes[i]?.getD default
  if n.id < 1 ∨ 1099511627776 < n.id then 2 else if i ≠ 0 ∧ n.id ≤ (d.notes[i - 1]?.getD default).id then 10
  else if n.tier < 0 ∨ (d.tiers.length : Int) ≤ n.tier then 2 else noteE d n
theorem notesGo_IE (d : Dc) : ∀ (m i : Nat), notesGo d (m + 1) i = if i < d.notes.length then (if noteIE d i = 0 then notesGo d m (i + 1) else noteIE d i) else 0 := by
  intro m i
  simp only [notesGo, noteIE]
  split
  · split
    · simp
    · split
      · simp
      · split
        · simp
        · rfl
  · rfl
set_option maxHeartbeats 4000000 in
theorem noteError_ok (d : Dc) (i : Nat) (hi : i < d.notes.length) (hl : d.tiers.length < 2^62) (hn : d.notes.length < 2^62) (hx : ∀ n ∈ d.notes, n.text.size ≤ 9223372036854775807) :
    PureR Tryz.prog 80 [docD d, int i] (int (noteIE d i)) := by
  refine pure_of_body mixed Tryz.func80 rfl call_80 ?_
  have hi' : (i : Int) < d.notes.length := by omega
  obtain ⟨n, en'⟩ : ∃ n, d.notes[i] = n := ⟨_, rfl⟩
  have en : d.notes[i]? = some n := by rw [List.getElem?_eq_getElem hi, en']
  have hsz := hx n (by rw [← en']; exact List.getElem_mem hi)
  have hpl := fun a b => placed_ok d n hl hn a b
  have hE : noteIE d i = if n.id < 1 ∨ 1099511627776 < n.id then 2 else if i ≠ 0 ∧ n.id ≤ (d.notes[i - 1]?.getD default).id then 10
    else if n.tier < 0 ∨ (d.tiers.length : Int) ≤ n.tier then 2 else if textE n.text = 0 then placeE d n else textE n.text := by
    simp only [noteIE, en, Option.getD_some, noteE_place]
  rw [hE]
  clear hE
  have B : True := trivial
  by_cases a1 : n.id < 1
  · simp (decide := true) [Tryz.f80, docD, Dc.row, notesD, Nt.row, int, ints, hi, hi', en, en', a1]
  by_cases a2 : 1099511627776 < n.id
  · simp (decide := true) [Tryz.f80, docD, Dc.row, notesD, Nt.row, int, ints, hi, hi', en, en', a1, a2]
  have fin : ∀ (hi0 : ¬ (i ≠ 0 ∧ n.id ≤ (d.notes[i - 1]?.getD default).id)), True := fun _ => trivial
  cases i with
  | zero =>
    by_cases b1 : n.tier < 0
    · simp (decide := true) [Tryz.f80, docD, Dc.row, notesD, Nt.row, int, ints, hi, hi', en, en', a1, a2, b1]
    by_cases b2 : (d.tiers.length : Int) ≤ n.tier
    · simp (decide := true) [Tryz.f80, docD, Dc.row, notesD, Nt.row, int, ints, tiersD, hi, hi', en, en', a1, a2, b1, b2]
    simp (decide := true) [Tryz.f80, docD, Dc.row, notesD, Nt.row, int, ints, tiersD, hi, hi', en, en', a1, a2, b1, b2]
    refine ECall.pure (by rfl) (refText_ok n.text) (by simp [int]) ?_
    by_cases ht : textE n.text = 0
    case neg => simp (decide := true) [int, ht]
    simp (decide := true) [int, ht]
    refine ECall.pure (by rfl) (hpl (by omega) (by omega)) (by simp (decide := true) [docD, Dc.row, int, ints, notesD, tiersD, Nt.row]) ?_
    simp (decide := true) [int]
  | succ j =>
    have hjl : j < d.notes.length := by omega
    have hjl' : (j : Int) < d.notes.length := by omega
    obtain ⟨pv, ep'⟩ : ∃ pv, d.notes[j] = pv := ⟨_, rfl⟩
    have ep : d.notes[j]? = some pv := by rw [List.getElem?_eq_getElem hjl, ep']
    have j0 : (0 : Int) < (j : Int) + 1 := by omega
    have j1 : (j : Int) + 1 - 1 = j := by omega
    have jz : ¬ (j : Int) + 1 = 0 := by omega
    have hq : (j : Int) + 1 < d.notes.length := by omega
    have tn1 : ((j : Int) + 1).toNat = j + 1 := by omega
    have g0 : (0 : Int) ≤ (j : Int) + 1 := by omega
    have g1 : -9223372036854775808 ≤ (j : Int) := by omega
    have g2 : (j : Int) ≤ 9223372036854775807 := by omega
    by_cases c1 : n.id ≤ pv.id
    · simp (decide := true) [Tryz.f80, docD, Dc.row, notesD, Nt.row, int, ints, hi, hi', en, en', a1, a2, hjl, hjl', ep, ep', j0, j1, hq, tn1, c1, I64, g0, g1, g2]
    by_cases b1 : n.tier < 0
    · simp (decide := true) [Tryz.f80, docD, Dc.row, notesD, Nt.row, int, ints, hi, hi', en, en', a1, a2, hjl, hjl', ep, ep', j0, j1, hq, tn1, c1, I64, g0, g1, g2, b1]
    by_cases b2 : (d.tiers.length : Int) ≤ n.tier
    · simp (decide := true) [Tryz.f80, docD, Dc.row, notesD, Nt.row, int, ints, tiersD, hi, hi', en, en', a1, a2, hjl, hjl', ep, ep', j0, j1, hq, tn1, c1, I64, g0, g1, g2, b1, b2]
    simp (decide := true) [Tryz.f80, docD, Dc.row, notesD, Nt.row, int, ints, tiersD, hi, hi', en, en', a1, a2, hjl, hjl', ep, ep', j0, j1, hq, tn1, c1, I64, g0, g1, g2, b1, b2]
    refine ECall.pure (by rfl) (refText_ok n.text) (by simp [int]) ?_
    by_cases ht : textE n.text = 0
    case neg => simp (decide := true) [int, ht]
    simp (decide := true) [int, ht]
    refine ECall.pure (by rfl) (hpl (by omega) (by omega)) (by simp (decide := true) [docD, Dc.row, int, ints, notesD, tiersD, Nt.row]) ?_
    simp (decide := true) [int]
end Go.V.Doc
namespace Go.V.Doc
open Go Go.Proofs
structure Sp where
  (fr : Int)
  (tO : Int)
  deriving Inhabited, DecidableEq
def Sp.row (s : Sp) : List D := [int s.fr, int s.tO]
def spansD (l : List Sp) : D := .sl (l.map Sp.row)
abbrev Sp.rt (s : Sp) : Bool := rightS s.fr s.tO
def cut1 (x s : Sp) : List Sp := (if rightS x.fr (min x.tO s.fr) = true then [⟨x.fr, min x.tO s.fr⟩] else []) ++ (if rightS (max x.fr s.tO) x.tO = true then [⟨max x.fr s.tO, x.tO⟩] else [])
def withoutS (l : List Sp) (s : Sp) : List Sp := l.flatMap fun x => cut1 x s
def minusS (a b : List Sp) : List Sp := b.foldl (fun out y => if y.rt = true then withoutS out y else out) a
def coversS (l : List Sp) (s : Sp) : Bool := s.rt && (minusS [s] l).isEmpty
theorem cut1_len (x s : Sp) : (cut1 x s).length ≤ 2 := by
  unfold cut1; split <;> split <;> simp
theorem without_len (l : List Sp) (s : Sp) : (withoutS l s).length ≤ 2 * l.length := by
  unfold withoutS
  induction l with
  | nil => simp
  | cons x r ih =>
    have := cut1_len x s
    rw [List.flatMap_cons, List.length_append, List.length_cons]; omega
theorem without_snoc {l : List Sp} {s : Sp} {k : Nat} (h : k < l.length) : withoutS (l.take (k + 1)) s = withoutS (l.take k) s ++ cut1 l[k] s := by
  unfold withoutS
  rw [take_snoc' h, List.flatMap_append]; simp
def spSum (l : List Sp) : Int := (l.map fun x => x.tO - x.fr).sum
theorem spSum_append (a b : List Sp) : spSum (a ++ b) = spSum a + spSum b := by simp [spSum]
theorem cut1_sum {x s : Sp} (hx : x.rt = true) (hs : s.rt = true) : spSum (cut1 x s) ≤ x.tO - x.fr := by
  simp only [Sp.rt, rightS, Bool.and_eq_true, decide_eq_true_eq] at hx hs
  unfold cut1
  split <;> split <;> simp [spSum] <;> omega
theorem cut1_rt (x s : Sp) : ∀ y ∈ cut1 x s, y.rt = true := by
  intro y hy
  unfold cut1 at hy
  rcases List.mem_append.1 hy with h | h
  · split at h
    · rename_i e; simp at h; subst h; exact e
    · cases h
  · split at h
    · rename_i e; simp at h; subst h; exact e
    · cases h
theorem without_rt {l : List Sp} {s : Sp} : ∀ y ∈ withoutS l s, y.rt = true := by
  intro y hy
  unfold withoutS at hy
  obtain ⟨x, _, h⟩ := List.mem_flatMap.1 hy
  exact cut1_rt x s y h
theorem without_sum {s : Sp} (hs : s.rt = true) : ∀ {l : List Sp}, (∀ x ∈ l, x.rt = true) → spSum (withoutS l s) ≤ spSum l
  | [], _ => by simp [withoutS, spSum]
  | x :: r, h => by
    have h1 := cut1_sum (h x (by simp)) hs
    have h2 := without_sum hs (l := r) (fun y hy => h y (by simp [hy]))
    have e1 : withoutS (x :: r) s = cut1 x s ++ withoutS r s := by unfold withoutS; rw [List.flatMap_cons]
    have e2 : spSum (x :: r) = (x.tO - x.fr) + spSum r := by simp [spSum]
    rw [e1, spSum_append, e2]; omega
theorem len_sum : ∀ {l : List Sp}, (∀ x ∈ l, x.rt = true) → (l.length : Int) ≤ spSum l
  | [], _ => by simp [spSum]
  | x :: r, h => by
    have h1 := h x (by simp)
    simp only [Sp.rt, rightS, Bool.and_eq_true, decide_eq_true_eq] at h1
    have h2 := len_sum (l := r) (fun y hy => h y (by simp [hy]))
    have e2 : spSum (x :: r) = (x.tO - x.fr) + spSum r := by simp [spSum]
    rw [e2, List.length_cons]; omega
theorem minus_inv : ∀ (b a : List Sp), (∀ x ∈ a, x.rt = true) → (∀ x ∈ minusS a b, x.rt = true) ∧ spSum (minusS a b) ≤ spSum a
  | [], a, h => ⟨h, Int.le_refl _⟩
  | y :: r, a, h => by
    have e : minusS a (y :: r) = minusS (if y.rt = true then withoutS a y else a) r := rfl
    rw [e]
    by_cases hy : y.rt = true
    · rw [if_pos hy]
      have h1 := minus_inv r (withoutS a y) without_rt
      have h2 := without_sum hy h
      exact ⟨h1.1, by omega⟩
    · rw [if_neg hy]; exact minus_inv r a h
theorem minus_len {s : Sp} (hs : s.rt = true) (b : List Sp) : (minusS [s] b).length ≤ 86400000 := by
  obtain ⟨h1, h2⟩ := minus_inv b [s] (by simpa using hs)
  have h3 := len_sum h1
  simp only [Sp.rt, rightS, Bool.and_eq_true, decide_eq_true_eq] at hs
  have h4 : spSum [s] = s.tO - s.fr := by simp [spSum]
  omega
theorem minus_snoc {a b : List Sp} {k : Nat} (h : k < b.length) : minusS a (b.take (k + 1)) = if b[k].rt = true then withoutS (minusS a (b.take k)) b[k] else minusS a (b.take k) := by
  unfold minusS
  rw [take_snoc' h, List.foldl_append]; rfl
theorem insertNil_ok (s : Sp) : PureR Tryz.prog 259 [spansD [], .agg s.row] (spansD [s]) := by
  refine pure_of_body_frz mixed Tryz.func259 rfl call_259 [2] ?_
  simp (decide := true) [Tryz.f259, spansD, Sp.row, int]
  refine loop_rule mixed (fun k : Nat => { n := 69, next := 4, slots := [(0, .d (.sl [])), (3, .bp 0 0), (5, .ar 2), (6, .ar 3), (7, .d (.int .i64 k))], own := [(0, .box 70 [.d (int s.fr), .d (int s.tO)]), (2, .arr 70 2 []), (3, .arr 70 2 [])] })
    (fun k => k = 0) (fun k => 0) 0 (by simp) (by simp (decide := true) [int]) ?_
  rintro k rfl
  simp (decide := true) [int, maxLen]
set_option maxHeartbeats 1000000 in
theorem without_ok (l : List Sp) (s : Sp) (hl : l.length < 2^40) : PureR Tryz.prog 228 [spansD l, .agg s.row] (spansD (withoutS l s)) := by
  refine pure_of_body_frz mixed Tryz.func228 rfl call_228 [2] ?_
  simp (decide := true) [Tryz.f228, Sp.row, int]
  refine loop_rule mixed (fun k : Nat => { n := 57, next := 3, slots := [(0, .d (spansD l)), (3, .bp 0 0), (5, .ar 2), (6, .d (.int .i64 k))], own := [(0, .box 70 [.d (int s.fr), .d (int s.tO)]), (2, .arr 70 2 ((withoutS (l.take k) s).map Sp.row))], moved := [2] })
    (fun k => k ≤ l.length) (fun k => l.length - k) 0 (by simp) (by simp (decide := true) [int, withoutS]) ?_
  intro k hk
  by_cases hlt : k < l.length
  · have hlt' : (k : Int) < l.length := by omega
    obtain ⟨x, ex'⟩ : ∃ x, l[k] = x := ⟨_, rfl⟩
    have ex : l[k]? = some x := by rw [List.getElem?_eq_getElem hlt, ex']
    have hsn := without_snoc (s := s) hlt
    rw [ex'] at hsn
    have hw := without_len (l.take k) s
    have hwk : (l.take k).length = k := by rw [List.length_take]; omega
    rw [hwk] at hw
    generalize withoutS (l.take k) s = W at hw hsn ⊢
    simp (decide := true) [int, spansD, Sp.row, hlt, hlt', ex, ex']
    have m1 : (if s.fr < x.tO then s.fr else x.tO) = min x.tO s.fr := by rw [Int.min_def]; split <;> split <;> omega
    have m2 : (if x.fr < s.tO then s.tO else x.fr) = max x.fr s.tO := by rw [Int.max_def]; split <;> split <;> omega
    refine draw_new mixed (by rfl) (by rfl) ti_70 (by rfl) (by rfl) (by decide) (by rfl) (by rfl) ?_
    simp (decide := true) [int, spansD, Sp.row, hlt, hlt', ex, ex']
    refine draw_new mixed (by rfl) (by rfl) ti_70 (by rfl) (by rfl) (by decide) (by rfl) (by rfl) ?_
    simp (decide := true) [int, spansD, Sp.row, hlt, hlt', ex, ex']
    rw [m1, m2]
    have hC : cut1 x s = (if rightS x.fr (min x.tO s.fr) = true then [⟨x.fr, min x.tO s.fr⟩] else []) ++ (if rightS (max x.fr s.tO) x.tO = true then [⟨max x.fr s.tO, x.tO⟩] else []) := rfl
    generalize min x.tO s.fr = mn at hC ⊢
    generalize max x.fr s.tO = mx at hC ⊢
    refine ECall.pure (by rfl) (rightR_ok _ _) (by simp [int]) ?_
    by_cases r1 : rightS x.fr mn = true
    · rw [if_pos r1] at hC
      simp (decide := true) [int, spansD, Sp.row, r1]
      refine ⟨by omega, by unfold maxLen; omega, ?_⟩
      refine ECall.pure (by rfl) (rightR_ok _ _) (by simp [int]) ?_
      by_cases r2 : rightS mx x.tO = true
      · rw [if_pos r2] at hC
        rw [hC] at hsn
        simp (decide := true) [int, spansD, Sp.row, r2, I64]
        refine ⟨by omega, by unfold maxLen; omega, by omega, k + 1, hlt, by omega, by omega, ?_⟩
        rw [hsn]; simp [Sp.row, int]
      · rw [if_neg r2] at hC
        rw [hC] at hsn
        simp (decide := true) [int, spansD, Sp.row, r2, I64]
        refine ⟨by omega, k + 1, hlt, by omega, by omega, ?_⟩
        rw [hsn]; simp [Sp.row, int]
    · rw [if_neg r1] at hC
      simp (decide := true) [int, spansD, Sp.row, r1]
      refine ECall.pure (by rfl) (rightR_ok _ _) (by simp [int]) ?_
      by_cases r2 : rightS mx x.tO = true
      · rw [if_pos r2] at hC
        rw [hC] at hsn
        simp (decide := true) [int, spansD, Sp.row, r2, I64]
        refine ⟨by omega, by unfold maxLen; omega, by omega, k + 1, hlt, by omega, by omega, ?_⟩
        rw [hsn]; simp [Sp.row, int]
      · rw [if_neg r2] at hC
        rw [hC] at hsn
        simp (decide := true) [int, spansD, Sp.row, r2, I64]
        refine ⟨by omega, k + 1, hlt, by omega, by omega, ?_⟩
        rw [hsn]; simp
  · have : k = l.length := by omega
    subst this
    rw [List.take_length]
    simp (decide := true) [int, spansD, Sp.row]
end Go.V.Doc
namespace Go.V.Doc
open Go Go.Proofs
theorem union1_ok (s : Sp) (hs : s.rt = true) : PureR Tryz.prog 227 [spansD [s]] (spansD [s]) := by
  refine pure_of_body mixed Tryz.func227 rfl call_227 ?_
  simp (decide := true) [Tryz.f227, int]
  refine loop_rule mixed (fun k : Nat => match k with
      | 0 => { n := 24, next := 2, slots := [(0, .d (spansD [s])), (3, .ar 1), (4, .d (int 0))], own := [(1, .arr 70 2 [])] }
      | _ + 1 => { n := 24, next := 2, slots := [(0, .d (spansD [s])), (3, .d (spansD [s])), (4, .d (int 1))], own := [] })
    (fun k => k ≤ 1) (fun k => 1 - k) 0 (by simp) (by simp (decide := true) [int]) ?_
  intro k hk
  cases k with
  | zero =>
    simp (decide := true) [int, spansD, Sp.row]
    refine ECall.pure (by rfl) (rightR_ok _ _) (by simp [int]) ?_
    simp (decide := true) [int, hs, Sp.row]
    refine ecall_frz (by rfl) (insertNil_ok s) (by simp) ?_
    simp (decide := true) [int, I64]
    exact ⟨1, by simp, by simp, by simp (decide := true) [int, Sp.row, spansD]⟩
  | succ j =>
    simp (decide := true) [int, spansD, Sp.row]
theorem minus_ok (s : Sp) (hs : s.rt = true) (b : List Sp) (hb : b.length < 2^62) : PureR Tryz.prog 194 [spansD [s], spansD b] (spansD (minusS [s] b)) := by
  refine pure_of_body mixed Tryz.func194 rfl call_194 ?_
  simp (decide := true) [Tryz.f194, int]
  refine ECall.pure (by rfl) (union1_ok s hs) (by simp) ?_
  simp (decide := true) [int]
  refine loop_rule mixed (fun k : Nat => { n := 27, next := 1, slots := [(1, .d (spansD b)), (5, .d (spansD (minusS [s] (b.take k)))), (6, .d (int k))], own := [] })
    (fun k => k ≤ b.length) (fun k => b.length - k) 0 (by simp) (by simp (decide := true) [int, minusS]) ?_
  intro k hk
  by_cases hlt : k < b.length
  · have hlt' : (k : Int) < b.length := by omega
    obtain ⟨y, ey'⟩ : ∃ y, b[k] = y := ⟨_, rfl⟩
    have ey : b[k]? = some y := by rw [List.getElem?_eq_getElem hlt, ey']
    have hsn := minus_snoc (a := [s]) hlt
    rw [ey'] at hsn
    have hml := minus_len hs (b.take k)
    generalize minusS [s] (b.take k) = W at hml hsn ⊢
    simp (decide := true) [int, spansD, Sp.row, hlt, hlt', ey, ey']
    refine ECall.pure (by rfl) (rightR_ok _ _) (by simp [int]) ?_
    by_cases r1 : rightS y.fr y.tO = true
    · rw [if_pos r1] at hsn
      simp (decide := true) [int, spansD, Sp.row, r1, hlt, hlt', ey, ey']
      refine ECall.pure (by rfl) (without_ok W y (by omega)) (by simp [spansD, Sp.row, int]) ?_
      simp (decide := true) [int, spansD, I64]
      exact ⟨by omega, k + 1, hlt, by omega, by rw [hsn], by omega⟩
    · rw [if_neg r1] at hsn
      simp (decide := true) [int, spansD, Sp.row, r1, I64]
      exact ⟨by omega, k + 1, hlt, by omega, by rw [hsn], by omega⟩
  · have : k = b.length := by omega
    subst this
    rw [List.take_length]
    simp (decide := true) [int, spansD, Sp.row]
theorem covers_ok (l : List Sp) (s : Sp) (hl : l.length < 2^62) : PureR Tryz.prog 137 [spansD l, .agg s.row] (.bool (coversS l s)) := by
  refine pure_of_body mixed Tryz.func137 rfl call_137 ?_
  simp (decide := true) [Tryz.f137, int, Sp.row]
  refine ECall.pure (by rfl) (rightR_ok _ _) (by simp [int]) ?_
  by_cases r1 : rightS s.fr s.tO = true
  case neg => simp (decide := true) [int, r1, coversS]
  simp (decide := true) [int, r1]
  refine ecall_frz (by rfl) (minus_ok s r1 l hl) (by simp) ?_
  simp (decide := true) [int, spansD]
  cases hm : minusS [s] l with
  | nil => simp (decide := true) [coversS, r1, hm]
  | cons y r =>
    have : ¬ (r.length : Int) + 1 = 0 := by omega
    simp (decide := true) [coversS, r1, hm, this]
end Go.V.Doc
namespace Go.V.Doc
open Go Go.Proofs
def sibs (l : List Nt) (t p : Int) : List Nt := l.filter fun n => decide (n.tier = t) && decide (n.par = p)
theorem sibs_len (l : List Nt) (t p : Int) : (sibs l t p).length ≤ l.length := List.length_filter_le _ _
theorem siblings_ok (d : Dc) (t p : Int) (hl : d.notes.length < 2^40) : PureR Tryz.prog 134 [docD d, int t, int p] (notesD (sibs d.notes t p)) := by
  refine pure_of_body_frz mixed Tryz.func134 rfl call_134 [2] ?_
  simp (decide := true) [Tryz.f134, docD, Dc.row, int, ints, tiersD]
  refine loop_rule mixed (fun k : Nat => { n := 44, next := 3, slots := [(1, .d (int t)), (2, .d (int p)), (3, .bp 0 0), (7, .ar 2), (8, .d (.int .i64 k))], own := [(0, .box 53 (docCells d)), (2, .arr 72 7 ((sibs (d.notes.take k) t p).map Nt.row))], moved := [2] })
    (fun k => k ≤ d.notes.length) (fun k => d.notes.length - k) 0 (by simp) (by simp (decide := true) [int, ints, tiersD, notesD, sibs]) ?_
  intro k hk
  by_cases hlt : k < d.notes.length
  · have hlt' : (k : Int) < d.notes.length := by omega
    obtain ⟨n, en'⟩ : ∃ n, d.notes[k] = n := ⟨_, rfl⟩
    have en : d.notes[k]? = some n := by rw [List.getElem?_eq_getElem hlt, en']
    have hsn : sibs (d.notes.take (k + 1)) t p = sibs (d.notes.take k) t p ++ (if n.tier = t ∧ n.par = p then [n] else []) := by
      rw [take_snoc' hlt]; unfold sibs; rw [List.filter_append, en']
      by_cases h1 : n.tier = t <;> by_cases h2 : n.par = p <;> simp [h1, h2]
    have hlen := sibs_len (d.notes.take k) t p
    have hwk : (d.notes.take k).length = k := by rw [List.length_take]; omega
    rw [hwk] at hlen
    generalize sibs (d.notes.take k) t p = W at hsn hlen ⊢
    by_cases h1 : n.tier = t
    · by_cases h2 : n.par = p
      · rw [if_pos ⟨h1, h2⟩] at hsn
        simp (decide := true) [notesD, Nt.row, int, hlt, hlt', en, en', I64, h1, h2]
        refine ⟨by omega, by unfold maxLen; omega, by omega, k + 1, hlt, by omega, by omega, ?_⟩
        rw [hsn]; simp [Nt.row, int, h1, h2]
      · rw [if_neg (fun h => h2 h.2), List.append_nil] at hsn
        simp (decide := true) [notesD, Nt.row, int, hlt, hlt', en, en', I64, h1, h2]
        exact ⟨by omega, k + 1, hlt, by omega, by omega, by rw [hsn]⟩
    · rw [if_neg (fun h => h1 h.1), List.append_nil] at hsn
      simp (decide := true) [notesD, Nt.row, int, hlt, hlt', en, en', I64, h1]
      exact ⟨by omega, k + 1, hlt, by omega, by omega, by rw [hsn]⟩
  · have : k = d.notes.length := by omega
    subst this
    rw [List.take_length]
    simp (decide := true) [notesD, int]
def spansOf (l : List Nt) : List Sp := l.map fun n => ⟨n.fr, n.tO⟩
theorem spans_ok (l : List Nt) (hl : l.length < 2^40) : PureR Tryz.prog 138 [notesD l] (spansD (spansOf l)) := by
  refine pure_of_body_frz mixed Tryz.func138 rfl call_138 [1] ?_
  simp (decide := true) [Tryz.f138, int]
  refine loop_rule mixed (fun k : Nat => { n := 21, next := 2, slots := [(0, .d (notesD l)), (3, .ar 1), (4, .d (.int .i64 k))], own := [(1, .arr 70 2 ((spansOf (l.take k)).map Sp.row))], moved := [1] })
    (fun k => k ≤ l.length) (fun k => l.length - k) 0 (by simp) (by simp (decide := true) [int, notesD, spansOf]) ?_
  intro k hk
  by_cases hlt : k < l.length
  · have hlt' : (k : Int) < l.length := by omega
    obtain ⟨n, en'⟩ : ∃ n, l[k] = n := ⟨_, rfl⟩
    have en : l[k]? = some n := by rw [List.getElem?_eq_getElem hlt, en']
    have hsn : spansOf (l.take (k + 1)) = spansOf (l.take k) ++ [⟨n.fr, n.tO⟩] := by
      rw [take_snoc' hlt]; unfold spansOf; rw [List.map_append, en']; rfl
    have hlen : (spansOf (l.take k)).length = k := by unfold spansOf; rw [List.length_map, List.length_take]; omega
    generalize spansOf (l.take k) = W at hsn hlen ⊢
    simp (decide := true) [notesD, Nt.row, int, hlt, hlt', en, en', I64]
    refine ⟨by omega, by unfold maxLen; omega, by omega, k + 1, hlt, by omega, by omega, ?_⟩
    rw [hsn]; simp [Sp.row, int]
  · have : k = l.length := by omega
    subst this
    rw [List.take_length]
    simp (decide := true) [notesD, spansD, int]
def meetP (l : List Nt) (i k : Nat) : Bool := decide ((l[i]?.getD default).fr < (l[k]?.getD default).tO) && decide ((l[k]?.getD default).fr < (l[i]?.getD default).tO)
def overP (l : List Nt) : Bool := (List.range l.length).any fun i => (List.range i).any fun k => meetP l i k
theorem overP_false {l : List Nt} : overP l = false ↔ ∀ i, i < l.length → ∀ k, k < i → meetP l i k = false := by
  unfold overP
  rw [List.any_eq_false]
  refine ⟨fun h i hi k hk => ?_, fun h i hi => ?_⟩
  · have := h i (List.mem_range.2 hi)
    rw [Bool.not_eq_true, List.any_eq_false] at this
    simpa using this k (List.mem_range.2 hk)
  · rw [Bool.not_eq_true, List.any_eq_false]
    intro k hk
    simpa using h i (List.mem_range.1 hi) k (List.mem_range.1 hk)
theorem overP_true {l : List Nt} {i k : Nat} (hi : i < l.length) (hk : k < i) (h : meetP l i k = true) : overP l = true := by
  cases e : overP l with
  | true => rfl
  | false => rw [overP_false] at e; rw [e i hi k hk] at h; cases h
set_option maxHeartbeats 1000000 in
theorem overlap_ok (l : List Nt) (hl : l.length < 2^40) : PureR Tryz.prog 136 [notesD l] (.bool (overP l)) := by
  refine pure_of_body mixed Tryz.func136 rfl call_136 ?_
  simp (decide := true) [Tryz.f136, int]
  refine loop_rule mixed (fun i : Nat => { n := 44, next := 0, slots := [(0, .d (notesD l)), (3, .d (.int .i64 i))], own := [] })
    (fun i => i ≤ l.length ∧ ∀ j, j < i → ∀ k, k < j → meetP l j k = false) (fun i => l.length - i) 0 (by simp) (by simp (decide := true) [int, notesD]) ?_
  rintro i ⟨hi, hp⟩
  by_cases hlt : i < l.length
  · have hlt' : (i : Int) < l.length := by omega
    obtain ⟨n, en'⟩ : ∃ n, l[i] = n := ⟨_, rfl⟩
    have en : l[i]? = some n := by rw [List.getElem?_eq_getElem hlt, en']
    simp (decide := true) [notesD, int, hlt']
    refine loop_rule mixed (fun k : Nat => { n := 44, next := 0, slots := [(0, .d (notesD l)), (3, .d (.int .i64 i)), (4, .d (.int .i64 k))], own := [] })
      (fun k => k ≤ i ∧ ∀ j, j < k → meetP l i j = false) (fun k => i - k) 0 (by simp) (by simp (decide := true) [int, notesD]) ?_
    rintro k ⟨hk, hq⟩
    by_cases hki : k < i
    · have hki' : (k : Int) < i := by omega
      have hkl : k < l.length := by omega
      have hkl' : (k : Int) < l.length := by omega
      obtain ⟨m, em'⟩ : ∃ m, l[k] = m := ⟨_, rfl⟩
      have em : l[k]? = some m := by rw [List.getElem?_eq_getElem hkl, em']
      have hM : meetP l i k = (decide (n.fr < m.tO) && decide (m.fr < n.tO)) := by simp only [meetP, en, em, Option.getD_some]
      by_cases c1 : n.fr < m.tO
      · by_cases c2 : m.fr < n.tO
        · have := overP_true hlt hki (by rw [hM]; simp [c1, c2])
          simp (decide := true) [notesD, Nt.row, int, hlt, hlt', hki, hki', hkl, hkl', en, en', em, em', c1, c2, this]
        · simp (decide := true) [notesD, Nt.row, int, hlt, hlt', hki, hki', hkl, hkl', en, en', em, em', c1, c2, I64]
          refine ⟨by omega, k + 1, ⟨by omega, fun j hj => ?_⟩, by omega, by omega⟩
          rcases Nat.lt_or_ge j k with h | h
          · exact hq j h
          · have : j = k := by omega
            subst this; rw [hM]; simp [c2]
      · simp (decide := true) [notesD, Nt.row, int, hlt, hlt', hki, hki', hkl, hkl', en, en', em, em', c1, I64]
        refine ⟨by omega, k + 1, ⟨by omega, fun j hj => ?_⟩, by omega, by omega⟩
        rcases Nat.lt_or_ge j k with h | h
        · exact hq j h
        · have : j = k := by omega
          subst this; rw [hM]; simp [c1]
    · have : k = i := by omega
      subst this
      simp (decide := true) [notesD, int, I64]
      refine ⟨by omega, k + 1, ⟨by omega, fun j hj => ?_⟩, by omega, by omega⟩
      rcases Nat.lt_or_ge j k with h | h
      · exact hp j h
      · have : j = k := by omega
        subst this; exact hq
  · have : i = l.length := by omega
    subst this
    simp (decide := true) [notesD, int, overP_false.2 hp]
def rankP (l : List Nt) : Bool := (List.range l.length).all fun n => l.any fun m => decide (m.rank = n)
theorem rankP_true {l : List Nt} : rankP l = true ↔ ∀ n : Nat, n < l.length → (l.any fun m => decide (m.rank = n)) = true := by
  unfold rankP
  rw [List.all_eq_true]
  exact ⟨fun h n hn => h n (List.mem_range.2 hn), fun h n hn => h n (List.mem_range.1 hn)⟩
set_option maxHeartbeats 1000000 in
theorem ranked_ok (l : List Nt) (hl : l.length < 2^40) : PureR Tryz.prog 139 [notesD l] (.bool (rankP l)) := by
  refine pure_of_body mixed Tryz.func139 rfl call_139 ?_
  simp (decide := true) [Tryz.f139, int]
  refine loop_rule mixed (fun i : Nat => { n := 30, next := 0, slots := [(0, .d (notesD l)), (3, .d (.int .i64 i))], own := [] })
    (fun i => i ≤ l.length ∧ ∀ n : Nat, n < i → (l.any fun m => decide (m.rank = n)) = true) (fun i => l.length - i) 0 (by simp) (by simp (decide := true) [int, notesD]) ?_
  rintro i ⟨hi, hp⟩
  by_cases hlt : i < l.length
  · have hlt' : (i : Int) < l.length := by omega
    simp (decide := true) [notesD, int, hlt']
    refine loop_rule mixed (fun k : Nat => { n := 30, next := 0, slots := [(0, .d (notesD l)), (3, .d (.int .i64 i)), (4, .d (.bool ((l.take k).any fun m => decide (m.rank = i)))), (5, .d (.int .i64 k))], own := [] })
      (fun k => k ≤ l.length) (fun k => l.length - k) 0 (by simp) (by simp (decide := true) [int, notesD]) ?_
    intro k hk
    by_cases hkl : k < l.length
    · have hkl' : (k : Int) < l.length := by omega
      obtain ⟨m, em'⟩ : ∃ m, l[k] = m := ⟨_, rfl⟩
      have em : l[k]? = some m := by rw [List.getElem?_eq_getElem hkl, em']
      have hsn : ((l.take (k + 1)).any fun m => decide (m.rank = i)) = (((l.take k).any fun m => decide (m.rank = i)) || decide (m.rank = i)) := by rw [any_take hkl, em']
      cases hb : (l.take k).any fun m => decide (m.rank = i)
      · rw [hb, Bool.false_or] at hsn
        by_cases c1 : m.rank = i
        · rw [decide_eq_true c1] at hsn
          simp (decide := true) [notesD, Nt.row, int, hkl, hkl', em, em', c1, I64]
          exact ⟨by omega, k + 1, hkl, by omega, by simpa using hsn, by omega⟩
        · rw [decide_eq_false c1] at hsn
          simp (decide := true) [notesD, Nt.row, int, hkl, hkl', em, em', c1, I64]
          exact ⟨by omega, k + 1, hkl, by omega, by simpa using hsn, by omega⟩
      · rw [hb, Bool.true_or] at hsn
        simp (decide := true) [notesD, Nt.row, int, hkl, hkl', I64]
        exact ⟨by omega, k + 1, hkl, by omega, by simpa using hsn, by omega⟩
    · have : k = l.length := by omega
      subst this
      rw [List.take_length]
      cases hb : l.any fun m => decide (m.rank = i)
      · have : rankP l = false := by
          cases e : rankP l with
          | false => rfl
          | true => rw [rankP_true] at e; rw [e i hlt] at hb; cases hb
        simp (decide := true) [notesD, int, this]
      · simp (decide := true) [notesD, int, I64]
        refine ⟨by omega, i + 1, ⟨by omega, fun j hj => ?_⟩, by omega, by omega⟩
        rcases Nat.lt_or_ge j i with h | h
        · simpa using hp j h
        · have : j = i := by omega
          subst this; simpa using hb
  · have : i = l.length := by omega
    subst this
    simp (decide := true) [notesD, int, rankP_true.2 hp]
end Go.V.Doc
namespace Go.V.Doc
open Go Go.Proofs
def terStep (d : Dc) (t kind : Int) (n : Nt) (out : Int) : Int :=
  if kind = 1 then (if coversS (spansOf (sibs d.notes t n.par)) ⟨(getN d.notes n.par).1.fr, (getN d.notes n.par).1.tO⟩ = true then out else 16)
  else if kind = 3 then (if rankP (sibs d.notes t n.par) = true then out else 10)
  else if kind = 4 then (if 1 < (sibs d.notes t n.par).length then 8 else out) else out
def terGo (d : Dc) (t kind : Int) : List Nt → Int → Int
  | [], out => out
  | n :: r, out => if n.tier = t then (if alK kind = true ∧ overP (sibs d.notes t n.par) = true then 15 else terGo d t kind r (terStep d t kind n out)) else terGo d t kind r out
def terE (d : Dc) (t : Int) : Int := terGo d t (tirAt d t).kind d.notes 0
set_option maxHeartbeats 2000000 in
theorem tierError_ok (d : Dc) (t : Nat) (ht : t < d.tiers.length) (hl : d.notes.length < 2^40) : PureR Tryz.prog 81 [docD d, int t] (int (terE d t)) := by
  refine pure_of_body mixed Tryz.func81 rfl call_81 ?_
  have ht' : (t : Int) < d.tiers.length := by omega
  obtain ⟨tt, et'⟩ : ∃ tt, d.tiers[t] = tt := ⟨_, rfl⟩
  have et : d.tiers[t]? = some tt := by rw [List.getElem?_eq_getElem ht, et']
  have htt : (tirAt d (t : Int)) = tt := by simp [tirAt, et]
  unfold terE
  rw [htt]
  obtain ⟨tn, kd, tr, tp⟩ := tt
  simp (decide := true) [Tryz.f81, docD, Dc.row, int, ints, tiersD, Tir.row, ht, ht', et, et']
  refine loop_rule mixed (fun x : Nat × Int => { n := 77, next := 1, slots := [(1, .d (int t)), (2, .bp 0 0), (5, .d (int kd)), (6, .d (int x.2)), (7, .d (.int .i64 x.1))], own := [(0, .box 53 (docCells d))] })
    (fun x => x.1 ≤ d.notes.length ∧ terGo d t kd d.notes 0 = terGo d t kd (d.notes.drop x.1) x.2) (fun x => d.notes.length - x.1) (0, 0) (by simp) (by simp (decide := true) [int, ints, tiersD, notesD]) ?_
  rintro ⟨k, out⟩ ⟨hk, hg⟩
  simp only at hk hg
  by_cases hlt : k < d.notes.length
  case neg =>
    have : k = d.notes.length := by omega
    subst this
    rw [List.drop_length] at hg
    simp (decide := true) [int, notesD, hg, terGo]
  have hlt' : (k : Int) < d.notes.length := by omega
  obtain ⟨n, en'⟩ : ∃ n, d.notes[k] = n := ⟨_, rfl⟩
  have en : d.notes[k]? = some n := by rw [List.getElem?_eq_getElem hlt, en']
  rw [List.drop_eq_getElem_cons hlt, en'] at hg
  simp only [terGo] at hg
  by_cases h1 : n.tier = t
  case neg =>
    rw [if_neg h1] at hg
    simp (decide := true) [int, notesD, Nt.row, hlt, hlt', en, en', h1, I64]
    exact ⟨by omega, k + 1, out, ⟨hlt, hg⟩, by omega, by omega⟩
  rw [if_pos h1] at hg
  simp (decide := true) [int, notesD, Nt.row, hlt, hlt', en, en', h1]
  have hsl := sibs_len d.notes t n.par
  refine ECall.pure (by rfl) (siblings_ok d t n.par hl) (by simp (decide := true) [docD, Dc.row, int, ints, tiersD, notesD]) ?_
  generalize hS : sibs d.notes t n.par = S at hg hsl ⊢
  simp (decide := true) [int]
  refine ECall.pure (by rfl) (alR_ok kd) (by simp [int]) ?_
  have fin : ∀ out', terStep d t kd n out = out' → (alK kd = true → overP S = false) → terGo d t kd d.notes 0 = terGo d t kd (d.notes.drop (k + 1)) out' := by
    intro out' e h
    rw [if_neg (by rintro ⟨a, b⟩; rw [h a] at b; cases b), e] at hg
    exact hg
  have hov : alK kd = true → overP S = true → terGo d t kd d.notes 0 = 15 := by
    intro a b; rw [if_pos ⟨a, b⟩] at hg; exact hg
  have hst : terStep d t kd n out = if kd = 1 then (if coversS (spansOf S) ⟨(getN d.notes n.par).1.fr, (getN d.notes n.par).1.tO⟩ = true then out else 16)
    else if kd = 3 then (if rankP S = true then out else 10) else if kd = 4 then (if 1 < S.length then 8 else out) else out := by
    simp only [terStep, hS]
  clear hg
  generalize hT : terGo d t kd d.notes 0 = TT at fin hov ⊢
  by_cases k0 : kd = 0
  · subst k0
    have ha : alK 0 = true := rfl
    simp (decide := true) [int, ha]
    refine ECall.pure (by rfl) (overlap_ok S (by omega)) (by simp [notesD, Nt.row, int]) ?_
    cases hO : overP S with
    | true => simp (decide := true) [int, hov ha hO]
    | false =>
      have HO : alK 0 = true → overP S = false := fun _ => hO
      simp (decide := true) [int, notesD, Nt.row]
      refine ECall.pure (by rfl) (refGet_ok d n.par (by omega)) (by simp (decide := true) [docD, Dc.row, int, ints, tiersD, notesD]) ?_
      obtain ⟨⟨p, ok⟩, eg⟩ : ∃ g, getN d.notes n.par = g := ⟨_, rfl⟩
      rw [eg] at hst ⊢
      obtain ⟨pi, pt, pp, pf, pto, prr, px⟩ := p
      simp only [getD', Nt.row] at hst ⊢
      simp at hst
      simp (decide := true) [int, notesD, Nt.row, I64, ha]
      exact ⟨by omega, k + 1, out, ⟨hlt, fin _ hst HO⟩, by omega, by omega⟩
  by_cases k1 : kd = 1
  · subst k1
    have ha : alK 1 = true := rfl
    simp (decide := true) [int, ha]
    refine ECall.pure (by rfl) (overlap_ok S (by omega)) (by simp [notesD, Nt.row, int]) ?_
    cases hO : overP S with
    | true => simp (decide := true) [int, hov ha hO]
    | false =>
      have HO : alK 1 = true → overP S = false := fun _ => hO
      simp (decide := true) [int, notesD, Nt.row]
      refine ECall.pure (by rfl) (refGet_ok d n.par (by omega)) (by simp (decide := true) [docD, Dc.row, int, ints, tiersD, notesD]) ?_
      obtain ⟨⟨p, ok⟩, eg⟩ : ∃ g, getN d.notes n.par = g := ⟨_, rfl⟩
      rw [eg] at hst ⊢
      obtain ⟨pi, pt, pp, pf, pto, prr, px⟩ := p
      simp only [getD', Nt.row] at hst ⊢
      simp (decide := true) [int, notesD, Nt.row, I64, ha]
      refine scall_pure (by rfl) (by rfl) (spans_ok S (by omega)) (by simp [notesD, Nt.row, int]) ?_
      simp (decide := true) [int, notesD, Nt.row, I64, ha]
      refine scall_pure (by rfl) (by rfl) (covers_ok (spansOf S) ⟨pf, pto⟩ (by unfold spansOf; rw [List.length_map]; omega)) (by simp [Sp.row, int]) ?_
      by_cases hc : coversS (spansOf S) ⟨pf, pto⟩ = true
      · simp [hc] at hst
        simp (decide := true) [int, notesD, Nt.row, I64, ha, hc]
        exact ⟨by omega, k + 1, out, ⟨hlt, fin _ hst HO⟩, by omega, by omega⟩
      · simp [hc] at hst
        simp (decide := true) [int, notesD, Nt.row, I64, ha, hc]
        exact ⟨by omega, k + 1, 16, ⟨hlt, fin _ hst HO⟩, by omega, by omega⟩
  by_cases k2 : kd = 2
  · subst k2
    have ha : alK 2 = true := rfl
    simp (decide := true) [int, ha]
    refine ECall.pure (by rfl) (overlap_ok S (by omega)) (by simp [notesD, Nt.row, int]) ?_
    cases hO : overP S with
    | true => simp (decide := true) [int, hov ha hO]
    | false =>
      have HO : alK 2 = true → overP S = false := fun _ => hO
      simp (decide := true) [int, notesD, Nt.row]
      refine ECall.pure (by rfl) (refGet_ok d n.par (by omega)) (by simp (decide := true) [docD, Dc.row, int, ints, tiersD, notesD]) ?_
      obtain ⟨⟨p, ok⟩, eg⟩ : ∃ g, getN d.notes n.par = g := ⟨_, rfl⟩
      rw [eg] at hst ⊢
      obtain ⟨pi, pt, pp, pf, pto, prr, px⟩ := p
      simp only [getD', Nt.row] at hst ⊢
      simp at hst
      simp (decide := true) [int, notesD, Nt.row, I64, ha]
      exact ⟨by omega, k + 1, out, ⟨hlt, fin _ hst HO⟩, by omega, by omega⟩
  by_cases k3 : kd = 3
  · subst k3
    have ha : alK 3 = false := rfl
    have HO : alK 3 = true → overP S = false := fun h => by rw [ha] at h; cases h
    simp (decide := true) [int, ha, notesD, Nt.row]
    refine ECall.pure (by rfl) (refGet_ok d n.par (by omega)) (by simp (decide := true) [docD, Dc.row, int, ints, tiersD, notesD]) ?_
    obtain ⟨⟨p, ok⟩, eg⟩ : ∃ g, getN d.notes n.par = g := ⟨_, rfl⟩
    rw [eg] at hst ⊢
    obtain ⟨pi, pt, pp, pf, pto, prr, px⟩ := p
    simp only [getD', Nt.row] at hst ⊢
    simp (decide := true) [int, notesD, Nt.row, I64, ha]
    refine ECall.pure (by rfl) (ranked_ok S (by omega)) (by simp [notesD, Nt.row, int]) ?_
    by_cases hc : rankP S = true
    · simp [hc] at hst
      simp (decide := true) [int, notesD, Nt.row, I64, ha, hc]
      exact ⟨by omega, k + 1, out, ⟨hlt, fin _ hst HO⟩, by omega, by omega⟩
    · simp [hc] at hst
      simp (decide := true) [int, notesD, Nt.row, I64, ha, hc]
      exact ⟨by omega, k + 1, 10, ⟨hlt, fin _ hst HO⟩, by omega, by omega⟩
  by_cases k4 : kd = 4
  · subst k4
    have ha : alK 4 = false := rfl
    have HO : alK 4 = true → overP S = false := fun h => by rw [ha] at h; cases h
    simp (decide := true) [int, ha, notesD, Nt.row]
    refine ECall.pure (by rfl) (refGet_ok d n.par (by omega)) (by simp (decide := true) [docD, Dc.row, int, ints, tiersD, notesD]) ?_
    obtain ⟨⟨p, ok⟩, eg⟩ : ∃ g, getN d.notes n.par = g := ⟨_, rfl⟩
    rw [eg] at hst ⊢
    obtain ⟨pi, pt, pp, pf, pto, prr, px⟩ := p
    simp only [getD', Nt.row] at hst ⊢
    by_cases hc : 1 < S.length
    · have hc' : (1 : Int) < S.length := by omega
      simp [hc] at hst
      simp (decide := true) [int, notesD, Nt.row, I64, ha, hc, hc']
      exact ⟨by omega, k + 1, 8, ⟨hlt, fin _ hst HO⟩, by omega, by omega⟩
    · have hc' : ¬ (1 : Int) < S.length := by omega
      simp [hc] at hst
      simp (decide := true) [int, notesD, Nt.row, I64, ha, hc, hc']
      exact ⟨by omega, k + 1, out, ⟨hlt, fin _ hst HO⟩, by omega, by omega⟩
  have ha : alK kd = false := by simp [alK, k0, k1, k2]
  have HO : alK kd = true → overP S = false := fun h => by rw [ha] at h; cases h
  simp (decide := true) [int, ha, notesD, Nt.row]
  refine ECall.pure (by rfl) (refGet_ok d n.par (by omega)) (by simp (decide := true) [docD, Dc.row, int, ints, tiersD, notesD]) ?_
  obtain ⟨⟨p, ok⟩, eg⟩ : ∃ g, getN d.notes n.par = g := ⟨_, rfl⟩
  rw [eg] at hst ⊢
  obtain ⟨pi, pt, pp, pf, pto, prr, px⟩ := p
  simp only [getD', Nt.row] at hst ⊢
  simp [k1, k3, k4] at hst
  simp (decide := true) [int, notesD, Nt.row, I64, ha, k1, k3, k4]
  exact ⟨by omega, k + 1, out, ⟨hlt, fin _ hst HO⟩, by omega, by omega⟩
def terGos (d : Dc) : Nat → Nat → Int
  | 0, _ => 0
  | m + 1, i => if i < d.tiers.length then (if terE d i = 0 then terGos d m (i + 1) else terE d i) else 0
def refE (d : Dc) : Int :=
  if tiersE d.tiers ≠ 0 then tiersE d.tiers else if d.len < 0 ∨ 86400000 < d.len then 12 else if 300 < d.notes.length then 11
  else if notesGo d d.notes.length 0 ≠ 0 then notesGo d d.notes.length 0 else terGos d d.tiers.length 0
end Go.V.Doc
namespace Go.V.Doc
open Go Go.Proofs
set_option maxHeartbeats 1000000 in
theorem refCheck_ok (d : Dc) (ht : d.tiers.length < 2^40) (hn : d.notes.length < 2^40) (hs : ∀ t ∈ d.tiers, t.name.size ≤ 9223372036854775807) (hx : ∀ n ∈ d.notes, n.text.size ≤ 9223372036854775807) :
    PureR Tryz.prog 32 [docD d] (int (refE d)) := by
  refine pure_of_body mixed Tryz.func32 rfl call_32 ?_
  simp (decide := true) [Tryz.f32, docD, Dc.row]
  refine ECall.pure (by rfl) (refTiers_ok d.tiers (by omega) hs) (by simp) ?_
  by_cases h1 : tiersE d.tiers = 0
  case neg => simp (decide := true) [int, h1, refE]
  by_cases h2 : d.len < 0
  · simp (decide := true) [int, h1, h2, refE]
  by_cases h3 : 86400000 < d.len
  · simp (decide := true) [int, h1, h2, h3, refE]
  by_cases h4 : 300 < d.notes.length
  · have h4' : (300 : Int) < d.notes.length := by omega
    simp (decide := true) [int, h1, h2, h3, h4, h4', refE, notesD]
  have h4' : ¬ (300 : Int) < d.notes.length := by omega
  have hE : refE d = if notesGo d d.notes.length 0 = 0 then terGos d d.tiers.length 0 else notesGo d d.notes.length 0 := by
    simp only [refE]
    rw [if_neg (by simpa using h1), if_neg (by omega), if_neg h4]
    by_cases h : notesGo d d.notes.length 0 = 0 <;> simp [h]
  rw [hE]
  simp (decide := true) [int, h1, h2, h3, h4', notesD]
  refine loop_rule mixed (fun i : Nat => { n := 54, next := 1, slots := [(1, .bp 0 0), (4, .d (.int .i64 i))], own := [(0, .box 53 (docCells d))] })
    (fun i => i ≤ d.notes.length ∧ notesGo d d.notes.length 0 = notesGo d (d.notes.length - i) i) (fun i => d.notes.length - i) 0 (by simp) (by simp (decide := true) [int, notesD, tiersD, ints]) ?_
  rintro i ⟨hi, hg⟩
  by_cases hlt : i < d.notes.length
  · obtain ⟨m, hm⟩ : ∃ m, d.notes.length - i = m + 1 := ⟨d.notes.length - i - 1, by omega⟩
    have hm' : d.notes.length - (i + 1) = m := by omega
    rw [hm, notesGo_IE, if_pos hlt] at hg
    have hlt' : (i : Int) < d.notes.length := by omega
    simp (decide := true) [int, notesD, hlt']
    refine ECall.pure (by rfl) (noteError_ok d i hlt (by omega) (by omega) hx) (by simp (decide := true) [docD, Dc.row, int, ints, tiersD, notesD]) ?_
    by_cases hz : noteIE d i = 0
    · rw [if_pos hz] at hg
      simp (decide := true) [int, hz, I64]
      exact ⟨by omega, i + 1, ⟨by omega, by rw [hg, hm']⟩, by omega, by simp [notesD]⟩
    · rw [if_neg hz] at hg
      simp (decide := true) [int, hz, hg]
  · have : i = d.notes.length := by omega
    subst this
    rw [Nat.sub_self] at hg
    rw [hg]
    simp (decide := true) [int, notesGo, tiersD, notesD]
    refine loop_rule mixed (fun i : Nat => { n := 54, next := 1, slots := [(1, .bp 0 0), (6, .d (.int .i64 i))], own := [(0, .box 53 (docCells d))] })
      (fun i => i ≤ d.tiers.length ∧ terGos d d.tiers.length 0 = terGos d (d.tiers.length - i) i) (fun i => d.tiers.length - i) 0 (by simp) (by simp (decide := true) [int, notesD, tiersD, ints]) ?_
    rintro i ⟨hi, hg⟩
    by_cases hlt : i < d.tiers.length
    · have hlt' : (i : Int) < d.tiers.length := by omega
      obtain ⟨m, hm⟩ : ∃ m, d.tiers.length - i = m + 1 := ⟨d.tiers.length - i - 1, by omega⟩
      have hm' : d.tiers.length - (i + 1) = m := by omega
      rw [hm] at hg
      simp only [terGos, if_pos hlt] at hg
      simp (decide := true) [int, tiersD, hlt']
      refine ECall.pure (by rfl) (tierError_ok d i hlt (by omega)) (by simp (decide := true) [docD, Dc.row, int, ints, tiersD, notesD]) ?_
      by_cases hz : terE d i = 0
      · rw [if_pos hz] at hg
        simp (decide := true) [int, hz, I64]
        exact ⟨by omega, i + 1, ⟨by omega, by rw [hg, hm']⟩, by omega, by simp [tiersD]⟩
      · rw [if_neg hz] at hg
        simp (decide := true) [int, hz, hg]
    · have : i = d.tiers.length := by omega
      subst this
      rw [Nat.sub_self] at hg
      simp (decide := true) [int, tiersD, hg, terGos]
def lightP (d : Dc) : Bool := decide (d.notes.length ≤ 14) && decide (d.tiers.length ≤ 6) && decide (d.spk.length ≤ 6) && decide (refE d = 0)
theorem light_ok (d : Dc) (hs : ∀ t ∈ d.tiers, t.name.size ≤ 9223372036854775807) (hx : ∀ n ∈ d.notes, n.text.size ≤ 9223372036854775807) :
    PureR Tryz.prog 17 [docD d] (.bool (lightP d)) := by
  refine pure_of_body mixed Tryz.func17 rfl call_17 ?_
  by_cases h1 : d.notes.length ≤ 14
  case neg =>
    have g1 : ¬ (d.notes.length : Int) ≤ 14 := by omega
    simp (decide := true) [Tryz.f17, docD, Dc.row, notesD, tiersD, ints, int, lightP, h1, g1]
  have g1 : (d.notes.length : Int) ≤ 14 := by omega
  by_cases h2 : d.tiers.length ≤ 6
  case neg =>
    have g2 : ¬ (d.tiers.length : Int) ≤ 6 := by omega
    simp (decide := true) [Tryz.f17, docD, Dc.row, notesD, tiersD, ints, int, lightP, h1, g1, h2, g2]
  have g2 : (d.tiers.length : Int) ≤ 6 := by omega
  by_cases h3 : d.spk.length ≤ 6
  case neg =>
    have g3 : ¬ (d.spk.length : Int) ≤ 6 := by omega
    simp (decide := true) [Tryz.f17, docD, Dc.row, notesD, tiersD, ints, int, lightP, h1, g1, h2, g2, h3, g3]
  have g3 : (d.spk.length : Int) ≤ 6 := by omega
  simp (decide := true) [Tryz.f17, docD, Dc.row, notesD, tiersD, ints, int, g1, g2, g3]
  refine ECall.pure (by rfl) (refCheck_ok d (by omega) (by omega) hs hx) (by simp (decide := true) [docD, Dc.row, int, ints, tiersD, notesD]) ?_
  by_cases hz : refE d = 0
  · simp (decide := true) [int, hz, lightP, h1, h2, h3]
  · simp (decide := true) [int, hz, lightP, h1, h2, h3]
end Go.V.Doc
namespace Go.V.Doc
open Go Go.Proofs
def inS (l : List Sp) (v : Int) : Prop := ∃ y ∈ l, y.fr ≤ v ∧ v < y.tO
theorem rt_iff {s : Sp} : s.rt = true ↔ 0 ≤ s.fr ∧ s.fr < s.tO ∧ s.tO ≤ 86400000 := by
  simp only [Sp.rt, rightS, Bool.and_eq_true, decide_eq_true_eq, and_assoc]
theorem in_cut1 {x s : Sp} (hx : x.rt = true) (hs : s.rt = true) (v : Int) : inS (cut1 x s) v ↔ (x.fr ≤ v ∧ v < x.tO) ∧ ¬ (s.fr ≤ v ∧ v < s.tO) := by
  rw [rt_iff] at hx hs
  obtain ⟨a1, a2, a3⟩ := hx
  obtain ⟨b1, b2, b3⟩ := hs
  have e1 : rightS x.fr (min x.tO s.fr) = true ↔ x.fr < min x.tO s.fr := by
    simp only [rightS, Bool.and_eq_true, decide_eq_true_eq]; omega
  have e2 : rightS (max x.fr s.tO) x.tO = true ↔ max x.fr s.tO < x.tO := by
    simp only [rightS, Bool.and_eq_true, decide_eq_true_eq]; omega
  unfold inS cut1
  constructor
  · rintro ⟨y, hy, h1, h2⟩
    rcases List.mem_append.1 hy with h | h
    · split at h
      · simp at h; subst h; simp only at h1 h2; omega
      · cases h
    · split at h
      · simp at h; subst h; simp only at h1 h2; omega
      · cases h
  · rintro ⟨⟨h1, h2⟩, h3⟩
    by_cases h4 : v < s.fr
    · refine ⟨⟨x.fr, min x.tO s.fr⟩, ?_, h1, by simp only; omega⟩
      rw [if_pos (e1.2 (by omega))]; simp
    · refine ⟨⟨max x.fr s.tO, x.tO⟩, ?_, by simp only; omega, h2⟩
      rw [if_pos (e2.2 (by omega))]; simp
theorem in_without {s : Sp} (hs : s.rt = true) (v : Int) {l : List Sp} (hl : ∀ x ∈ l, x.rt = true) : inS (withoutS l s) v ↔ inS l v ∧ ¬ (s.fr ≤ v ∧ v < s.tO) := by
  unfold withoutS
  constructor
  · rintro ⟨y, hy, h1⟩
    obtain ⟨x, hx, h⟩ := List.mem_flatMap.1 hy
    have := (in_cut1 (hl x hx) hs v).1 ⟨y, h, h1⟩
    exact ⟨⟨x, hx, this.1⟩, this.2⟩
  · rintro ⟨⟨x, hx, h1⟩, h2⟩
    obtain ⟨y, hy, h3⟩ := (in_cut1 (hl x hx) hs v).2 ⟨h1, h2⟩
    exact ⟨y, List.mem_flatMap.2 ⟨x, hx, hy⟩, h3⟩
theorem in_minus (v : Int) : ∀ (b a : List Sp), (∀ x ∈ a, x.rt = true) → (inS (minusS a b) v ↔ inS a v ∧ ∀ y ∈ b, y.rt = true → ¬ (y.fr ≤ v ∧ v < y.tO))
  | [], a, h => by simp [minusS]
  | y :: r, a, h => by
    have e : minusS a (y :: r) = minusS (if y.rt = true then withoutS a y else a) r := rfl
    rw [e]
    by_cases hy : y.rt = true
    · rw [if_pos hy, in_minus v r _ without_rt, in_without hy v h]
      constructor
      · rintro ⟨⟨h1, h2⟩, h3⟩
        refine ⟨h1, fun z hz hr => ?_⟩
        rcases List.mem_cons.1 hz with rfl | hz
        · exact h2
        · exact h3 z hz hr
      · rintro ⟨h1, h3⟩
        exact ⟨⟨h1, h3 y (by simp) hy⟩, fun z hz hr => h3 z (by simp [hz]) hr⟩
    · rw [if_neg hy, in_minus v r _ h]
      constructor
      · rintro ⟨h1, h3⟩
        refine ⟨h1, fun z hz hr => ?_⟩
        rcases List.mem_cons.1 hz with rfl | hz
        · exact absurd hr hy
        · exact h3 z hz hr
      · rintro ⟨h1, h3⟩
        exact ⟨h1, fun z hz hr => h3 z (by simp [hz]) hr⟩
theorem coversS_iff {l : List Sp} {s : Sp} : coversS l s = true ↔ s.rt = true ∧ ∀ v, s.fr ≤ v → v < s.tO → ∃ y ∈ l, y.rt = true ∧ y.fr ≤ v ∧ v < y.tO := by
  unfold coversS
  rw [Bool.and_eq_true]
  constructor
  · rintro ⟨hs, he⟩
    refine ⟨hs, fun v h1 h2 => ?_⟩
    have hm := in_minus v l [s] (by simpa using hs)
    rw [List.isEmpty_iff.1 he] at hm
    have hn : ¬ inS [] v := by rintro ⟨y, hy, _⟩; cases hy
    have : ¬ (inS [s] v ∧ ∀ y ∈ l, y.rt = true → ¬ (y.fr ≤ v ∧ v < y.tO)) := fun h => hn (hm.2 h)
    apply Classical.byContradiction
    intro hc
    exact this ⟨⟨s, by simp, h1, h2⟩, fun y hy hr hv => hc ⟨y, hy, hr, hv⟩⟩
  · rintro ⟨hs, h⟩
    refine ⟨hs, ?_⟩
    have hrt := (minus_inv l [s] (by simpa using hs)).1
    cases hm : minusS [s] l with
    | nil => rfl
    | cons y r =>
      exfalso
      have hy := rt_iff.1 (hrt y (by rw [hm]; simp))
      have hin : inS (minusS [s] l) y.fr := ⟨y, by rw [hm]; simp, Int.le_refl _, hy.2.1⟩
      obtain ⟨⟨z, hz, h1, h2⟩, h3⟩ := (in_minus y.fr l [s] (by simpa using hs)).1 hin
      simp at hz; subst hz
      obtain ⟨u, hu, hr, hv⟩ := h _ h1 h2
      exact h3 u hu hr hv
theorem filter_at {α : Type} {q : α → Bool} : ∀ {s : List α} {i : Nat} (h : i < s.length), q s[i] = true → (s.filter q)[((s.take i).filter q).length]? = some s[i]
  | x :: r, 0, h, hq => by
    have hq' : q x = true := hq
    simp [hq']
  | x :: r, i + 1, h, hq => by
    have h' : i < r.length := by simpa using h
    have ih := filter_at (q := q) h' hq
    by_cases hx : q x = true
    · simp only [List.take_succ_cons, List.filter_cons_of_pos hx, List.length_cons, List.getElem?_cons_succ, List.getElem_cons_succ]
      exact ih
    · simp only [List.take_succ_cons, List.filter_cons_of_neg hx, List.getElem_cons_succ]
      exact ih
theorem filter_from {α : Type} {q : α → Bool} : ∀ {s : List α} {j : Nat}, j < (s.filter q).length → ∃ i, ∃ h : i < s.length, q s[i] = true ∧ ((s.take i).filter q).length = j
  | [], j, h => by simp at h
  | x :: r, j, h => by
    by_cases hx : q x = true
    · cases j with
      | zero => exact ⟨0, by simp, hx, by simp⟩
      | succ j =>
        rw [List.filter_cons_of_pos hx, List.length_cons] at h
        obtain ⟨i, hi, h1, h2⟩ := filter_from (q := q) (s := r) (j := j) (by omega)
        exact ⟨i + 1, by simpa using hi, h1, by rw [List.take_succ_cons, List.filter_cons_of_pos hx, List.length_cons, h2]⟩
    · rw [List.filter_cons_of_neg hx] at h
      obtain ⟨i, hi, h1, h2⟩ := filter_from (q := q) (s := r) h
      exact ⟨i + 1, by simpa using hi, h1, by rw [List.take_succ_cons, List.filter_cons_of_neg hx, h2]⟩
theorem no_room : ∀ (l : List Int) (c : Int), l.Pairwise (· ≤ ·) → (∀ n : Nat, n ≤ l.length → c + n ∈ l) → False
  | [], c, _, h => by have := h 0 (by simp); simp at this
  | x :: r, c, hp, h => by
    rw [List.pairwise_cons] at hp
    have hx : x ≤ c := by
      have := h 0 (by simp)
      rcases List.mem_cons.1 this with e | e
      · simp at e; omega
      · have := hp.1 _ e; simp at this; exact this
    refine no_room r (c + 1) hp.2 fun n hn => ?_
    have := h (n + 1) (by simp; omega)
    rcases List.mem_cons.1 this with e | e
    · exfalso; push_cast at e; omega
    · have e2 : c + 1 + (n : Int) = c + ((n + 1 : Nat) : Int) := by push_cast; omega
      rw [e2]; exact e
theorem in_row : ∀ (l : List Int) (c : Int), l.Pairwise (· ≤ ·) → (∀ n : Nat, n < l.length → c + n ∈ l) → ∀ j : Nat, j < l.length → l[j]? = some (c + j)
  | [], c, _, h, j, hj => by simp at hj
  | x :: r, c, hp, h, j, hj => by
    rw [List.pairwise_cons] at hp
    have hx : x ≤ c := by
      have := h 0 (by simp)
      rcases List.mem_cons.1 this with e | e
      · simp at e; omega
      · have := hp.1 _ e; simp at this; exact this
    have hxc : x = c := by
      apply Classical.byContradiction
      intro hne
      refine no_room r c hp.2 fun n hn => ?_
      have := h n (by simp; omega)
      rcases List.mem_cons.1 this with e | e
      · exfalso; omega
      · exact e
    cases j with
    | zero => simp [hxc]
    | succ j =>
      have := in_row r (c + 1) hp.2 (fun n hn => by
        have := h (n + 1) (by simp; omega)
        rcases List.mem_cons.1 this with e | e
        · exfalso; push_cast at e; omega
        · have e2 : c + 1 + (n : Int) = c + ((n + 1 : Nat) : Int) := by push_cast; omega
          rw [e2]; exact e) j (by simpa using hj)
      rw [List.getElem?_cons_succ, this]
      congr 1; push_cast; omega
end Go.V.Doc
namespace Go.V.Doc
open Go Go.Proofs
def gN (s : List Nt) (i : Nat) : Nt := s[i]?.getD default
theorem gN_eq {s : List Nt} {i : Nat} (h : i < s.length) : gN s i = s[i] := by unfold gN; rw [List.getElem?_eq_getElem h]; rfl
theorem gN_mem {s : List Nt} {i : Nat} (h : i < s.length) : gN s i ∈ s := by rw [gN_eq h]; exact List.getElem_mem h
def evGo {α : Type} (ov bad : α → Bool) (c : Int) : List α → Int → Int
  | [], out => out
  | x :: r, out => if ov x = true then 15 else evGo ov bad c r (if bad x = true then c else out)
theorem evGo_eq {α : Type} (ov bad : α → Bool) (c : Int) : ∀ (l : List α) (out : Int), evGo ov bad c l out = if l.any ov = true then 15 else if l.any bad = true then c else out
  | [], out => by simp [evGo]
  | x :: r, out => by
    simp only [evGo]
    rw [evGo_eq ov bad c r]
    simp only [List.any_cons]
    have h : ∀ a b e g : Bool, (if a = true then (15 : Int) else if e = true then 15 else if g = true then c else if b = true then c else out) = if (a || e) = true then 15 else if (b || g) = true then c else out := by
      intro a b e g; cases a <;> cases b <;> cases e <;> cases g <;> simp
    exact h _ _ _ _
def codeK (kd : Int) : Int := if kd = 1 then 16 else if kd = 3 then 10 else 8
def ovB (kd : Int) (s : List Nt) (i : Nat) : Bool := alK kd && (!firstB s i && decide ((gN s i).fr < (gN s (i - 1)).tO))
def badB (notes : List Nt) (kd : Int) (s : List Nt) (i : Nat) : Bool :=
  (decide (kd = 1) && ((firstB s i && !decide ((gN s i).fr = (getN notes (gN s i).par).1.fr)) || (!firstB s i && !decide ((gN s (i - 1)).tO = (gN s i).fr)) || (lastB s i && !decide ((gN s i).tO = (getN notes (gN s i).par).1.tO)))) ||
  (decide (kd = 3) && ((firstB s i && !decide ((gN s i).rank = 0)) || (!firstB s i && !decide ((gN s i).rank = IntKind.i64.wrap ((gN s (i - 1)).rank + 1))))) ||
  (decide (kd = 4) && !firstB s i)
theorem tierGo_ev (notes : List Nt) (kd : Int) (s : List Nt) : ∀ (m i : Nat) (why : Int), i + m ≤ s.length → tierGo notes kd s m i why = evGo (ovB kd s) (badB notes kd s) (codeK kd) (List.range' i m) why
  | 0, i, why, _ => rfl
  | m + 1, i, why, h => by
    have ih := fun w => tierGo_ev notes kd s m (i + 1) w (by omega)
    rw [List.range'_succ]
    simp only [tierGo, evGo]
    rw [if_pos (show i < s.length by omega)]
    simp only [ih]
    have e1 : (s[i]?.getD default) = gN s i := rfl
    have e2 : (s[i - 1]?.getD default) = gN s (i - 1) := rfl
    rw [e1, e2]
    unfold ovB badB codeK
    generalize gN s i = n
    generalize gN s (i - 1) = pv
    generalize (getN notes n.par).1 = p
    generalize firstB s i = F
    generalize lastB s i = L
    by_cases k0 : kd = 0
    · subst k0
      cases F <;> simp [alK]
    by_cases k1 : kd = 1
    · subst k1
      cases F <;> cases L <;> simp [alK]
    by_cases k2 : kd = 2
    · subst k2
      cases F <;> simp [alK]
    by_cases k3 : kd = 3
    · subst k3
      cases F <;> simp [alK]
    by_cases k4 : kd = 4
    · subst k4
      cases F <;> simp [alK]
    simp [alK, k0, k1, k2, k3, k4]
theorem tierE_ev (d : Dc) (t : Int) : tierE d t = if (List.range' 0 (sortN (ofT d.notes t)).length).any (ovB (tirAt d t).kind (sortN (ofT d.notes t))) = true then 15
    else if (List.range' 0 (sortN (ofT d.notes t)).length).any (badB d.notes (tirAt d t).kind (sortN (ofT d.notes t))) = true then codeK (tirAt d t).kind else 0 := by
  unfold tierE
  rw [← sortN_length (ofT d.notes t), tierGo_ev _ _ _ _ _ _ (by simp), evGo_eq]
def ovR (d : Dc) (t kd : Int) (n : Nt) : Bool := alK kd && overP (sibs d.notes t n.par)
def badR (d : Dc) (t kd : Int) (n : Nt) : Bool :=
  (decide (kd = 1) && !coversS (spansOf (sibs d.notes t n.par)) ⟨(getN d.notes n.par).1.fr, (getN d.notes n.par).1.tO⟩) || (decide (kd = 3) && !rankP (sibs d.notes t n.par)) || (decide (kd = 4) && decide (1 < (sibs d.notes t n.par).length))
theorem terGo_ev (d : Dc) (t kd : Int) : ∀ (l : List Nt) (out : Int), terGo d t kd l out = evGo (ovR d t kd) (badR d t kd) (codeK kd) (ofT l t) out
  | [], out => rfl
  | n :: r, out => by
    have ih := fun w => terGo_ev d t kd r w
    simp only [terGo]
    by_cases h : n.tier = t
    · have e : ofT (n :: r) t = n :: ofT r t := by unfold ofT; rw [List.filter_cons_of_pos (by simpa using h)]
      rw [if_pos h, e]
      simp only [evGo, ih]
      unfold ovR badR terStep codeK
      generalize coversS (spansOf (sibs d.notes t n.par)) ⟨(getN d.notes n.par).1.fr, (getN d.notes n.par).1.tO⟩ = C
      generalize rankP (sibs d.notes t n.par) = R
      generalize (sibs d.notes t n.par).length = z
      generalize overP (sibs d.notes t n.par) = O
      by_cases k1 : kd = 1
      · subst k1; cases C <;> simp [alK]
      by_cases k3 : kd = 3
      · subst k3; cases R <;> simp [alK]
      by_cases k4 : kd = 4
      · subst k4; simp [alK]
      simp [k1, k3, k4]
    · have e : ofT (n :: r) t = ofT r t := by unfold ofT; rw [List.filter_cons_of_neg (by simpa using h)]
      rw [if_neg h, e, ih]
theorem terE_ev (d : Dc) (t : Int) : terE d t = if (ofT d.notes t).any (ovR d t (tirAt d t).kind) = true then 15 else if (ofT d.notes t).any (badR d t (tirAt d t).kind) = true then codeK (tirAt d t).kind else 0 := by
  unfold terE
  rw [terGo_ev, evGo_eq]
structure Srt (s : List Nt) : Prop where
  par : ∀ i j, i < j → j < s.length → (gN s i).par ≤ (gN s j).par
  fr : ∀ i j, i < j → j < s.length → (gN s i).par = (gN s j).par → (gN s i).fr ≤ (gN s j).fr
  rank : ∀ i j, i < j → j < s.length → (gN s i).par = (gN s j).par → (gN s i).fr = (gN s j).fr → (gN s i).rank ≤ (gN s j).rank
theorem srt_of (l : List Nt) : Srt (sortN l) := by
  have h : ∀ i j, i < j → j < (sortN l).length → ¬ ((gN (sortN l) j).par < (gN (sortN l) i).par ∨ ((gN (sortN l) j).par = (gN (sortN l) i).par ∧ ((gN (sortN l) j).fr < (gN (sortN l) i).fr ∨ ((gN (sortN l) j).fr = (gN (sortN l) i).fr ∧ (gN (sortN l) j).rank < (gN (sortN l) i).rank)))) := by
    intro i j hij hj
    have := List.pairwise_iff_getElem.1 (sortN_sorted l) i j (by omega) hj hij
    rw [ltN_false] at this
    rw [gN_eq hj, gN_eq (show i < _ by omega)]
    exact this
  exact ⟨fun i j hij hj => by have := h i j hij hj; omega, fun i j hij hj e => by have := h i j hij hj; omega, fun i j hij hj e e' => by have := h i j hij hj; omega⟩
theorem first_iff {s : List Nt} {i : Nat} : firstB s i = true ↔ i = 0 ∨ (gN s (i - 1)).par ≠ (gN s i).par := by
  unfold firstB
  rw [Bool.or_eq_true, decide_eq_true_eq, Bool.not_eq_true', decide_eq_false_iff_not]
  rfl
theorem first_false {s : List Nt} {i : Nat} : firstB s i = false ↔ i ≠ 0 ∧ (gN s (i - 1)).par = (gN s i).par := by
  rw [← Bool.not_eq_true, first_iff]
  exact ⟨fun h => ⟨fun e => h (.inl e), Classical.byContradiction fun e => h (.inr e)⟩, fun h h' => h'.elim (fun e => h.1 e) (fun e => e h.2)⟩
theorem last_iff {s : List Nt} {i : Nat} : lastB s i = true ↔ i + 1 = s.length ∨ (gN s (i + 1)).par ≠ (gN s i).par := by
  unfold lastB
  rw [Bool.or_eq_true, decide_eq_true_eq, Bool.not_eq_true', decide_eq_false_iff_not]
  rfl
def AllP (s : List Nt) : Prop := ∀ i j, i < j → j < s.length → (gN s i).par = (gN s j).par → (gN s i).tO ≤ (gN s j).fr
theorem all_of {s : List Nt} (hs : Srt s) (h : ∀ i, i < s.length → (!firstB s i && decide ((gN s i).fr < (gN s (i - 1)).tO)) = false) : AllP s := by
  intro i j hij hj hp
  have h1 : (gN s i).par = (gN s (i + 1)).par := by
    rcases Nat.eq_or_lt_of_le (show i + 1 ≤ j from hij) with e | e
    · rw [e]; exact hp
    · have a := hs.par i (i + 1) (by omega) (by omega)
      have b := hs.par (i + 1) j e hj
      omega
  have h2 := h (i + 1) (by omega)
  have hf : firstB s (i + 1) = false := first_false.2 ⟨by omega, h1⟩
  rw [hf] at h2
  simp at h2
  rcases Nat.eq_or_lt_of_le (show i + 1 ≤ j from hij) with e | e
  · subst e; exact h2
  · have := hs.fr (i + 1) j e hj (by omega)
    omega
theorem all_adj {s : List Nt} (h : AllP s) : ∀ i, i < s.length → (!firstB s i && decide ((gN s i).fr < (gN s (i - 1)).tO)) = false := by
  intro i hi
  cases hf : firstB s i with
  | true => rfl
  | false =>
    obtain ⟨h0, hp⟩ := first_false.1 hf
    have := h (i - 1) i (by omega) hi hp
    simp; omega
def NM (x y : Nt) : Prop := ¬ (x.fr < y.tO ∧ y.fr < x.tO)
theorem NM.symm {x y : Nt} (h : NM x y) : NM y x := fun e => h ⟨e.2, e.1⟩
theorem over_pair {l : List Nt} : overP l = false ↔ l.Pairwise NM := by
  rw [overP_false, List.pairwise_iff_getElem]
  constructor
  · intro h i j hi hj hij
    have := h j hj i hij
    unfold meetP at this
    rw [List.getElem?_eq_getElem hj, List.getElem?_eq_getElem hi] at this
    simp only [Option.getD_some, Bool.and_eq_false_iff, decide_eq_false_iff_not] at this
    rintro ⟨a, b⟩
    rcases this with h | h
    · exact h b
    · exact h a
  · intro h i hi k hk
    have := h k i (by omega) hi hk
    unfold meetP
    rw [List.getElem?_eq_getElem hi, List.getElem?_eq_getElem (show k < l.length by omega)]
    simp only [Option.getD_some, Bool.and_eq_false_iff, decide_eq_false_iff_not]
    by_cases c : l[i].fr < l[k].tO
    · right; intro c'; exact this ⟨c', c⟩
    · left; exact c
section
variable {d : Dc} {t : Int} {s : List Nt}
theorem sibs_ofT (notes : List Nt) (t p : Int) : sibs notes t p = (ofT notes t).filter fun n => decide (n.par = p) := by
  unfold sibs ofT
  rw [List.filter_filter]
  congr 1; funext n; rw [Bool.and_comm]
theorem sibs_perm (hp : s.Perm (ofT d.notes t)) (p : Int) : (s.filter fun n => decide (n.par = p)).Perm (sibs d.notes t p) := by
  rw [sibs_ofT]; exact hp.filter _
theorem over_all (hp : s.Perm (ofT d.notes t)) (hs : Srt s) (hr : ∀ n ∈ s, n.fr < n.tO) : AllP s ↔ ∀ n ∈ ofT d.notes t, overP (sibs d.notes t n.par) = false := by
  constructor
  · intro h n hn
    rw [over_pair]
    refine ((sibs_perm hp n.par).pairwise_iff fun h => NM.symm h).1 ?_
    rw [List.pairwise_filter, List.pairwise_iff_getElem]
    intro i j hi hj hij h1 h2
    simp at h1 h2
    have := h i j hij hj (by rw [gN_eq hi, gN_eq hj, h1, h2])
    rw [gN_eq hi, gN_eq hj] at this
    rintro ⟨_, b⟩
    omega
  · intro h i j hij hj hpp
    have hi : i < s.length := by omega
    have h1 := h (gN s i) (hp.mem_iff.1 (gN_mem hi))
    rw [over_pair] at h1
    have h2 := ((sibs_perm hp (gN s i).par).pairwise_iff fun h => NM.symm h).2 h1
    rw [List.pairwise_filter, List.pairwise_iff_getElem] at h2
    have h3 := h2 i j hi hj hij (by rw [gN_eq hi]; simp) (by rw [← gN_eq hj, ← hpp]; simp)
    rw [← gN_eq hi, ← gN_eq hj] at h3
    have a := hs.fr i j hij hj hpp
    have b := hr _ (gN_mem hj)
    have c : ¬ (gN s j).fr < (gN s i).tO := fun e => h3 ⟨by omega, e⟩
    omega
end
end Go.V.Doc
namespace Go.V.Doc
open Go Go.Proofs
section
variable {d : Dc} {t : Int} {s : List Nt}
def gapB (notes : List Nt) (s : List Nt) (i : Nat) : Bool :=
  (firstB s i && !decide ((gN s i).fr = (getN notes (gN s i).par).1.fr)) || (!firstB s i && !decide ((gN s (i - 1)).tO = (gN s i).fr)) || (lastB s i && !decide ((gN s i).tO = (getN notes (gN s i).par).1.tO))
theorem group_first : ∀ i, ∃ j, j ≤ i ∧ (gN s j).par = (gN s i).par ∧ firstB s j = true
  | 0 => ⟨0, by omega, rfl, first_iff.2 (.inl rfl)⟩
  | i + 1 => by
    cases h : firstB s (i + 1) with
    | true => exact ⟨i + 1, by omega, rfl, h⟩
    | false =>
      obtain ⟨_, hp⟩ := first_false.1 h
      obtain ⟨j, h1, h2, h3⟩ := group_first i
      have hp' : (gN s i).par = (gN s (i + 1)).par := hp
      exact ⟨j, by omega, h2.trans hp', h3⟩
theorem mem_sibs (hp : s.Perm (ofT d.notes t)) {p : Int} {m : Nt} : m ∈ sibs d.notes t p ↔ ∃ j, j < s.length ∧ (gN s j).par = p ∧ gN s j = m := by
  rw [← (sibs_perm hp p).mem_iff, List.mem_filter]
  constructor
  · rintro ⟨h1, h2⟩
    obtain ⟨j, hj, e⟩ := List.mem_iff_getElem.1 h1
    rw [← gN_eq hj] at e
    exact ⟨j, hj, by rw [e]; simpa using h2, e⟩
  · rintro ⟨j, hj, h1, rfl⟩
    exact ⟨gN_mem hj, by simpa using h1⟩
structure Wit (notes s : List Nt) : Prop where
  right : ∀ n ∈ s, rightS n.fr n.tO = true
  prt : ∀ n ∈ s, rightS (getN notes n.par).1.fr (getN notes n.par).1.tO = true
  lo : ∀ n ∈ s, (getN notes n.par).1.fr ≤ n.fr
  hi : ∀ n ∈ s, n.tO ≤ (getN notes n.par).1.tO
theorem gap_all (hp : s.Perm (ofT d.notes t)) (hs : Srt s) (ha : AllP s) (hw : Wit d.notes s) :
    (∀ i, i < s.length → gapB d.notes s i = false) ↔ ∀ n ∈ ofT d.notes t, coversS (spansOf (sibs d.notes t n.par)) ⟨(getN d.notes n.par).1.fr, (getN d.notes n.par).1.tO⟩ = true := by
  have hrt : ∀ n ∈ s, 0 ≤ n.fr ∧ n.fr < n.tO ∧ n.tO ≤ 86400000 := fun n hn => by have := hw.right n hn; simpa only [rightS, Bool.and_eq_true, decide_eq_true_eq, and_assoc] using this
  constructor
  · intro h n hn
    have hn' : n ∈ s := hp.mem_iff.2 hn
    obtain ⟨i0, hi0, e0⟩ := List.mem_iff_getElem.1 hn'
    rw [← gN_eq hi0] at e0
    subst e0
    rw [coversS_iff]
    refine ⟨hw.prt _ hn', fun v hv1 hv2 => ?_⟩
    simp only at hv1 hv2
    have up : ∀ k i, s.length - i ≤ k → i < s.length → (gN s i).par = (gN s i0).par → (gN s i).fr ≤ v → ∃ j, j < s.length ∧ (gN s j).par = (gN s i0).par ∧ (gN s j).fr ≤ v ∧ v < (gN s j).tO := by
      intro k
      induction k with
      | zero => intro i h1 h2; omega
      | succ k ih =>
        intro i h1 h2 h3 h4
        by_cases h5 : v < (gN s i).tO
        · exact ⟨i, h2, h3, h4, h5⟩
        have hg := h i h2
        simp only [gapB, Bool.or_eq_false_iff, Bool.and_eq_false_iff, Bool.not_eq_false', decide_eq_true_eq] at hg
        have hl : lastB s i = false := by
          rcases hg.2 with e | e
          · exact e
          · rw [h3] at e; omega
        rw [← Bool.not_eq_true, last_iff, not_or, Classical.not_not] at hl
        have hi1 : i + 1 < s.length := by omega
        have hf : firstB s (i + 1) = false := first_false.2 ⟨by omega, by simpa using hl.2.symm⟩
        have hg1 := h (i + 1) hi1
        simp only [gapB, Bool.or_eq_false_iff, Bool.and_eq_false_iff, Bool.not_eq_false', decide_eq_true_eq, hf] at hg1
        have hto : (gN s i).tO = (gN s (i + 1)).fr := by
          rcases hg1.1.2 with e | e
          · cases e
          · simpa using e
        exact ih (i + 1) (by omega) hi1 (hl.2.trans h3) (by omega)
    obtain ⟨j, hj, hjp, hjf⟩ := group_first (s := s) i0
    have hjl : j < s.length := by omega
    have hgj := h j hjl
    simp only [gapB, Bool.or_eq_false_iff, Bool.and_eq_false_iff, Bool.not_eq_false', decide_eq_true_eq, hjf] at hgj
    have hfr : (gN s j).fr = (getN d.notes (gN s i0).par).1.fr := by
      rcases hgj.1.1 with e | e
      · cases e
      · rw [hjp] at e; exact e
    obtain ⟨y, hy, hyp, hy1, hy2⟩ := up _ j (Nat.le_refl _) hjl hjp (by omega)
    exact ⟨⟨(gN s y).fr, (gN s y).tO⟩, List.mem_map.2 ⟨gN s y, (mem_sibs hp).2 ⟨y, hy, hyp, rfl⟩, rfl⟩, hw.right _ (gN_mem hy), hy1, hy2⟩
  · intro h i hi
    have hc := coversS_iff.1 (h _ (hp.mem_iff.1 (gN_mem hi)))
    have pt := hw.prt _ (gN_mem hi)
    have cov : ∀ v, (getN d.notes (gN s i).par).1.fr ≤ v → v < (getN d.notes (gN s i).par).1.tO → ∃ j, j < s.length ∧ (gN s j).par = (gN s i).par ∧ (gN s j).fr ≤ v ∧ v < (gN s j).tO := by
      intro v h1 h2
      obtain ⟨y, hy, _, hy1, hy2⟩ := hc.2 v h1 h2
      obtain ⟨m, hm, rfl⟩ := List.mem_map.1 hy
      obtain ⟨j, hj, hjp, rfl⟩ := (mem_sibs hp).1 hm
      exact ⟨j, hj, hjp, hy1, hy2⟩
    have lo := hw.lo _ (gN_mem hi)
    have hi' := hw.hi _ (gN_mem hi)
    have hri := hrt _ (gN_mem hi)
    generalize hP : (getN d.notes (gN s i).par).1.fr = a at *
    generalize hQ : (getN d.notes (gN s i).par).1.tO = b at *
    have pt' : a < b := by simp only [rightS, Bool.and_eq_true, decide_eq_true_eq] at pt; omega
    simp only [gapB, Bool.or_eq_false_iff, Bool.and_eq_false_iff, Bool.not_eq_false', decide_eq_true_eq, hP, hQ]
    refine ⟨⟨?_, ?_⟩, ?_⟩
    · cases hf : firstB s i with
      | false => exact .inl rfl
      | true =>
        right
        apply Classical.byContradiction
        intro hne
        obtain ⟨j, hj, hjp, hj1, hj2⟩ := cov a (Int.le_refl _) pt'
        rcases Nat.lt_trichotomy j i with hji | rfl | hji
        · rcases first_iff.1 hf with e | e
          · omega
          · apply e
            rcases Nat.eq_or_lt_of_le (show j ≤ i - 1 by omega) with e' | e'
            · rw [← e', hjp]
            · have x1 := hs.par j (i - 1) e' (by omega)
              have x2 := hs.par (i - 1) i (by omega) hi
              omega
        · omega
        · have := hs.fr i j hji hj hjp.symm
          omega
    · cases hf : firstB s i with
      | true => exact .inl rfl
      | false =>
        right
        obtain ⟨h0, hpp⟩ := first_false.1 hf
        have hil : i - 1 < s.length := by omega
        have h1 := ha (i - 1) i (by omega) hi hpp
        apply Classical.byContradiction
        intro hne
        have r1 := hrt _ (gN_mem hil)
        have l1 := hw.lo _ (gN_mem hil)
        rw [hpp, hP] at l1
        obtain ⟨j, hj, hjp, hj1, hj2⟩ := cov (gN s (i - 1)).tO (by omega) (by omega)
        rcases Nat.lt_trichotomy j (i - 1) with hji | e | hji
        · have := ha j (i - 1) hji hil (hjp.trans hpp.symm)
          omega
        · subst e; omega
        · rcases Nat.eq_or_lt_of_le (show i ≤ j by omega) with e' | e'
          · subst e'; omega
          · have := hs.fr i j e' hj hjp.symm
            omega
    · cases hf : lastB s i with
      | false => exact .inl rfl
      | true =>
        right
        apply Classical.byContradiction
        intro hne
        obtain ⟨j, hj, hjp, hj1, hj2⟩ := cov (gN s i).tO (by omega) (by omega)
        rcases Nat.lt_trichotomy j i with hji | rfl | hji
        · have := ha j i hji hi hjp
          omega
        · omega
        · rcases last_iff.1 hf with e | e
          · omega
          · apply e
            rcases Nat.eq_or_lt_of_le (show i + 1 ≤ j from hji) with e' | e'
            · rw [e', hjp]
            · have x1 := hs.par (i + 1) j e' hj
              have x2 := hs.par i (i + 1) (by omega) (by omega)
              omega
def posN (s : List Nt) (i : Nat) : Nat := ((s.take i).filter fun n => decide (n.par = (gN s i).par)).length
theorem pos_first (hs : Srt s) {i : Nat} (hi : i < s.length) (h : firstB s i = true) : posN s i = 0 := by
  unfold posN
  rw [List.length_eq_zero_iff, List.filter_eq_nil_iff]
  intro x hx hd
  obtain ⟨j, hj, rfl⟩ := List.mem_take_iff_getElem.1 hx
  have hjl : j < s.length := by omega
  have hji : j < i := by omega
  simp only [decide_eq_true_eq] at hd
  rw [← gN_eq hjl] at hd
  rcases first_iff.1 h with e | e
  · omega
  · apply e
    rcases Nat.eq_or_lt_of_le (show j ≤ i - 1 by omega) with e' | e'
    · rw [← e', hd]
    · have x1 := hs.par j (i - 1) e' (by omega)
      have x2 := hs.par (i - 1) i (by omega) hi
      omega
theorem pos_next {i : Nat} (hi : i < s.length) (h : firstB s i = false) : posN s i = posN s (i - 1) + 1 := by
  obtain ⟨h0, hp⟩ := first_false.1 h
  obtain ⟨j, rfl⟩ : ∃ j, i = j + 1 := ⟨i - 1, by omega⟩
  have hj : j < s.length := by omega
  have hp' : (gN s j).par = (gN s (j + 1)).par := hp
  unfold posN
  rw [take_snoc' hj, List.filter_append, List.length_append]
  have : [s[j]].filter (fun n => decide (n.par = (gN s (j + 1)).par)) = [s[j]] := by
    rw [List.filter_cons_of_pos (by rw [← gN_eq hj]; simpa using hp')]; rfl
  rw [this]
  simp only [Nat.add_sub_cancel, List.length_singleton, hp']
theorem pos_at {i : Nat} (hi : i < s.length) : (s.filter fun n => decide (n.par = (gN s i).par))[posN s i]? = some (gN s i) := by
  have := filter_at (q := fun n => decide (n.par = (gN s i).par)) hi (by rw [← gN_eq hi]; simp)
  rw [← gN_eq hi] at this
  exact this
theorem pos_from {p : Int} {j : Nat} (h : j < (s.filter fun n => decide (n.par = p)).length) : ∃ i, i < s.length ∧ (gN s i).par = p ∧ posN s i = j := by
  obtain ⟨i, hi, h1, h2⟩ := filter_from h
  have hpi : (gN s i).par = p := by rw [gN_eq hi]; simpa using h1
  exact ⟨i, hi, hpi, by unfold posN; rw [hpi]; exact h2⟩
def rkB (s : List Nt) (i : Nat) : Bool := (firstB s i && !decide ((gN s i).rank = 0)) || (!firstB s i && !decide ((gN s i).rank = IntKind.i64.wrap ((gN s (i - 1)).rank + 1)))
theorem rk_pos (hs : Srt s) (hl : s.length < 2^40) : (∀ i, i < s.length → rkB s i = false) ↔ ∀ i, i < s.length → (gN s i).rank = posN s i := by
  have hb : ∀ i, posN s i ≤ s.length := by
    intro i; unfold posN
    exact Nat.le_trans (List.length_filter_le _ _) (by rw [List.length_take]; omega)
  constructor
  · intro h i
    induction i with
    | zero =>
      intro hi
      have hf : firstB s 0 = true := first_iff.2 (.inl rfl)
      have := h 0 hi
      rw [pos_first hs hi hf]
      simp [rkB, hf] at this
      exact this
    | succ j ih =>
      intro hi
      have := h (j + 1) hi
      cases hf : firstB s (j + 1) with
      | true =>
        rw [pos_first hs hi hf]
        simp [rkB, hf] at this
        exact this
      | false =>
        have e := ih (by omega)
        have hbj := hb j
        have e2 := pos_next hi hf
        simp only [Nat.add_sub_cancel] at e2
        simp [rkB, hf] at this
        rw [this, e, e2, wrap64 (by omega)]; push_cast; rfl
  · intro h i hi
    cases hf : firstB s i with
    | true =>
      have := h i hi
      rw [pos_first hs hi hf] at this
      simp [rkB, hf, this]
    | false =>
      have e2 := pos_next hi hf
      have e := h i hi
      have e1 := h (i - 1) (by omega)
      have hbj := hb (i - 1)
      simp only [rkB, hf, Bool.false_and, Bool.false_or, Bool.not_false, Bool.true_and, Bool.not_eq_false', decide_eq_true_eq]
      rw [e, e1, e2, wrap64 (by omega)]; push_cast; rfl
theorem rank_all (hp : s.Perm (ofT d.notes t)) (hs : Srt s) (hl : s.length < 2^40) (hz : ∀ n ∈ s, n.fr = 0) :
    (∀ i, i < s.length → rkB s i = false) ↔ ∀ n ∈ ofT d.notes t, rankP (sibs d.notes t n.par) = true := by
  rw [rk_pos hs hl]
  constructor
  · intro h n hn
    rw [rankP_true]
    intro m hm
    rw [← (sibs_perm hp n.par).length_eq] at hm
    obtain ⟨i, hi, h1, h2⟩ := pos_from hm
    rw [List.any_eq_true]
    exact ⟨gN s i, (mem_sibs hp).2 ⟨i, hi, h1, rfl⟩, by rw [decide_eq_true_eq, h i hi, h2]⟩
  · intro h i hi
    have hr := rankP_true.1 (h _ (hp.mem_iff.1 (gN_mem hi)))
    have hlen := (sibs_perm hp (gN s i).par).length_eq
    have hpw : ((s.filter fun n => decide (n.par = (gN s i).par)).map (·.rank)).Pairwise (· ≤ ·) := by
      rw [List.pairwise_map, List.pairwise_filter, List.pairwise_iff_getElem]
      intro a b ha hb hab h1 h2
      simp only [decide_eq_true_eq] at h1 h2
      rw [← gN_eq ha] at h1 ⊢
      rw [← gN_eq hb] at h2 ⊢
      exact hs.rank a b hab hb (h1.trans h2.symm) (by rw [hz _ (gN_mem ha), hz _ (gN_mem hb)])
    have hin := in_row _ 0 hpw (fun n hn => by
      rw [List.length_map, hlen] at hn
      have := hr n hn
      rw [List.any_eq_true] at this
      obtain ⟨x, hx, hxr⟩ := this
      simp only [decide_eq_true_eq] at hxr
      rw [List.mem_map]
      exact ⟨x, (sibs_perm hp _).mem_iff.2 hx, by rw [hxr]; omega⟩)
    have hat := pos_at hi
    have hlt : posN s i < (s.filter fun n => decide (n.par = (gN s i).par)).length := (List.getElem?_eq_some_iff.1 hat).1
    have := hin (posN s i) (by rw [List.length_map]; exact hlt)
    rw [List.getElem?_map, hat] at this
    simp at this
    exact this
theorem label_all (hp : s.Perm (ofT d.notes t)) (hs : Srt s) : (∀ i, i < s.length → firstB s i = true) ↔ ∀ n ∈ ofT d.notes t, ¬ 1 < (sibs d.notes t n.par).length := by
  constructor
  · intro h n hn h1
    rw [← (sibs_perm hp n.par).length_eq] at h1
    obtain ⟨i, hi, _, h2⟩ := pos_from h1
    rw [pos_first hs hi (h i hi)] at h2
    cases h2
  · intro h i hi
    cases hf : firstB s i with
    | true => rfl
    | false =>
      exfalso
      apply h _ (hp.mem_iff.1 (gN_mem hi))
      have e2 := pos_next hi hf
      have hlt := (List.getElem?_eq_some_iff.1 (pos_at hi)).1
      rw [(sibs_perm hp (gN s i).par).length_eq] at hlt
      omega
end
end Go.V.Doc
namespace Go.V.Doc
open Go Go.Proofs
theorem notes_from (d : Dc) : ∀ (m i : Nat), i + m = d.notes.length → notesGo d m i = 0 → ∀ j, i ≤ j → j < d.notes.length → noteIE d j = 0
  | 0, i, h, _, j, h1, h2 => by omega
  | m + 1, i, h, hg, j, h1, h2 => by
    rw [notesGo_IE, if_pos (by omega)] at hg
    by_cases hz : noteIE d i = 0
    · rw [if_pos hz] at hg
      rcases Nat.eq_or_lt_of_le h1 with e | e
      · rw [← e]; exact hz
      · exact notes_from d m (i + 1) (by omega) hg j e h2
    · rw [if_neg hz] at hg; exact absurd hg hz
theorem tiers_from (l : List Tir) : ∀ (m i : Nat), i + m = l.length → tiersGo l m i = 0 → ∀ j, i ≤ j → (h : j < l.length) → oneE (l.take j) l[j] = 0
  | 0, i, h, _, j, h1, h2 => by omega
  | m + 1, i, h, hg, j, h1, h2 => by
    simp only [tiersGo] at hg
    rw [dif_pos (by omega)] at hg
    by_cases hz : oneE (l.take i) (l[i]'(by omega)) = 0
    · rw [if_pos hz] at hg
      rcases Nat.eq_or_lt_of_le h1 with e | e
      · subst e; exact hz
      · exact tiers_from l m (i + 1) (by omega) hg j e h2
    · rw [if_neg hz] at hg; exact absurd hg hz
structure Good (d : Dc) : Prop where
  tiers : ∀ j, (h : j < d.tiers.length) → oneE (d.tiers.take j) d.tiers[j] = 0
  notes : ∀ j, j < d.notes.length → noteIE d j = 0
theorem oneE_parent {l : List Tir} {t : Tir} (h : oneE l t = 0) (hk : t.kind ≠ 0) : 0 ≤ t.par ∧ t.par < l.length ∧ (alK t.kind = true → alK (l[t.par.toNat]?.getD default).kind = true) := by
  unfold oneE at h
  split at h
  · cases h
  · split at h
    · cases h
    · split at h
      · cases h
      · split at h
        · cases h
        · split at h
          · cases h
          · split at h
            · cases h
            · rename_i hp
              split at h
              · cases h
              · rename_i ha
                refine ⟨by omega, by omega, fun e => ?_⟩
                cases hb : alK (l[t.par.toNat]?.getD default).kind with
                | true => rfl
                | false => exact absurd ⟨e, hb⟩ ha
structure NoteOk (d : Dc) (n : Nt) : Prop where
  t0 : 0 ≤ n.tier
  t1 : n.tier < d.tiers.length
  place : placeE d n = 0
theorem note_of {d : Dc} (h : Good d) {n : Nt} (hn : n ∈ d.notes) : NoteOk d n := by
  obtain ⟨i, hi, rfl⟩ := List.mem_iff_getElem.1 hn
  have := h.notes i hi
  simp only [noteIE, List.getElem?_eq_getElem hi, Option.getD_some] at this
  split at this
  · cases this
  · split at this
    · cases this
    · split at this
      · cases this
      · rename_i ht
        rw [noteE_place] at this
        split at this
        · exact ⟨by omega, by omega, this⟩
        · rename_i hx; exact absurd this hx
theorem place_iff {d : Dc} {n : Nt} (h : placeE d n = 0) : ((tirAt d n.tier).kind = 0 → n.par = 0) ∧ ((tirAt d n.tier).kind ≠ 0 → (getN d.notes n.par).2 = true ∧ (getN d.notes n.par).1.tier = (tirAt d n.tier).par) ∧
    withinP d n (getN d.notes n.par).1 = true := by
  unfold placeE at h
  by_cases hk : (tirAt d n.tier).kind = 0
  · rw [if_pos hk] at h
    by_cases hz : n.par = 0
    · rw [if_pos (by simpa using hz)] at h
      by_cases hw : withinP d n (getN d.notes n.par).1 = true
      · exact ⟨fun _ => hz, fun e => absurd hk e, hw⟩
      · rw [if_neg hw] at h; cases h
    · rw [if_neg (by simpa using hz)] at h; cases h
  · rw [if_neg hk] at h
    by_cases h1 : ((getN d.notes n.par).2 && decide ((getN d.notes n.par).1.tier = (tirAt d n.tier).par)) = true
    · rw [if_pos h1] at h
      by_cases hw : withinP d n (getN d.notes n.par).1 = true
      · rw [Bool.and_eq_true, decide_eq_true_eq] at h1
        exact ⟨fun e => absurd e hk, fun _ => h1, hw⟩
      · rw [if_neg hw] at h; cases h
    · rw [if_neg h1] at h; cases h
theorem alT_at {d : Dc} {i : Int} (h0 : 0 ≤ i) (h1 : i < d.tiers.length) : alT d.tiers i = alK (tirAt d i).kind := by
  unfold alT tirAt
  rw [decide_eq_true h0, decide_eq_true h1]; rfl
theorem right_of {d : Dc} {n : Nt} (h : NoteOk d n) (ha : alK (tirAt d n.tier).kind = true) : rightS n.fr n.tO = true := by
  have hw := (place_iff h.place).2.2
  unfold withinP at hw
  rw [if_pos (by rw [alT_at h.t0 h.t1]; exact ha), Bool.and_eq_true] at hw
  exact hw.1
theorem flat_of {d : Dc} {n : Nt} (h : NoteOk d n) (ha : alK (tirAt d n.tier).kind = false) : n.fr = 0 ∧ n.tO = 0 := by
  have hw := (place_iff h.place).2.2
  unfold withinP at hw
  rw [if_neg (by rw [alT_at h.t0 h.t1, ha]; simp), Bool.and_eq_true, decide_eq_true_eq, decide_eq_true_eq] at hw
  exact hw
theorem getN_mem {l : List Nt} {id : Int} (h : (getN l id).2 = true) : (getN l id).1 ∈ l ∧ (getN l id).1.id = id := by
  unfold getN at h ⊢
  cases hf : l.find? fun n => decide (n.id = id) with
  | none => rw [hf] at h; cases h
  | some n =>
    rw [hf] at h
    exact ⟨List.mem_of_find?_eq_some hf, by simpa using List.find?_some hf⟩
theorem wit_of {d : Dc} (hg : Good d) {n : Nt} (h : NoteOk d n) (hk : (tirAt d n.tier).kind ≠ 0) (ha : alK (tirAt d n.tier).kind = true) :
    rightS (getN d.notes n.par).1.fr (getN d.notes n.par).1.tO = true ∧ (getN d.notes n.par).1.fr ≤ n.fr ∧ n.tO ≤ (getN d.notes n.par).1.tO := by
  obtain ⟨_, hp, hw⟩ := place_iff h.place
  obtain ⟨hp1, hp2⟩ := hp hk
  have hm := getN_mem hp1
  have hpo := note_of hg hm.1
  obtain ⟨k, hkk⟩ : ∃ k : Nat, n.tier = k := ⟨n.tier.toNat, by have := h.t0; omega⟩
  have hkl : k < d.tiers.length := by have := h.t1; omega
  have et : tirAt d n.tier = d.tiers[k] := by rw [hkk]; simp [tirAt, List.getElem?_eq_getElem hkl]
  rw [et] at hk ha hp2
  obtain ⟨q1, q2, q3⟩ := oneE_parent (hg.tiers k hkl) hk
  have hlen : (d.tiers.take k).length = k := by rw [List.length_take]; omega
  rw [hlen] at q2
  have q4 := q3 ha
  have e2 : (d.tiers.take k)[(d.tiers[k]).par.toNat]?.getD default = tirAt d (d.tiers[k]).par := by
    unfold tirAt
    rw [List.getElem?_take, if_pos (by omega)]
  rw [e2] at q4
  refine ⟨right_of hpo (by rw [hp2]; exact q4), ?_⟩
  unfold withinP at hw
  rw [if_pos (by rw [alT_at h.t0 h.t1, et]; exact ha), et, if_neg hk, Bool.and_eq_true, Bool.and_eq_true, decide_eq_true_eq, decide_eq_true_eq] at hw
  exact hw.2
theorem any_range {n : Nat} {f : Nat → Bool} : (List.range' 0 n).any f = false ↔ ∀ i, i < n → f i = false := by
  rw [List.any_eq_false]
  constructor
  · intro h i hi
    have := h i (by rw [List.mem_range']; exact ⟨i, hi, by omega⟩)
    simpa using this
  · intro h i hi
    rw [List.mem_range'] at hi
    obtain ⟨j, hj, rfl⟩ := hi
    simpa using h _ (by omega)
theorem any_list {α : Type} {l : List α} {f : α → Bool} : l.any f = false ↔ ∀ x ∈ l, f x = false := by
  rw [List.any_eq_false]
  exact ⟨fun h x hx => by simpa using h x hx, fun h x hx => by simpa using h x hx⟩
theorem bool_iff {a b : Bool} (h : a = false ↔ b = false) : a = b := by
  cases a <;> cases b <;> simp_all
theorem tier_eq (d : Dc) (hg : Good d) (hn : d.notes.length ≤ 300) (t : Nat) (ht : t < d.tiers.length) : tierE d t = terE d t := by
  rw [tierE_ev, terE_ev]
  have hp := sortN_perm (ofT d.notes t)
  have hs := srt_of (ofT d.notes t)
  have hl : (sortN (ofT d.notes t)).length < 2^40 := by
    rw [sortN_length]
    have : (ofT d.notes t).length ≤ d.notes.length := List.length_filter_le _ _
    omega
  have hmem : ∀ n ∈ sortN (ofT d.notes t), NoteOk d n ∧ n.tier = t := by
    intro n hn
    have h1 := hp.mem_iff.1 hn
    unfold ofT at h1
    rw [List.mem_filter] at h1
    exact ⟨note_of hg h1.1, by simpa using h1.2⟩
  generalize sortN (ofT d.notes t) = s at *
  generalize hkd : (tirAt d (t : Int)).kind = kd
  have hov : (List.range' 0 s.length).any (ovB kd s) = (ofT d.notes t).any (ovR d t kd) := by
    apply bool_iff
    rw [any_range, any_list]
    cases ha : alK kd with
    | false => simp [ovB, ovR, ha]
    | true =>
      have hr : ∀ n ∈ s, n.fr < n.tO := by
        intro n hn
        obtain ⟨h1, h2⟩ := hmem n hn
        have := right_of h1 (by rw [h2, hkd]; exact ha)
        simp only [rightS, Bool.and_eq_true, decide_eq_true_eq] at this
        omega
      simp only [ovB, ovR, ha, Bool.true_and]
      rw [← over_all hp hs hr]
      exact ⟨all_of hs, all_adj⟩
  rw [hov]
  cases ho : (ofT d.notes t).any (ovR d t kd) with
  | true => rfl
  | false =>
    have hbad : (List.range' 0 s.length).any (badB d.notes kd s) = (ofT d.notes t).any (badR d t kd) := by
      apply bool_iff
      rw [any_range, any_list]
      by_cases k1 : kd = 1
      · subst k1
        have ha : alK 1 = true := rfl
        have hr : ∀ n ∈ s, rightS n.fr n.tO = true := fun n hn => by
          obtain ⟨h1, h2⟩ := hmem n hn
          exact right_of h1 (by rw [h2, hkd]; exact ha)
        have hr' : ∀ n ∈ s, n.fr < n.tO := fun n hn => by
          have := hr n hn
          simp only [rightS, Bool.and_eq_true, decide_eq_true_eq] at this
          omega
        have hall : AllP s := by
          rw [over_all hp hs hr']
          intro n hn
          have := any_list.1 ho n hn
          simpa [ovR, ha] using this
        have hw : Wit d.notes s := by
          have w := fun n (hn : n ∈ s) => wit_of hg (hmem n hn).1 (by rw [(hmem n hn).2, hkd]; decide) (by rw [(hmem n hn).2, hkd]; exact ha)
          exact ⟨hr, fun n hn => (w n hn).1, fun n hn => (w n hn).2.1, fun n hn => (w n hn).2.2⟩
        have := gap_all hp hs hall hw
        have e1 : ∀ i, badB d.notes 1 s i = gapB d.notes s i := fun i => by simp [badB, gapB]
        have e2 : ∀ n, badR d t 1 n = !coversS (spansOf (sibs d.notes t n.par)) ⟨(getN d.notes n.par).1.fr, (getN d.notes n.par).1.tO⟩ := fun n => by simp [badR]
        simp only [e1, e2, Bool.not_eq_false']
        exact this
      by_cases k3 : kd = 3
      · subst k3
        have ha : alK 3 = false := rfl
        have := rank_all hp hs hl fun n hn => (flat_of (hmem n hn).1 (by rw [(hmem n hn).2, hkd]; exact ha)).1
        have e1 : ∀ i, badB d.notes 3 s i = rkB s i := fun i => by simp [badB, rkB]
        have e2 : ∀ n, badR d t 3 n = !rankP (sibs d.notes t n.par) := fun n => by simp [badR]
        simp only [e1, e2, Bool.not_eq_false']
        exact this
      by_cases k4 : kd = 4
      · subst k4
        have := label_all hp hs
        have e1 : ∀ i, badB d.notes 4 s i = !firstB s i := fun i => by simp [badB]
        have e2 : ∀ n, badR d t 4 n = decide (1 < (sibs d.notes t n.par).length) := fun n => by simp [badR]
        simp only [e1, e2, Bool.not_eq_false', decide_eq_false_iff_not]
        exact this
      simp [badB, badR, k1, k3, k4]
    rw [hbad]
theorem tiers_eq (d : Dc) (hg : Good d) (hn : d.notes.length ≤ 300) : ∀ (m i : Nat), i + m = d.tiers.length → tierGos d m i = terGos d m i
  | 0, i, _ => rfl
  | m + 1, i, h => by
    simp only [tierGos, terGos]
    have hi : i < d.tiers.length := by omega
    rw [if_pos hi, if_pos hi, tier_eq d hg hn i hi, tiers_eq d hg hn m (i + 1) (by omega)]
theorem check_eq (d : Dc) : checkE d = refE d := by
  unfold checkE refE
  split
  · rfl
  · rename_i h1
    split
    · rfl
    · split
      · rfl
      · rename_i h3
        split
        · rfl
        · rename_i h4
          have h1' : tiersE d.tiers = 0 := by simpa using h1
          have h4' : notesGo d d.notes.length 0 = 0 := by simpa using h4
          unfold tiersE at h1'
          split at h1'
          · cases h1'
          · exact tiers_eq d ⟨fun j hj => tiers_from _ _ _ (by omega) h1' j (by omega) hj, fun j hj => notes_from d _ _ (by omega) h4' j (by omega) hj⟩ (by omega) _ _ (by omega)
end Go.V.Doc
