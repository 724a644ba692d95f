/- Contracts and plain laws of this seat: part M1. It needs no conditions. -/
import Derived.Test.YtknekjalbninmaaGreatTab
import GoSem.Core.Value
import Derived.Test.YtknekjalbninmaaGreatS1
import Derived.Test.YtknekjalbninmaaGreatSh
import Derived.Test.YtknekjalbninmaaGreatX9
import Derived.Test.YtknekjalbninmaaGreatProg
import Derived.KernelRfl
set_option linter.unusedVariables false
set_option linter.unusedSimpArgs false
set_option linter.unusedSectionVars false
set_option maxRecDepth 100000
namespace Go.V
open Go Go.Proofs
instance : Dr := ⟨false⟩
instance : Ov := ⟨false⟩
@[simp] theorem arith_i64 (n : Int) (k : Sym → Prop) : arith .i64 n k = (I64 n ∧ k (.d (.int .i64 n))) := rfl
@[simp] theorem arith_i32 (n : Int) (k : Sym → Prop) : arith .i32 n k = k (.d (.int .i32 (IntKind.i32.wrap n))) := rfl
@[simp] theorem arith_u8 (n : Int) (k : Sym → Prop) : arith .u8 n k = k (.d (.int .u8 (IntKind.u8.wrap n))) := rfl
@[simp] theorem arith_u32 (n : Int) (k : Sym → Prop) : arith .u32 n k = k (.d (.int .u32 (IntKind.u32.wrap n))) := rfl
@[simp] theorem arith_u64 (n : Int) (k : Sym → Prop) : arith .u64 n k = k (.d (.int .u64 (IntKind.u64.wrap n))) := rfl
def int (n : Int) : D := .int .i64 n
def ints (l : List Int) : D := .sl (l.map fun n => [.int .i64 n])
structure Phon where
  name : ByteArray
  feat : Int
  deriving DecidableEq
structure Grap where
  graph : ByteArray
  segs : List Int
  deriving DecidableEq
structure Orth where
  name : ByteArray
  units : List Grap
  letters : List (List ByteArray)
  deriving DecidableEq
structure Cls where
  mask : Int
  value : Int
  deriving DecidableEq
structure Rule where
  src : List Int
  dst : List Int
  left : List Cls
  right : List Cls
  beg : Bool
  fin : Bool
  deriving DecidableEq
structure Stp where
  src : Int
  cls : Int
  dst : Int
  deriving DecidableEq
structure Nett where
  states : Int
  steps : List Stp
  final : List Int
  deriving DecidableEq
structure Sens where
  gloss : ByteArray
  defn : ByteArray
  deriving DecidableEq
structure Lnk where
  kind : Int
  dst : Int
  deriving DecidableEq
structure Rf where
  rcd : Int
  note : Int
  deriving DecidableEq
structure Ent where
  id : Int
  form : List Int
  cls : Int
  alts : List (List Int)
  main : Int
  senses : List Sens
  links : List Lnk
  refs : List Rf
  deriving DecidableEq
structure Lang where
  inv : List Phon
  orth : Orth
  rules : List Rule
  net : Nett
  lex : List Ent
  deriving DecidableEq
structure Prt where
  entry : Int
  alt : Int
  sense : Int
  deriving DecidableEq
def Phon.row (p : Phon) : List D := [.str p.name, int p.feat]
def invD (l : List Phon) : D := .sl (l.map Phon.row)
def Grap.row (u : Grap) : List D := [.str u.graph, ints u.segs]
def unitsD (l : List Grap) : D := .sl (l.map Grap.row)
def lettersD (l : List (List ByteArray)) : D := .sl (l.map fun r => [.sl (r.map fun s => [.str s])])
def Orth.cells (o : Orth) : List D := [.str o.name, unitsD o.units, lettersD o.letters]
def Cls.row (c : Cls) : List D := [int c.mask, int c.value]
def clsD (l : List Cls) : D := .sl (l.map Cls.row)
def Rule.row (r : Rule) : List D := [ints r.src, ints r.dst, clsD r.left, clsD r.right, .bool r.beg, .bool r.fin]
def rulesD (l : List Rule) : D := .sl (l.map Rule.row)
def Stp.row (s : Stp) : List D := [int s.src, int s.cls, int s.dst]
def stepsD (l : List Stp) : D := .sl (l.map Stp.row)
def Nett.cells (n : Nett) : List D := [int n.states, stepsD n.steps, ints n.final]
def Sens.row (s : Sens) : List D := [.str s.gloss, .str s.defn]
def sensD (l : List Sens) : D := .sl (l.map Sens.row)
def Lnk.row (s : Lnk) : List D := [int s.kind, int s.dst]
def lnkD (l : List Lnk) : D := .sl (l.map Lnk.row)
def Rf.row (s : Rf) : List D := [int s.rcd, int s.note]
def rfD (l : List Rf) : D := .sl (l.map Rf.row)
def listsD (l : List (List Int)) : D := .sl (l.map fun a => [ints a])
def Ent.row (e : Ent) : List D := [int e.id, ints e.form, int e.cls, listsD e.alts, int e.main, sensD e.senses, lnkD e.links, rfD e.refs]
def lexD (l : List Ent) : D := .sl (l.map Ent.row)
def Lang.d (g : Lang) : D := .agg [invD g.inv, .str g.orth.name, unitsD g.orth.units, lettersD g.orth.letters, rulesD g.rules, int g.net.states, stepsD g.net.steps, ints g.net.final, lexD g.lex]
def Prt.row (p : Prt) : List D := [int p.entry, int p.alt, int p.sense]
@[simp ↓] theorem imp_tf (p : Prop) : (true = !true → p) = True := by simp
@[simp ↓] theorem imp_ff (p : Prop) : (false = !false → p) = True := by simp
@[simp ↓] theorem imp_tt (p : Prop) : (true = !false → p) = p := by simp
@[simp ↓] theorem imp_ft (p : Prop) : (false = !true → p) = p := by simp
@[simp ↓] theorem imp_1 (p : Prop) : (true = false → p) = True := by simp
@[simp ↓] theorem imp_2 (p : Prop) : (false = true → p) = True := by simp
@[simp ↓] theorem imp_3 (p : Prop) : (true = true → p) = p := by simp
@[simp ↓] theorem imp_4 (p : Prop) : (false = false → p) = p := by simp
end Go.V
namespace Go.V.Doc
open Go
structure Nt where
  id : Int
  tier : Int
  par : Int
  fr : Int
  tO : Int
  rank : Int
  text : ByteArray
  deriving Inhabited, DecidableEq
def Nt.enc (n : Nt) : List Value := [.int .i64 n.id, .int .i64 n.tier, .int .i64 n.par, .int .i64 n.fr, .int .i64 n.tO, .int .i64 n.rank, .string n.text]
def cmpI (a b : Int) : Int := if a < b then -1 else if b < a then 1 else 0
def orI : List Int → Int
  | [] => 0
  | x :: l => if x = 0 then orI l else x
theorem orI_drop {l : List Int} {k : Nat} (h : k < l.length) : orI (l.drop k) = if l[k] = 0 then orI (l.drop (k + 1)) else l[k] := by
  rw [List.drop_eq_getElem_cons h]; rfl
def cmpN (a b : Nt) : Int := orI [cmpI a.par b.par, cmpI a.fr b.fr, cmpI a.rank b.rank]
end Go.V.Doc
namespace Go.V.Doc
open Go Go.Proofs
variable [Dr]
def Nt.row (n : Nt) : List D := [int n.id, int n.tier, int n.par, int n.fr, int n.tO, int n.rank, .str n.text]
def notesD (l : List Nt) : D := .sl (l.map Nt.row)
theorem nt_enc : RowEnc Nt.enc Nt.row 7 where
  pos := by decide
  len := fun _ => rfl
  one := by intro x v hv; simp [Nt.enc] at hv; rcases hv with rfl | rfl | rfl | rfl | rfl | rfl | rfl <;> rfl
  rlen := fun _ => rfl
  read := by
    intro w E x
    simp only [Nt.row, Nt.enc, Rcells, R, int]
    exact ⟨_, _, rfl, rfl, rfl, _, _, rfl, rfl, rfl, _, _, rfl, rfl, rfl, _, _, rfl, rfl, rfl, _, _, rfl, rfl, rfl, _, _, rfl, rfl, rfl, _, _, rfl, rfl, rfl, rfl⟩
  uniq := by
    intro w E x vs h
    simp only [Nt.row, Rcells, R, int] at h
    obtain ⟨_, _, rfl, _, rfl, _, _, rfl, _, rfl, _, _, rfl, _, rfl, _, _, rfl, _, rfl, _, _, rfl, _, rfl, _, _, rfl, _, rfl, _, _, rfl, _, rfl, rfl⟩ := h
    rfl
theorem isNaN_ok (n : Int) : PureR Tryz.prog 123 [int n] (.bool false) := by
  refine pure_of_body mixed Tryz.func123 rfl call_123 ?_
  simp [Tryz.f123, int]
theorem compare_ok (a b : Int) : PureR Tryz.prog 67 [int a, int b] (int (cmpI a b)) := by
  refine pure_of_body mixed Tryz.func67 rfl call_67 ?_
  simp [Tryz.f67, int]
  refine ECall.pure (by rfl) (isNaN_ok a) (by simp) ?_
  simp
  refine ECall.pure (by rfl) (isNaN_ok b) (by simp) ?_
  simp [cmpI]
  refine ⟨fun h h' => by omega, fun h => by omega⟩
theorem or_ok (l : List Int) (hl : l.length < 2^62) : PureR Tryz.prog 166 [ints l] (int (orI l)) := by
  refine pure_of_body mixed Tryz.func166 rfl call_166 ?_
  simp [Tryz.f166, ints]
  refine loop_rule mixed (fun k : Nat => { n := 18, next := 0, slots := [(0, .d (ints l)), (3, .d (int 0)), (6, .d (ints l)), (7, .d (.int .i64 l.length)), (8, .d (.int .i64 k))], own := [] })
    (fun k => k ≤ l.length ∧ orI l = orI (l.drop k)) (fun k => l.length - k) 0 (by simp) (by simp [ints, int]) ?_
  intro k ⟨hk, hp⟩
  by_cases hlt : k < l.length
  · have e1 : l[k]? = some l[k] := List.getElem?_eq_getElem hlt
    rw [orI_drop hlt] at hp
    simp (decide := true) [ints, int, e1, hlt, I64]
    refine ⟨fun h => ?_, fun h => ⟨by omega, k + 1, ⟨hlt, ?_⟩, by omega, by omega⟩⟩
    · rw [hp, if_neg h]
    · rw [hp, if_pos h]
  · have : k = l.length := by omega
    subst this
    simp (decide := true) [ints, int, hp, orI]
theorem order_ok (a b : Nt) : PureR Tryz.prog 113 [.agg a.row, .agg b.row] (int (cmpN a b)) := by
  refine pure_of_body mixed Tryz.func113 rfl call_113 ?_
  simp (decide := true) [Tryz.f113, Nt.row, int]
  refine scall_pure (by rfl) (by rfl) (compare_ok a.par b.par) (by simp) ?_
  simp (decide := true) [int]
  refine scall_pure (by rfl) (by rfl) (compare_ok a.fr b.fr) (by simp) ?_
  simp (decide := true) [int]
  refine scall_pure (by rfl) (by rfl) (compare_ok a.rank b.rank) (by simp) ?_
  simp (decide := true) [int, inOrder, rowsOf, rowOf, symCells]
  refine scall_pure (by rfl) (by rfl) (or_ok [cmpI a.par b.par, cmpI a.fr b.fr, cmpI a.rank b.rank] (by simp)) (by simp) ?_
  simp (decide := true) [cmpN, int]
theorem order_lays {blk off size : Nat} {w : World} {E : Nat → Prop} (h1 : Seen w E) (hb : E blk) : Go.Proofs.CmpLays Tryz.prog 113 #[] Nt.enc 7 cmpN blk off size w := by
  let d : Dr := ⟨true⟩
  exact @cmpLays_of d _ _ _ _ _ _ _ rfl _ _ nt_enc (fun x y => @order_ok d x y) _ _ _ _ _ h1 hb
end Go.V.Doc
namespace Go.V.Doc
open Go Go.Proofs Go.Sort Go.RowKit
def ltN : Nt → Nt → Bool := ltOf cmpN
theorem enters_order : ∀ args w, (callFunc 113 args).run Tryz.prog w = .ok (.enter 113 args) w := enters_of Tryz.func113 (by kernel_rfl) rfl
theorem isAggN : ∀ w, (isAgg 72).run Tryz.prog w = .ok true w := fun w => by kernel_rfl
theorem sizeOfN : ∀ w, (Go.sizeOf 72).run Tryz.prog w = .ok 7 w := fun w => by kernel_rfl
def insLoop : Nat → Nat → Array Nt → Array Nt
  | 0, _, d => d
  | k + 1, i, d => insLoop k (i + 1) (insInner ltN 0 i d)
theorem insOuter_loop (b : Nat) : ∀ (k i : Nat) (d : Array Nt), k = b - i → insOuter ltN 0 b i d = insLoop k i d
  | 0, i, d, h => by unfold insOuter; rw [if_neg (by omega)]; rfl
  | k + 1, i, d, h => by unfold insOuter; rw [if_pos (by omega), insOuter_loop b k (i + 1) _ (by omega)]; rfl
def isort (l : List Nt) : List Nt := (insLoop (l.length - 1) 1 l.toArray).toList
theorem isort_eq (l : List Nt) : (Sort.insertionSort ltN l.toArray 0 l.length) = (isort l).toArray := by
  unfold Sort.insertionSort isort
  rw [insOuter_loop l.length (l.length - 1) (0 + 1) _ (by omega)]
theorem ins_ok (T : Nat) (l : List Nt) (hne : l ≠ []) (hl : l.length < 4611686018427387904) (hs : (isort l).length = l.length) :
    CallC Tryz.prog 172 [.ar 0, .d (int 0), .d (int l.length), .fn 113 []] [(0, .arr T 7 (l.map Nt.row))] 1 (.d (.tup [])) 1 [(0, .arr T 7 ((isort l).map Nt.row))] [] := by
  refine sort_bridge nt_enc call_172 hne hs ?_
  intro w E β vs hvs hseen g cap hg hE hH
  simp only [Sms, Sm, R, int] at hvs
  obtain ⟨_, _, rfl, rfl, _, _, rfl, rfl, _, _, rfl, ⟨_, rfl, rfl⟩, rfl⟩ := hvs
  have := AnyQ.insertionSortCmpFunc Tryz.insNote 7 isAggN sizeOfN Nt.enc nt_enc.len nt_enc.one cmpN 113 #[] g 0 cap 0 l.length l.toArray w enters_order
    (order_lays hseen hE) hH hg (Nat.zero_le _) (by simp) (by simpa using hl)
  change Calls Tryz.prog 172 _ _ _ at this
  rw [show ltOf cmpN = ltN from rfl, isort_eq] at this
  simpa using this
theorem ins_nil : CallC Tryz.prog 172 [.d (.sl []), .d (int 0), .d (int 0), .fn 113 []] [] 0 (.tup []) 0 [] [] := by
  refine callC_of_body mixed Tryz.func172 rfl call_172 (by simp [Sym.los, Sym.lo]) ?_
  simp (decide := true) [Tryz.f172, int]
  refine ⟨by unfold I64; omega, loop_rule mixed (fun _ : Unit => { n := 53, next := 0, slots := [(2, .d (int 0)), (8, .d (int 1))], own := [] })
    (fun _ => True) (fun _ => 0) () trivial (by simp (decide := true) [int]) ?_⟩
  intro _ _
  simp (decide := true) [int]
end Go.V.Doc
namespace Go.V.Doc
open Go Go.Proofs Go.Sort Go.RowKit
section
variable [Dr]
def cmpId (a b : Nt) : Int := cmpI a.id b.id
theorem fill1_ok (a b : Nt) : PureR Tryz.prog 66 [.agg a.row, .agg b.row] (int (cmpId a b)) := by
  refine pure_of_body mixed Tryz.func66 rfl call_66 ?_
  simp (decide := true) [Tryz.f66, Nt.row, int]
  refine ECall.pure (by rfl) (compare_ok a.id b.id) (by simp) ?_
  simp (decide := true) [cmpId, int]
theorem id_lays {blk off size : Nat} {w : World} {E : Nat → Prop} (h1 : Seen w E) (hb : E blk) : Go.Proofs.CmpLays Tryz.prog 66 #[] Nt.enc 7 cmpId blk off size w := by
  let d : Dr := ⟨true⟩
  exact @cmpLays_of d _ _ _ _ _ _ _ rfl _ _ nt_enc (fun x y => @fill1_ok d x y) _ _ _ _ _ h1 hb
end
def ltId : Nt → Nt → Bool := ltOf cmpId
theorem enters_id : ∀ args w, (callFunc 66 args).run Tryz.prog w = .ok (.enter 66 args) w := enters_of Tryz.func66 (by kernel_rfl) rfl
def insLoopI : Nat → Nat → Array Nt → Array Nt
  | 0, _, d => d
  | k + 1, i, d => insLoopI k (i + 1) (insInner ltId 0 i d)
theorem insOuter_loopI (b : Nat) : ∀ (k i : Nat) (d : Array Nt), k = b - i → insOuter ltId 0 b i d = insLoopI k i d
  | 0, i, d, h => by unfold insOuter; rw [if_neg (by omega)]; rfl
  | k + 1, i, d, h => by unfold insOuter; rw [if_pos (by omega), insOuter_loopI b k (i + 1) _ (by omega)]; rfl
def isortI (l : List Nt) : List Nt := (insLoopI (l.length - 1) 1 l.toArray).toList
theorem isortI_eq (l : List Nt) : (Sort.insertionSort ltId l.toArray 0 l.length) = (isortI l).toArray := by
  unfold Sort.insertionSort isortI
  rw [insOuter_loopI l.length (l.length - 1) (0 + 1) _ (by omega)]
theorem insI_ok (T : Nat) (l : List Nt) (hne : l ≠ []) (hl : l.length < 4611686018427387904) (hs : (isortI l).length = l.length) :
    CallC Tryz.prog 172 [.ar 0, .d (int 0), .d (int l.length), .fn 66 []] [(0, .arr T 7 (l.map Nt.row))] 1 (.d (.tup [])) 1 [(0, .arr T 7 ((isortI l).map Nt.row))] [] := by
  refine sort_bridge nt_enc call_172 hne hs ?_
  intro w E β vs hvs hseen g cap hg hE hH
  simp only [Sms, Sm, R, int] at hvs
  obtain ⟨_, _, rfl, rfl, _, _, rfl, rfl, _, _, rfl, ⟨_, rfl, rfl⟩, rfl⟩ := hvs
  have := AnyQ.insertionSortCmpFunc Tryz.insNote 7 isAggN sizeOfN Nt.enc nt_enc.len nt_enc.one cmpId 66 #[] g 0 cap 0 l.length l.toArray w enters_id
    (id_lays hseen hE) hH hg (Nat.zero_le _) (by simp) (by simpa using hl)
  change Calls Tryz.prog 172 _ _ _ at this
  rw [show ltOf cmpId = ltId from rfl, isortI_eq] at this
  simpa using this
end Go.V.Doc
namespace Go.V
open Go Go.Proofs
def scD (P : Program) (f : Nat) : Bool := match P.funcs[f]? with
  | some fn => match fn.resultTypes.toList with
    | [T] => (match TI.of P T with
      | some ⟨.int _, _, _, _, _⟩ => true
      | some ⟨.bool, _, _, _, _⟩ => true
      | some ⟨.str, _, _, _, _⟩ => true
      | _ => false)
    | _ => false
  | none => false
def fnD (P : Program) (f : Nat) : Option (Nat × Code × List ResultVar) := match P.funcs[f]? with
  | some fn => match fn.body with
    | some c => some (fn.ntmps, c, fn.results.toList)
    | none => none
  | none => none
def mkG (P : Program) : XG := ⟨fun t => TI.of P t, fun t => zfit P t, fun t => eqKinds P t, fnD P, scD P, fun _ => none, fun _ => none, fun _ => false⟩
def allCan (P : Program) : Bool := (List.range P.funcs.size).all fun f => match P.funcs[f]? with
  | some fn => fn.name != "runtime.NumGoroutine"
  | none => true
theorem mkG_good {P : Program} (h : allCan P = true) : XGood P (mkG P) := by
  refine ⟨fun h => h, fun h => h, fun h => h, ?_, fun h => (by cases h), fun h => (by cases h)⟩
  intro f n c rs hf
  have hf : fnD P f = some (n, c, rs) := hf
  unfold fnD at hf
  split at hf
  · rename_i fn hfn
    split at hf
    · rename_i c' hb
      cases hf
      refine ⟨?_, fn, hfn, hb, rfl, rfl⟩
      unfold allCan at h
      have hlt : f < P.funcs.size := by
        obtain ⟨h1, _⟩ := Array.getElem?_eq_some_iff.1 hfn
        exact h1
      have := (List.all_eq_true.1 h) f (List.mem_range.2 hlt)
      rw [hfn] at this
      unfold callable
      rw [hfn]
      simp only at this ⊢
      rw [this, hb]
      rfl
    · cases hf
  · cases hf
theorem can_all : allCan Tryz.prog = true := by kernel_rfl
theorem mixed_X : Tryz.prog.follows .mixedOrders = true := by kernel_rfl
def isT (r : Option XR) : Bool := match r with
  | some ⟨.d (.bool true), _, _, _⟩ => true
  | _ => false
end Go.V
