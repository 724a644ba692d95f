/- Contracts and plain laws of this seat: part M6. It needs no conditions. -/
import Derived.Test.YtgglheknmlfghaaGreatX9
import Derived.Test.YtgglheknmlfghaaGreatM1
import Derived.Test.YtgglheknmlfghaaGreatProg
import Derived.KernelRfl
import Derived.Test.YtgglheknmlfghaaGreatM5
set_option linter.unusedVariables false
set_option linter.unusedSimpArgs false
set_option linter.unusedSectionVars false
set_option maxRecDepth 100000
namespace Go.V
open Go Go.Proofs
def scD (P : Program) (f : Nat) : Bool := match P.funcs[f]? with
 | some fn => match fn.resultTypes.toList with
  | [T] => (match TI.of P T with
   | some ⟨.int _, _, _, _, _⟩ => true
   | some ⟨.bool, _, _, _, _⟩ => true
   | some ⟨.str, _, _, _, _⟩ => true
   | _ => false)
  | _ => false
 | none => false
def fnD (P : Program) (f : Nat) : Option (Nat × Code × List ResultVar) := match P.funcs[f]? with
 | some fn => match fn.body with
  | some c => some (fn.ntmps, c, fn.results.toList)
  | none => none
 | none => none
def mkG (P : Program) : XG := ⟨fun t => TI.of P t, fun t => zfit P t, fun t => eqKinds P t, fnD P, scD P, fun _ => none, fun _ => none, fun _ => false⟩
def allCan (P : Program) : Bool := (List.range P.funcs.size).all fun f => match P.funcs[f]? with
 | some fn => fn.name != "runtime.NumGoroutine"
 | none => true
theorem zx9 {P : Program} (h : allCan P = true) : XGood P (mkG P) := by
 refine ⟨fun h => h, fun h => h, fun h => h, ?_, fun h => (by cases h), fun h => (by cases h)⟩
 intro f n c rs hf
 have hf : fnD P f = some (n, c, rs) := hf
 unfold fnD at hf
 split at hf
 ·rename_i fn hfn
  split at hf
  ·rename_i c' hb
   cases hf
   refine ⟨?_, fn, hfn, hb, rfl, rfl⟩
   unfold allCan at h
   have hlt : f < P.funcs.size := by
    obtain ⟨h1, _⟩ := Array.getElem?_eq_some_iff.1 hfn
    exact h1
   have := (List.all_eq_true.1 h) f (List.mem_range.2 hlt)
   rw [hfn] at this
   unfold callable
   rw [hfn]
   simp only at this ⊢
   rw [this, hb]
   rfl
  ·cases hf
 ·cases hf
theorem zz4 : allCan Tryz.prog = true := by kernel_rfl
theorem zz5 : Tryz.prog.follows .mixedOrders = true := by kernel_rfl
def isT (r : Option XR) : Bool := match r with
 | some ⟨.d (.bool true), _, _, _⟩ => true
 | _ => false
theorem zpy {f k : Nat} (h : isT (xcall (mkG Tryz.prog) (xdraw (mkG Tryz.prog)) k f [] [] 0) = true) : PureR Tryz.prog f [] (.bool true) := by
 have hg := zxo zz5 (zx9 zz4) k
 unfold isT at h
 split at h
 ·rename_i nx own mv hr
  have := hg _ _ _ _ _ hr (by simp [Sym.los])
  exact zfj (ds := []) this
 ·cases h
theorem zvc : isT (xcall (mkG Tryz.prog) (xdraw (mkG Tryz.prog)) 50 14 [] [] 0) = true := by kernel_rfl
theorem zg0 : PureR Tryz.prog 14 [] (.bool true) := zpy zvc
end Go.V
namespace Go.V
open Go Go.Proofs
theorem zb7 {α : Type} {M : Nat} {row : α → List D} : ∀ {l : List α}, CapR M (l.map row) → ∀ x ∈ l, Caps M (row x)
 | [], _, x, hx => by cases hx
 | a :: l, h, x, hx => by
  simp only [List.map_cons, CapR] at h
  rcases List.mem_cons.1 hx with e | e
  ·rw [e]; exact h.1
  ·exact zb7 h.2 x e
theorem zau {α : Type} {row : α → List D} {shs : List Sh} {d : D} (h : ∀ r, FitDs r shs → ∃ x, r = row x) (hf : FitD d (.sl shs)) : ∃ xs : List α, d = .sl (xs.map row) := by
 obtain ⟨xs, e, _, _⟩ := FitD.sl_decode (row := row) (good := fun _ => True) (fun r hr => by obtain ⟨x, e⟩ := h r hr; exact ⟨x, e, trivial⟩) hf
 exact ⟨xs, e⟩
theorem zz6 {r : List D} (h : FitDs r [.int .i64]) : ∃ n : Int, r = [int n] := by
 obtain ⟨_, _, rfl, g1, r1⟩ := h.cons_decode
 obtain rfl := r1.nil_decode
 obtain ⟨a, rfl, _⟩ := g1.int_decode
 exact ⟨a, rfl⟩
theorem zcn {d : D} (h : FitD d (.sl [.int .i64])) : ∃ l, d = ints l := zau (row := fun n : Int => [int n]) (fun r hr => zz6 hr) h
theorem zya {r : List D} (h : FitDs r [.str, .int .i64]) : ∃ p : Phon, r = p.row := by
 obtain ⟨_, _, rfl, g1, r1⟩ := h.cons_decode
 obtain ⟨_, _, rfl, g2, r2⟩ := r1.cons_decode
 obtain rfl := r2.nil_decode
 obtain ⟨a, rfl, _⟩ := g1.str_decode
 obtain ⟨b, rfl, _⟩ := g2.int_decode
 exact ⟨⟨a, b⟩, rfl⟩
theorem zyb {r : List D} (h : FitDs r [.str, .sl [.int .i64]]) : ∃ p : Grap, r = p.row := by
 obtain ⟨_, _, rfl, g1, r1⟩ := h.cons_decode
 obtain ⟨_, _, rfl, g2, r2⟩ := r1.cons_decode
 obtain rfl := r2.nil_decode
 obtain ⟨a, rfl, _⟩ := g1.str_decode
 obtain ⟨b, rfl⟩ := zcn g2
 exact ⟨⟨a, b⟩, rfl⟩
theorem zvd {r : List D} (h : FitDs r [.str]) : ∃ s : ByteArray, r = [.str s] := by
 obtain ⟨_, _, rfl, g1, r1⟩ := h.cons_decode
 obtain rfl := r1.nil_decode
 obtain ⟨a, rfl, _⟩ := g1.str_decode
 exact ⟨a, rfl⟩
theorem zyc {r : List D} (h : FitDs r [.sl [.str]]) : ∃ l : List ByteArray, r = [.sl (l.map fun s => [.str s])] := by
 obtain ⟨_, _, rfl, g1, r1⟩ := h.cons_decode
 obtain rfl := r1.nil_decode
 obtain ⟨l, rfl⟩ := zau (row := fun s : ByteArray => [D.str s]) (fun r hr => zvd hr) g1
 exact ⟨l, rfl⟩
theorem zij {r : List D} (h : FitDs r [.int .i64, .int .i64]) : ∃ a b : Int, r = [int a, int b] := by
 obtain ⟨_, _, rfl, g1, r1⟩ := h.cons_decode
 obtain ⟨_, _, rfl, g2, r2⟩ := r1.cons_decode
 obtain rfl := r2.nil_decode
 obtain ⟨a, rfl, _⟩ := g1.int_decode
 obtain ⟨b, rfl, _⟩ := g2.int_decode
 exact ⟨a, b, rfl⟩
theorem zve {d : D} (h : FitD d (.sl [.int .i64, .int .i64])) : ∃ l, d = clsD l := zau (row := Cls.row) (fun r hr => by obtain ⟨a, b, rfl⟩ := zij hr; exact ⟨⟨a, b⟩, rfl⟩) h
theorem zyd {r : List D} (h : FitDs r [.sl [.int .i64], .sl [.int .i64], .sl [.int .i64, .int .i64], .sl [.int .i64, .int .i64], .bool, .bool]) : ∃ x : Rule, r = x.row := by
 obtain ⟨_, _, rfl, g1, r1⟩ := h.cons_decode
 obtain ⟨_, _, rfl, g2, r2⟩ := r1.cons_decode
 obtain ⟨_, _, rfl, g3, r3⟩ := r2.cons_decode
 obtain ⟨_, _, rfl, g4, r4⟩ := r3.cons_decode
 obtain ⟨_, _, rfl, g5, r5⟩ := r4.cons_decode
 obtain ⟨_, _, rfl, g6, r6⟩ := r5.cons_decode
 obtain rfl := r6.nil_decode
 obtain ⟨a, rfl⟩ := zcn g1
 obtain ⟨b, rfl⟩ := zcn g2
 obtain ⟨c, rfl⟩ := zve g3
 obtain ⟨d, rfl⟩ := zve g4
 obtain ⟨e, rfl⟩ := g5.bool_decode
 obtain ⟨f, rfl⟩ := g6.bool_decode
 exact ⟨⟨a, b, c, d, e, f⟩, rfl⟩
theorem zz7 {r : List D} (h : FitDs r [.int .i64, .int .i64, .int .i64]) : ∃ x : Stp, r = x.row := by
 obtain ⟨_, _, rfl, g1, r1⟩ := h.cons_decode
 obtain ⟨a, b, rfl⟩ := zij r1
 obtain ⟨c, rfl, _⟩ := g1.int_decode
 exact ⟨⟨c, a, b⟩, rfl⟩
theorem zye {r : List D} (h : FitDs r [.str, .str]) : ∃ x : Sens, r = x.row := by
 obtain ⟨_, _, rfl, g1, r1⟩ := h.cons_decode
 obtain ⟨b, rfl⟩ := zvd r1
 obtain ⟨a, rfl, _⟩ := g1.str_decode
 exact ⟨⟨a, b⟩, rfl⟩
theorem zvf {d : D} (h : FitD d (.sl [.sl [.int .i64]])) : ∃ l, d = listsD l := zau (row := fun a : List Int => [ints a]) (fun r hr => by
 obtain ⟨_, _, rfl, g1, r1⟩ := hr.cons_decode
 obtain rfl := r1.nil_decode
 obtain ⟨a, rfl⟩ := zcn g1
 exact ⟨a, rfl⟩) h
abbrev entSh : List Sh := [.int .i64, .sl [.int .i64], .int .i64, .sl [.sl [.int .i64]], .int .i64, .sl [.str, .str], .sl [.int .i64, .int .i64], .sl [.int .i64, .int .i64]]
theorem zz8 {r : List D} (h : FitDs r entSh) : ∃ x : Ent, r = x.row := by
 obtain ⟨_, _, rfl, g1, r1⟩ := h.cons_decode
 obtain ⟨_, _, rfl, g2, r2⟩ := r1.cons_decode
 obtain ⟨_, _, rfl, g3, r3⟩ := r2.cons_decode
 obtain ⟨_, _, rfl, g4, r4⟩ := r3.cons_decode
 obtain ⟨_, _, rfl, g5, r5⟩ := r4.cons_decode
 obtain ⟨_, _, rfl, g6, r6⟩ := r5.cons_decode
 obtain ⟨_, _, rfl, g7, r7⟩ := r6.cons_decode
 obtain ⟨_, _, rfl, g8, r8⟩ := r7.cons_decode
 obtain rfl := r8.nil_decode
 obtain ⟨a, rfl, _⟩ := g1.int_decode
 obtain ⟨b, rfl⟩ := zcn g2
 obtain ⟨c, rfl, _⟩ := g3.int_decode
 obtain ⟨d, rfl⟩ := zvf g4
 obtain ⟨e, rfl, _⟩ := g5.int_decode
 obtain ⟨f, rfl⟩ := zau (row := Sens.row) (fun r hr => zye hr) g6
 obtain ⟨k, rfl⟩ := zau (row := Lnk.row) (fun r hr => by obtain ⟨a, b, rfl⟩ := zij hr; exact ⟨⟨a, b⟩, rfl⟩) g7
 obtain ⟨m, rfl⟩ := zau (row := Rf.row) (fun r hr => by obtain ⟨a, b, rfl⟩ := zij hr; exact ⟨⟨a, b⟩, rfl⟩) g8
 exact ⟨⟨a, b, c, d, e, f, k, m⟩, rfl⟩
abbrev langSh : List Sh := [.sl [.str, .int .i64], .str, .sl [.str, .sl [.int .i64]], .sl [.sl [.str]], .sl [.sl [.int .i64], .sl [.int .i64], .sl [.int .i64, .int .i64], .sl [.int .i64, .int .i64], .bool, .bool], .int .i64, .sl [.int .i64, .int .i64, .int .i64], .sl [.int .i64], .sl entSh]
theorem ziy {l : List D} (h : FitDs l langSh) : ∃ g : Lang, D.agg l = g.d := by
 obtain ⟨_, _, rfl, g1, r1⟩ := h.cons_decode
 obtain ⟨_, _, rfl, g2, r2⟩ := r1.cons_decode
 obtain ⟨_, _, rfl, g3, r3⟩ := r2.cons_decode
 obtain ⟨_, _, rfl, g4, r4⟩ := r3.cons_decode
 obtain ⟨_, _, rfl, g5, r5⟩ := r4.cons_decode
 obtain ⟨_, _, rfl, g6, r6⟩ := r5.cons_decode
 obtain ⟨_, _, rfl, g7, r7⟩ := r6.cons_decode
 obtain ⟨_, _, rfl, g8, r8⟩ := r7.cons_decode
 obtain ⟨_, _, rfl, g9, r9⟩ := r8.cons_decode
 obtain rfl := r9.nil_decode
 obtain ⟨a, rfl⟩ := zau (row := Phon.row) (fun r hr => zya hr) g1
 obtain ⟨b, rfl, _⟩ := g2.str_decode
 obtain ⟨c, rfl⟩ := zau (row := Grap.row) (fun r hr => zyb hr) g3
 obtain ⟨d, rfl⟩ := zau (row := fun r : List ByteArray => [D.sl (r.map fun s => [.str s])]) (fun r hr => zyc hr) g4
 obtain ⟨e, rfl⟩ := zau (row := Rule.row) (fun r hr => zyd hr) g5
 obtain ⟨f, rfl, _⟩ := g6.int_decode
 obtain ⟨k, rfl⟩ := zau (row := Stp.row) (fun r hr => zz7 hr) g7
 obtain ⟨m, rfl⟩ := zcn g8
 obtain ⟨n, rfl⟩ := zau (row := Ent.row) (fun r hr => zz8 hr) g9
 exact ⟨⟨a, ⟨b, c, d⟩, e, ⟨f, k, m⟩, n⟩, rfl⟩
theorem znq {g : Lang} (h : CapT 1048576 g.d) : LangC g := by
 simp only [Lang.d, CapT, Caps, Cap, invD, unitsD, lettersD, rulesD, stepsD, ints, lexD, int, List.length_map, and_true] at h
 obtain ⟨⟨a1, a2⟩, b1, ⟨c1, c2⟩, ⟨d1, d2⟩, ⟨e1, e2⟩, _, ⟨k1, _⟩, ⟨m1, _⟩, n1, n2⟩ := h
 refine { inv := ⟨a1, fun p hp => ?_⟩, orth := ⟨b1, fun u hu => ?_, fun L hL => ?_, c1, d1⟩, rules := ⟨e1, fun r hr => ?_⟩, steps := k1, final := m1, lex := ⟨n1, fun e he => ?_⟩ }
 ·have := zb7 a2 p hp
  simp only [Phon.row, Caps, Cap, int] at this
  exact this.1
 ·have := zb7 c2 u hu
  simp only [Grap.row, Caps, Cap, int, ints, List.length_map] at this
  exact ⟨this.1, this.2.1.1⟩
 ·have := zb7 d2 L hL
  simp only [Caps, Cap, List.length_map] at this
  refine ⟨this.1.1, fun s hs => ?_⟩
  have := zb7 this.1.2 s hs
  simp only [Caps, Cap] at this
  exact this.1
 ·have := zb7 e2 r hr
  simp only [Rule.row, Caps, Cap, int, ints, List.length_map] at this
  exact ⟨this.1.1, this.2.1.1⟩
 ·have := zb7 n2 e he
  simp only [Ent.row, Caps, Cap, int, ints, listsD, sensD, lnkD, rfD, List.length_map] at this
  obtain ⟨_, ⟨f1, _⟩, _, ⟨g1, g2⟩, _, ⟨s1, s2⟩, ⟨l1, _⟩, ⟨r1, _⟩, _⟩ := this
  refine ⟨f1, ⟨g1, fun w hw => ?_⟩, ⟨s1, fun s hs => ?_⟩, l1, r1⟩
  ·have := zb7 g2 w hw
   simp only [Caps, Cap, List.length_map] at this
   exact this.1.1
  ·have := zb7 s2 s hs
   simp only [Sens.row, Caps, Cap] at this
   exact ⟨this.1, this.2.1⟩
theorem zrk {l : List Int} (h : CapT 1048576 (ints l)) : l.length ≤ 1048576 := by
 simp only [CapT, ints, Cap, List.length_map] at h; exact h.1
theorem zz9 {d : D} (h : FitD d (.int .i64)) : ∃ n, d = int n := by obtain ⟨n, e, _⟩ := h.int_decode; exact ⟨n, e⟩
end Go.V
namespace Go.V
open Go Go.Proofs
end Go.V
