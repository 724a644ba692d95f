/- Contracts and plain laws of this seat: part M6. It needs no conditions. -/
import Derived.Test.YtgglheknmlfghaaGreatX9
import Derived.Test.YtgglheknmlfghaaGreatM1
import Derived.Test.YtgglheknmlfghaaGreatProg
import Derived.KernelRfl
import Derived.Test.YtgglheknmlfghaaGreatM5
set_option linter.unusedVariables false
set_option linter.unusedSimpArgs false
set_option linter.unusedSectionVars false
set_option maxRecDepth 100000
namespace Go.V
open Go Go.Proofs
def scD (P : Program) (f : Nat) : Bool := match P.funcs[f]? with
 | some fn => match fn.resultTypes.toList with
  | [T] => (match TI.of P T with
   | some ⟨.int _, _, _, _, _⟩ => true
   | some ⟨.bool, _, _, _, _⟩ => true
   | some ⟨.str, _, _, _, _⟩ => true
   | _ => false)
  | _ => false
 | none => false
def fnD (P : Program) (f : Nat) : Option (Nat × Code × List ResultVar) := match P.funcs[f]? with
 | some fn => match fn.body with
  | some c => some (fn.ntmps, c, fn.results.toList)
  | none => none
 | none => none
def mkG (P : Program) : XG := ⟨fun t => TI.of P t, fun t => zfit P t, fun t => eqKinds P t, fnD P, scD P, fun _ => none, fun _ => none, fun _ => false⟩
def allCan (P : Program) : Bool := (List.range P.funcs.size).all fun f => match P.funcs[f]? with
 | some fn => fn.name != "runtime.NumGoroutine"
 | none => true
theorem z0x {P : Program} (h : allCan P = true) : XGood P (mkG P) := by
 refine ⟨fun h => h, fun h => h, fun h => h, ?_, fun h => (by cases h), fun h => (by cases h)⟩
 intro f n c rs hf
 have hf : fnD P f = some (n, c, rs) := hf
 unfold fnD at hf
 split at hf
 ·rename_i fn hfn
  split at hf
  ·rename_i c' hb
   cases hf
   refine ⟨?_, fn, hfn, hb, rfl, rfl⟩
   unfold allCan at h
   have hlt : f < P.funcs.size := by
    obtain ⟨h1, _⟩ := Array.getElem?_eq_some_iff.1 hfn
    exact h1
   have := (List.all_eq_true.1 h) f (List.mem_range.2 hlt)
   rw [hfn] at this
   unfold callable
   rw [hfn]
   simp only at this ⊢
   rw [this, hb]
   rfl
  ·cases hf
 ·cases hf
theorem z3n : allCan Tryz.prog = true := by kernel_rfl
theorem z3o : Tryz.prog.follows .mixedOrders = true := by kernel_rfl
def isT (r : Option XR) : Bool := match r with
 | some ⟨.d (.bool true), _, _, _⟩ => true
 | _ => false
theorem zrl {f k : Nat} (h : isT (xcall (mkG Tryz.prog) (xdraw (mkG Tryz.prog)) k f [] [] 0) = true) : PureR Tryz.prog f [] (.bool true) := by
 have hg := z0c z3o (z0x z3n) k
 unfold isT at h
 split at h
 ·rename_i nx own mv hr
  have := hg _ _ _ _ _ hr (by simp [Sym.los])
  exact zfu (ds := []) this
 ·cases h
theorem zxj : isT (xcall (mkG Tryz.prog) (xdraw (mkG Tryz.prog)) 50 14 [] [] 0) = true := by kernel_rfl
theorem zhh : PureR Tryz.prog 14 [] (.bool true) := zrl zxj
end Go.V
namespace Go.V
open Go Go.Proofs
theorem zca {α : Type} {M : Nat} {row : α → List D} : ∀ {l : List α}, CapR M (l.map row) → ∀ x ∈ l, Caps M (row x)
 | [], _, x, hx => by cases hx
 | a :: l, h, x, hx => by
  simp only [List.map_cons, CapR] at h
  rcases List.mem_cons.1 hx with e | e
  ·rw [e]; exact h.1
  ·exact zca h.2 x e
theorem zat {α : Type} {row : α → List D} {shs : List Sh} {d : D} (h : ∀ r, FitDs r shs → ∃ x, r = row x) (hf : FitD d (.sl shs)) : ∃ xs : List α, d = .sl (xs.map row) := by
 obtain ⟨xs, e, _, _⟩ := FitD.sl_decode (row := row) (good := fun _ => True) (fun r hr => by obtain ⟨x, e⟩ := h r hr; exact ⟨x, e, trivial⟩) hf
 exact ⟨xs, e⟩
theorem z3p {r : List D} (h : FitDs r [.int .i64]) : ∃ n : Int, r = [int n] := by
 obtain ⟨_, _, rfl, g1, r1⟩ := h.cons_decode
 obtain rfl := r1.nil_decode
 obtain ⟨a, rfl, _⟩ := g1.int_decode
 exact ⟨a, rfl⟩
theorem zdu {d : D} (h : FitD d (.sl [.int .i64])) : ∃ l, d = ints l := zat (row := fun n : Int => [int n]) (fun r hr => z3p hr) h
theorem z0y {r : List D} (h : FitDs r [.str, .int .i64]) : ∃ p : Phon, r = p.row := by
 obtain ⟨_, _, rfl, g1, r1⟩ := h.cons_decode
 obtain ⟨_, _, rfl, g2, r2⟩ := r1.cons_decode
 obtain rfl := r2.nil_decode
 obtain ⟨a, rfl, _⟩ := g1.str_decode
 obtain ⟨b, rfl, _⟩ := g2.int_decode
 exact ⟨⟨a, b⟩, rfl⟩
theorem z0z {r : List D} (h : FitDs r [.str, .sl [.int .i64]]) : ∃ p : Grap, r = p.row := by
 obtain ⟨_, _, rfl, g1, r1⟩ := h.cons_decode
 obtain ⟨_, _, rfl, g2, r2⟩ := r1.cons_decode
 obtain rfl := r2.nil_decode
 obtain ⟨a, rfl, _⟩ := g1.str_decode
 obtain ⟨b, rfl⟩ := zdu g2
 exact ⟨⟨a, b⟩, rfl⟩
theorem zxk {r : List D} (h : FitDs r [.str]) : ∃ s : ByteArray, r = [.str s] := by
 obtain ⟨_, _, rfl, g1, r1⟩ := h.cons_decode
 obtain rfl := r1.nil_decode
 obtain ⟨a, rfl, _⟩ := g1.str_decode
 exact ⟨a, rfl⟩
theorem z00 {r : List D} (h : FitDs r [.sl [.str]]) : ∃ l : List ByteArray, r = [.sl (l.map fun s => [.str s])] := by
 obtain ⟨_, _, rfl, g1, r1⟩ := h.cons_decode
 obtain rfl := r1.nil_decode
 obtain ⟨l, rfl⟩ := zat (row := fun s : ByteArray => [D.str s]) (fun r hr => zxk hr) g1
 exact ⟨l, rfl⟩
theorem zi5 {r : List D} (h : FitDs r [.int .i64, .int .i64]) : ∃ a b : Int, r = [int a, int b] := by
 obtain ⟨_, _, rfl, g1, r1⟩ := h.cons_decode
 obtain ⟨_, _, rfl, g2, r2⟩ := r1.cons_decode
 obtain rfl := r2.nil_decode
 obtain ⟨a, rfl, _⟩ := g1.int_decode
 obtain ⟨b, rfl, _⟩ := g2.int_decode
 exact ⟨a, b, rfl⟩
theorem zxl {d : D} (h : FitD d (.sl [.int .i64, .int .i64])) : ∃ l, d = clsD l := zat (row := Cls.row) (fun r hr => by obtain ⟨a, b, rfl⟩ := zi5 hr; exact ⟨⟨a, b⟩, rfl⟩) h
theorem z01 {r : List D} (h : FitDs r [.sl [.int .i64], .sl [.int .i64], .sl [.int .i64, .int .i64], .sl [.int .i64, .int .i64], .bool, .bool]) : ∃ x : Rule, r = x.row := by
 obtain ⟨_, _, rfl, g1, r1⟩ := h.cons_decode
 obtain ⟨_, _, rfl, g2, r2⟩ := r1.cons_decode
 obtain ⟨_, _, rfl, g3, r3⟩ := r2.cons_decode
 obtain ⟨_, _, rfl, g4, r4⟩ := r3.cons_decode
 obtain ⟨_, _, rfl, g5, r5⟩ := r4.cons_decode
 obtain ⟨_, _, rfl, g6, r6⟩ := r5.cons_decode
 obtain rfl := r6.nil_decode
 obtain ⟨a, rfl⟩ := zdu g1
 obtain ⟨b, rfl⟩ := zdu g2
 obtain ⟨c, rfl⟩ := zxl g3
 obtain ⟨d, rfl⟩ := zxl g4
 obtain ⟨e, rfl⟩ := g5.bool_decode
 obtain ⟨f, rfl⟩ := g6.bool_decode
 exact ⟨⟨a, b, c, d, e, f⟩, rfl⟩
theorem z3q {r : List D} (h : FitDs r [.int .i64, .int .i64, .int .i64]) : ∃ x : Stp, r = x.row := by
 obtain ⟨_, _, rfl, g1, r1⟩ := h.cons_decode
 obtain ⟨a, b, rfl⟩ := zi5 r1
 obtain ⟨c, rfl, _⟩ := g1.int_decode
 exact ⟨⟨c, a, b⟩, rfl⟩
theorem z02 {r : List D} (h : FitDs r [.str, .str]) : ∃ x : Sens, r = x.row := by
 obtain ⟨_, _, rfl, g1, r1⟩ := h.cons_decode
 obtain ⟨b, rfl⟩ := zxk r1
 obtain ⟨a, rfl, _⟩ := g1.str_decode
 exact ⟨⟨a, b⟩, rfl⟩
theorem zxm {d : D} (h : FitD d (.sl [.sl [.int .i64]])) : ∃ l, d = listsD l := zat (row := fun a : List Int => [ints a]) (fun r hr => by
 obtain ⟨_, _, rfl, g1, r1⟩ := hr.cons_decode
 obtain rfl := r1.nil_decode
 obtain ⟨a, rfl⟩ := zdu g1
 exact ⟨a, rfl⟩) h
abbrev entSh : List Sh := [.int .i64, .sl [.int .i64], .int .i64, .sl [.sl [.int .i64]], .int .i64, .sl [.str, .str], .sl [.int .i64, .int .i64], .sl [.int .i64, .int .i64]]
theorem z3r {r : List D} (h : FitDs r entSh) : ∃ x : Ent, r = x.row := by
 obtain ⟨_, _, rfl, g1, r1⟩ := h.cons_decode
 obtain ⟨_, _, rfl, g2, r2⟩ := r1.cons_decode
 obtain ⟨_, _, rfl, g3, r3⟩ := r2.cons_decode
 obtain ⟨_, _, rfl, g4, r4⟩ := r3.cons_decode
 obtain ⟨_, _, rfl, g5, r5⟩ := r4.cons_decode
 obtain ⟨_, _, rfl, g6, r6⟩ := r5.cons_decode
 obtain ⟨_, _, rfl, g7, r7⟩ := r6.cons_decode
 obtain ⟨_, _, rfl, g8, r8⟩ := r7.cons_decode
 obtain rfl := r8.nil_decode
 obtain ⟨a, rfl, _⟩ := g1.int_decode
 obtain ⟨b, rfl⟩ := zdu g2
 obtain ⟨c, rfl, _⟩ := g3.int_decode
 obtain ⟨d, rfl⟩ := zxm g4
 obtain ⟨e, rfl, _⟩ := g5.int_decode
 obtain ⟨f, rfl⟩ := zat (row := Sens.row) (fun r hr => z02 hr) g6
 obtain ⟨k, rfl⟩ := zat (row := Lnk.row) (fun r hr => by obtain ⟨a, b, rfl⟩ := zi5 hr; exact ⟨⟨a, b⟩, rfl⟩) g7
 obtain ⟨m, rfl⟩ := zat (row := Rf.row) (fun r hr => by obtain ⟨a, b, rfl⟩ := zi5 hr; exact ⟨⟨a, b⟩, rfl⟩) g8
 exact ⟨⟨a, b, c, d, e, f, k, m⟩, rfl⟩
abbrev langSh : List Sh := [.sl [.str, .int .i64], .str, .sl [.str, .sl [.int .i64]], .sl [.sl [.str]], .sl [.sl [.int .i64], .sl [.int .i64], .sl [.int .i64, .int .i64], .sl [.int .i64, .int .i64], .bool, .bool], .int .i64, .sl [.int .i64, .int .i64, .int .i64], .sl [.int .i64], .sl entSh]
theorem zjq {l : List D} (h : FitDs l langSh) : ∃ g : Lang, D.agg l = g.d := by
 obtain ⟨_, _, rfl, g1, r1⟩ := h.cons_decode
 obtain ⟨_, _, rfl, g2, r2⟩ := r1.cons_decode
 obtain ⟨_, _, rfl, g3, r3⟩ := r2.cons_decode
 obtain ⟨_, _, rfl, g4, r4⟩ := r3.cons_decode
 obtain ⟨_, _, rfl, g5, r5⟩ := r4.cons_decode
 obtain ⟨_, _, rfl, g6, r6⟩ := r5.cons_decode
 obtain ⟨_, _, rfl, g7, r7⟩ := r6.cons_decode
 obtain ⟨_, _, rfl, g8, r8⟩ := r7.cons_decode
 obtain ⟨_, _, rfl, g9, r9⟩ := r8.cons_decode
 obtain rfl := r9.nil_decode
 obtain ⟨a, rfl⟩ := zat (row := Phon.row) (fun r hr => z0y hr) g1
 obtain ⟨b, rfl, _⟩ := g2.str_decode
 obtain ⟨c, rfl⟩ := zat (row := Grap.row) (fun r hr => z0z hr) g3
 obtain ⟨d, rfl⟩ := zat (row := fun r : List ByteArray => [D.sl (r.map fun s => [.str s])]) (fun r hr => z00 hr) g4
 obtain ⟨e, rfl⟩ := zat (row := Rule.row) (fun r hr => z01 hr) g5
 obtain ⟨f, rfl, _⟩ := g6.int_decode
 obtain ⟨k, rfl⟩ := zat (row := Stp.row) (fun r hr => z3q hr) g7
 obtain ⟨m, rfl⟩ := zdu g8
 obtain ⟨n, rfl⟩ := zat (row := Ent.row) (fun r hr => z3r hr) g9
 exact ⟨⟨a, ⟨b, c, d⟩, e, ⟨f, k, m⟩, n⟩, rfl⟩
theorem zou {g : Lang} (h : CapT 1048576 g.d) : LangC g := by
 simp only [Lang.d, CapT, Caps, Cap, invD, unitsD, lettersD, rulesD, stepsD, ints, lexD, int, List.length_map, and_true] at h
 obtain ⟨⟨a1, a2⟩, b1, ⟨c1, c2⟩, ⟨d1, d2⟩, ⟨e1, e2⟩, _, ⟨k1, _⟩, ⟨m1, _⟩, n1, n2⟩ := h
 refine { inv := ⟨a1, fun p hp => ?_⟩, orth := ⟨b1, fun u hu => ?_, fun L hL => ?_, c1, d1⟩, rules := ⟨e1, fun r hr => ?_⟩, steps := k1, final := m1, lex := ⟨n1, fun e he => ?_⟩ }
 ·have := zca a2 p hp
  simp only [Phon.row, Caps, Cap, int] at this
  exact this.1
 ·have := zca c2 u hu
  simp only [Grap.row, Caps, Cap, int, ints, List.length_map] at this
  exact ⟨this.1, this.2.1.1⟩
 ·have := zca d2 L hL
  simp only [Caps, Cap, List.length_map] at this
  refine ⟨this.1.1, fun s hs => ?_⟩
  have := zca this.1.2 s hs
  simp only [Caps, Cap] at this
  exact this.1
 ·have := zca e2 r hr
  simp only [Rule.row, Caps, Cap, int, ints, List.length_map] at this
  exact ⟨this.1.1, this.2.1.1⟩
 ·have := zca n2 e he
  simp only [Ent.row, Caps, Cap, int, ints, listsD, sensD, lnkD, rfD, List.length_map] at this
  obtain ⟨_, ⟨f1, _⟩, _, ⟨g1, g2⟩, _, ⟨s1, s2⟩, ⟨l1, _⟩, ⟨r1, _⟩, _⟩ := this
  refine ⟨f1, ⟨g1, fun w hw => ?_⟩, ⟨s1, fun s hs => ?_⟩, l1, r1⟩
  ·have := zca g2 w hw
   simp only [Caps, Cap, List.length_map] at this
   exact this.1.1
  ·have := zca s2 s hs
   simp only [Sens.row, Caps, Cap] at this
   exact ⟨this.1, this.2.1⟩
theorem z03 {l : List Int} (h : CapT 1048576 (ints l)) : l.length ≤ 1048576 := by
 simp only [CapT, ints, Cap, List.length_map] at h; exact h.1
theorem z3s {d : D} (h : FitD d .str) : ∃ s, d = .str s := by obtain ⟨n, e, _⟩ := h.str_decode; exact ⟨n, e⟩
end Go.V
namespace Go.V
open Go Go.Proofs
end Go.V
