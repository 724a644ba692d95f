/- Contracts and plain laws of this seat: part M6. It needs no conditions. -/
import Derived.Test.YtgglheknmlfghaaGreatX9
import Derived.Test.YtgglheknmlfghaaGreatM1
import Derived.Test.YtgglheknmlfghaaGreatProg
import Derived.KernelRfl
import Derived.Test.YtgglheknmlfghaaGreatM5
set_option linter.unusedVariables false
set_option linter.unusedSimpArgs false
set_option linter.unusedSectionVars false
set_option maxRecDepth 100000
namespace Go.V
open Go Go.Proofs
def scD (P : Program) (f : Nat) : Bool := match P.funcs[f]? with
 | some fn => match fn.resultTypes.toList with
  | [T] => (match TI.of P T with
   | some ⟨.int _, _, _, _, _⟩ => true
   | some ⟨.bool, _, _, _, _⟩ => true
   | some ⟨.str, _, _, _, _⟩ => true
   | _ => false)
  | _ => false
 | none => false
def fnD (P : Program) (f : Nat) : Option (Nat × Code × List ResultVar) := match P.funcs[f]? with
 | some fn => match fn.body with
  | some c => some (fn.ntmps, c, fn.results.toList)
  | none => none
 | none => none
def mkG (P : Program) : XG := ⟨fun t => TI.of P t, fun t => zfit P t, fun t => eqKinds P t, fnD P, scD P, fun _ => none, fun _ => none, fun _ => false⟩
def z8f (P : Program) : Bool := (List.range P.funcs.size).all fun f => match P.funcs[f]? with
 | some fn => fn.name != "runtime.NumGoroutine"
 | none => true
theorem ycw {P : Program} (h : z8f P = true) : XGood P (mkG P) := by
 refine ⟨fun h => h, fun h => h, fun h => h, ?_, fun h => (by cases h), fun h => (by cases h)⟩
 intro f n c rs hf
 have hf : fnD P f = some (n, c, rs) := hf
 unfold fnD at hf
 split at hf
 ·rename_i fn hfn
  split at hf
  ·rename_i c' hb
   cases hf; refine ⟨?_, fn, hfn, hb, rfl, rfl⟩
   unfold z8f at h; have hlt : f < P.funcs.size := by
    obtain ⟨h1, _⟩ := Array.getElem?_eq_some_iff.1 hfn; exact h1
   have := (List.all_eq_true.1 h) f (List.mem_range.2 hlt)
   rw [hfn] at this; unfold callable; rw [hfn]; simp only at this ⊢
   rw [this, hb]; rfl
  ·cases hf
 ·cases hf
theorem yfr : z8f Tryz.prog = true := by kernel_rfl
theorem yfs : Tryz.prog.follows .mixedOrders = true := by kernel_rfl
def isT (r : Option XR) : Bool := match r with
 | some ⟨.d (.bool true), _, _, _⟩ => true
 | _ => false
theorem zzs {f k : Nat} (h : isT (yey (mkG Tryz.prog) (yb5 (mkG Tryz.prog)) k f [] [] 0) = true) : zaq Tryz.prog f [] (.bool true) := by
 have hg := yb8 yfs (ycw yfr) k
 unfold isT at h
 split at h
 ·rename_i nx own mv hr
  have := hg _ _ _ _ _ hr (by simp [Sym.los])
  exact zks (ds := []) this
 ·cases h
theorem z8g : isT (yey (mkG Tryz.prog) (yb5 (mkG Tryz.prog)) 50 14 [] [] 0) = true := by kernel_rfl
theorem zzt : zaq Tryz.prog 14 [] (.bool true) := zzs z8g
end Go.V
namespace Go.V
open Go Go.Proofs
theorem zfa {α : Type} {M : Nat} {row : α → List D} : ∀ {l : List α}, CapR M (l.map row) → ∀ x ∈ l, Caps M (row x)
 | [], _, x, hx => by cases hx
 | a :: l, h, x, hx => by
  simp only [List.map_cons, CapR] at h; rcases List.mem_cons.1 hx with e | e
  ·rw [e]; exact h.1
  ·exact zfa h.2 x e
theorem zbt {α : Type} {row : α → List D} {shs : List Sh} {d : D} (h : ∀ r, zb1 r shs → ∃ x, r = row x) (hf : FitD d (.sl shs)) : ∃ xs : List α, d = .sl (xs.map row) := by
 obtain ⟨xs, e, _, _⟩ := FitD.z6w (row := row) (good := fun _ => True) (fun r hr => by obtain ⟨x, e⟩ := h r hr; exact ⟨x, e, trivial⟩) hf
 exact ⟨xs, e⟩
theorem yft {r : List D} (h : zb1 r [.int .i64]) : ∃ n : Int, r = [int n] := by
 obtain ⟨_, _, rfl, g1, r1⟩ := h.zan
 obtain rfl := r1.zc3
 obtain ⟨a, rfl, _⟩ := g1.zdi
 exact ⟨a, rfl⟩
theorem zjn {d : D} (h : FitD d (.sl [.int .i64])) : ∃ l, d = ints l := zbt (row := fun n : Int => [int n]) (fun r hr => yft hr) h
theorem ycx {r : List D} (h : zb1 r [.str, .int .i64]) : ∃ p : Phon, r = p.row := by
 obtain ⟨_, _, rfl, g1, r1⟩ := h.zan
 obtain ⟨_, _, rfl, g2, r2⟩ := r1.zan
 obtain rfl := r2.zc3
 obtain ⟨a, rfl, _⟩ := g1.zfj
 obtain ⟨b, rfl, _⟩ := g2.zdi
 exact ⟨⟨a, b⟩, rfl⟩
theorem ycy {r : List D} (h : zb1 r [.str, .sl [.int .i64]]) : ∃ p : Grap, r = p.row := by
 obtain ⟨_, _, rfl, g1, r1⟩ := h.zan
 obtain ⟨_, _, rfl, g2, r2⟩ := r1.zan
 obtain rfl := r2.zc3
 obtain ⟨a, rfl, _⟩ := g1.zfj
 obtain ⟨b, rfl⟩ := zjn g2
 exact ⟨⟨a, b⟩, rfl⟩
theorem z8h {r : List D} (h : zb1 r [.str]) : ∃ s : ByteArray, r = [.str s] := by
 obtain ⟨_, _, rfl, g1, r1⟩ := h.zan
 obtain rfl := r1.zc3
 obtain ⟨a, rfl, _⟩ := g1.zfj
 exact ⟨a, rfl⟩
theorem ycz {r : List D} (h : zb1 r [.sl [.str]]) : ∃ l : List ByteArray, r = [.sl (l.map fun s => [.str s])] := by
 obtain ⟨_, _, rfl, g1, r1⟩ := h.zan
 obtain rfl := r1.zc3
 obtain ⟨l, rfl⟩ := zbt (row := fun s : ByteArray => [D.str s]) (fun r hr => z8h hr) g1
 exact ⟨l, rfl⟩
theorem zpb {r : List D} (h : zb1 r [.int .i64, .int .i64]) : ∃ a b : Int, r = [int a, int b] := by
 obtain ⟨_, _, rfl, g1, r1⟩ := h.zan
 obtain ⟨_, _, rfl, g2, r2⟩ := r1.zan
 obtain rfl := r2.zc3
 obtain ⟨a, rfl, _⟩ := g1.zdi
 obtain ⟨b, rfl, _⟩ := g2.zdi
 exact ⟨a, b, rfl⟩
theorem z8i {d : D} (h : FitD d (.sl [.int .i64, .int .i64])) : ∃ l, d = clsD l := zbt (row := Cls.row) (fun r hr => by obtain ⟨a, b, rfl⟩ := zpb hr; exact ⟨⟨a, b⟩, rfl⟩) h
theorem yc0 {r : List D} (h : zb1 r [.sl [.int .i64], .sl [.int .i64], .sl [.int .i64, .int .i64], .sl [.int .i64, .int .i64], .bool, .bool]) : ∃ x : Rule, r = x.row := by
 obtain ⟨_, _, rfl, g1, r1⟩ := h.zan
 obtain ⟨_, _, rfl, g2, r2⟩ := r1.zan
 obtain ⟨_, _, rfl, g3, r3⟩ := r2.zan
 obtain ⟨_, _, rfl, g4, r4⟩ := r3.zan
 obtain ⟨_, _, rfl, g5, r5⟩ := r4.zan
 obtain ⟨_, _, rfl, g6, r6⟩ := r5.zan
 obtain rfl := r6.zc3
 obtain ⟨a, rfl⟩ := zjn g1
 obtain ⟨b, rfl⟩ := zjn g2
 obtain ⟨c, rfl⟩ := z8i g3
 obtain ⟨d, rfl⟩ := z8i g4
 obtain ⟨e, rfl⟩ := g5.zpl
 obtain ⟨f, rfl⟩ := g6.zpl
 exact ⟨⟨a, b, c, d, e, f⟩, rfl⟩
theorem yfu {r : List D} (h : zb1 r [.int .i64, .int .i64, .int .i64]) : ∃ x : Stp, r = x.row := by
 obtain ⟨_, _, rfl, g1, r1⟩ := h.zan
 obtain ⟨a, b, rfl⟩ := zpb r1
 obtain ⟨c, rfl, _⟩ := g1.zdi
 exact ⟨⟨c, a, b⟩, rfl⟩
theorem yc1 {r : List D} (h : zb1 r [.str, .str]) : ∃ x : Sens, r = x.row := by
 obtain ⟨_, _, rfl, g1, r1⟩ := h.zan
 obtain ⟨b, rfl⟩ := z8h r1
 obtain ⟨a, rfl, _⟩ := g1.zfj
 exact ⟨⟨a, b⟩, rfl⟩
theorem z8j {d : D} (h : FitD d (.sl [.sl [.int .i64]])) : ∃ l, d = zbd l := zbt (row := fun a : List Int => [ints a]) (fun r hr => by
 obtain ⟨_, _, rfl, g1, r1⟩ := hr.zan
 obtain rfl := r1.zc3
 obtain ⟨a, rfl⟩ := zjn g1
 exact ⟨a, rfl⟩) h
abbrev yhh : List Sh := [.int .i64, .sl [.int .i64], .int .i64, .sl [.sl [.int .i64]], .int .i64, .sl [.str, .str], .sl [.int .i64, .int .i64], .sl [.int .i64, .int .i64]]
theorem yfv {r : List D} (h : zb1 r yhh) : ∃ x : Ent, r = x.row := by
 obtain ⟨_, _, rfl, g1, r1⟩ := h.zan
 obtain ⟨_, _, rfl, g2, r2⟩ := r1.zan
 obtain ⟨_, _, rfl, g3, r3⟩ := r2.zan
 obtain ⟨_, _, rfl, g4, r4⟩ := r3.zan
 obtain ⟨_, _, rfl, g5, r5⟩ := r4.zan
 obtain ⟨_, _, rfl, g6, r6⟩ := r5.zan
 obtain ⟨_, _, rfl, g7, r7⟩ := r6.zan
 obtain ⟨_, _, rfl, g8, r8⟩ := r7.zan
 obtain rfl := r8.zc3
 obtain ⟨a, rfl, _⟩ := g1.zdi
 obtain ⟨b, rfl⟩ := zjn g2
 obtain ⟨c, rfl, _⟩ := g3.zdi
 obtain ⟨d, rfl⟩ := z8j g4
 obtain ⟨e, rfl, _⟩ := g5.zdi
 obtain ⟨f, rfl⟩ := zbt (row := Sens.row) (fun r hr => yc1 hr) g6
 obtain ⟨k, rfl⟩ := zbt (row := Lnk.row) (fun r hr => by obtain ⟨a, b, rfl⟩ := zpb hr; exact ⟨⟨a, b⟩, rfl⟩) g7
 obtain ⟨m, rfl⟩ := zbt (row := Rf.row) (fun r hr => by obtain ⟨a, b, rfl⟩ := zpb hr; exact ⟨⟨a, b⟩, rfl⟩) g8
 exact ⟨⟨a, b, c, d, e, f, k, m⟩, rfl⟩
abbrev ye3 : List Sh := [.sl [.str, .int .i64], .str, .sl [.str, .sl [.int .i64]], .sl [.sl [.str]], .sl [.sl [.int .i64], .sl [.int .i64], .sl [.int .i64, .int .i64], .sl [.int .i64, .int .i64], .bool, .bool], .int .i64, .sl [.int .i64, .int .i64, .int .i64], .sl [.int .i64], .sl yhh]
theorem zzu {l : List D} (h : zb1 l ye3) : ∃ g : Lang, D.agg l = g.d := by
 obtain ⟨_, _, rfl, g1, r1⟩ := h.zan
 obtain ⟨_, _, rfl, g2, r2⟩ := r1.zan
 obtain ⟨_, _, rfl, g3, r3⟩ := r2.zan
 obtain ⟨_, _, rfl, g4, r4⟩ := r3.zan
 obtain ⟨_, _, rfl, g5, r5⟩ := r4.zan
 obtain ⟨_, _, rfl, g6, r6⟩ := r5.zan
 obtain ⟨_, _, rfl, g7, r7⟩ := r6.zan
 obtain ⟨_, _, rfl, g8, r8⟩ := r7.zan
 obtain ⟨_, _, rfl, g9, r9⟩ := r8.zan
 obtain rfl := r9.zc3
 obtain ⟨a, rfl⟩ := zbt (row := Phon.row) (fun r hr => ycx hr) g1
 obtain ⟨b, rfl, _⟩ := g2.zfj
 obtain ⟨c, rfl⟩ := zbt (row := Grap.row) (fun r hr => ycy hr) g3
 obtain ⟨d, rfl⟩ := zbt (row := fun r : List ByteArray => [D.sl (r.map fun s => [.str s])]) (fun r hr => ycz hr) g4
 obtain ⟨e, rfl⟩ := zbt (row := Rule.row) (fun r hr => yc0 hr) g5
 obtain ⟨f, rfl, _⟩ := g6.zdi
 obtain ⟨k, rfl⟩ := zbt (row := Stp.row) (fun r hr => yfu hr) g7
 obtain ⟨m, rfl⟩ := zjn g8
 obtain ⟨n, rfl⟩ := zbt (row := Ent.row) (fun r hr => yfv hr) g9
 exact ⟨⟨a, ⟨b, c, d⟩, e, ⟨f, k, m⟩, n⟩, rfl⟩
theorem z8k {g : Lang} (h : CapT 1048576 g.d) : LangC g := by
 simp only [Lang.d, CapT, Caps, Cap, invD, za5, zdj, zbf, stepsD, ints, lexD, int, List.length_map, and_true] at h
 obtain ⟨⟨a1, a2⟩, b1, ⟨c1, c2⟩, ⟨d1, d2⟩, ⟨e1, e2⟩, _, ⟨k1, _⟩, ⟨m1, _⟩, n1, n2⟩ := h
 refine { inv := ⟨a1, fun p hp => ?_⟩, orth := ⟨b1, fun u hu => ?_, fun L hL => ?_, c1, d1⟩, rules := ⟨e1, fun r hr => ?_⟩, steps := k1, final := m1, lex := ⟨n1, fun e he => ?_⟩ }
 ·have := zfa a2 p hp
  simp only [Phon.row, Caps, Cap, int] at this; exact this.1
 ·have := zfa c2 u hu
  simp only [Grap.row, Caps, Cap, int, ints, List.length_map] at this; exact ⟨this.1, this.2.1.1⟩
 ·have := zfa d2 L hL
  simp only [Caps, Cap, List.length_map] at this; refine ⟨this.1.1, fun s hs => ?_⟩
  have := zfa this.1.2 s hs
  simp only [Caps, Cap] at this; exact this.1
 ·have := zfa e2 r hr
  simp only [Rule.row, Caps, Cap, int, ints, List.length_map] at this; exact ⟨this.1.1, this.2.1.1⟩
 ·have := zfa n2 e he
  simp only [Ent.row, Caps, Cap, int, ints, zbd, zbl, lnkD, rfD, List.length_map] at this; obtain ⟨_, ⟨f1, _⟩, _, ⟨g1, g2⟩, _, ⟨s1, s2⟩, ⟨l1, _⟩, ⟨r1, _⟩, _⟩ := this; refine ⟨f1, ⟨g1, fun w hw => ?_⟩, ⟨s1, fun s hs => ?_⟩, l1, r1⟩
  ·have := zfa g2 w hw
   simp only [Caps, Cap, List.length_map] at this; exact this.1.1
  ·have := zfa s2 s hs
   simp only [Sens.row, Caps, Cap] at this; exact ⟨this.1, this.2.1⟩
theorem yfw {d : D} (h : FitD d .str) : ∃ s, d = .str s := by obtain ⟨n, e, _⟩ := h.zfj; exact ⟨n, e⟩
end Go.V
namespace Go.V
open Go Go.Proofs
end Go.V
