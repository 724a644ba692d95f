/- Contracts and plain laws of this seat: part MC. It needs no conditions. -/
import Derived.Test.YtknekjalbninmaaGreatMB
import Derived.Test.YtknekjalbninmaaGreatX9
import Derived.Test.YtknekjalbninmaaGreatMA
import Derived.Test.YtknekjalbninmaaGreatProg
import Derived.KernelRfl
import Derived.Test.YtknekjalbninmaaGreatB1
import Derived.Test.YtknekjalbninmaaGreatW1
set_option linter.unusedVariables false
set_option linter.unusedSimpArgs false
set_option linter.unusedSectionVars false
set_option maxRecDepth 100000
namespace Go.V
open Go Go.Proofs
section
variable {σ : Type}
structure Clo (P : Program) (g : Lang) (w : List Int) (σ : Type) where
  F : σ → List Prt → List Int → σ × Bool
  rest : σ → List (Nat × Obj')
  fid : Nat
  caps : List Sym
  n : Nat
  mv : List Nat
  mvOk : ∀ i ∈ mv, 2 ≤ i ∧ i < n
  mvCaps : purgesM mv caps = caps
  Inv : Nat → σ → Prop
  ok : ∀ x, RestOk n (.fn fid caps) (rest x)
  mono : ∀ k x, Inv k x → Inv (k + 1) x
  call : ∀ k x tr a base, Inv k x → k < 2^20 → a.length ≤ 4 → base.length ≤ 24 →
    CallC P fid (.d (partsD a) :: .d (ints base) :: caps) (srchO g w tr (.fn fid caps) (rest x)) n (.d (.bool (F x a base).2)) n (srchO g w tr (.fn fid caps) (rest (F x a base).1)) mv ∧ Inv (k + 1) (F x a base).1
abbrev Sst (σ : Type) := (σ × List (List Int)) × Bool
variable {P : Program} (g : Lang) (w : List Int) (C : Clo P g w σ)
def hereS (x : σ × List (List Int)) (a : List Prt) (s : Nat) (base : List Int) : Sst σ :=
  if a ≠ [] ∧ s &&& finalS g.net.final ≠ 0 ∧ w.length ≤ base.length then
    (if fitsB g w base = true then (((C.F x.1 a base).1, trAdd x.2 base), (C.F x.1 a base).2) else ((x.1, trAdd x.2 base), true)) else (x, true)
def altS (wk : σ × List (List Int) → List Prt → Nat → List Int → Sst σ) (e : Ent) (a : List Prt) (s : Nat) (base : List Int) (z : Sst σ) (alt : Nat) : Sst σ :=
  if z.2 = false then z else if mostE g w < (base ++ e.forms[alt]?.getD []).length then z else wk z.1 (a ++ [⟨e.id, alt, 0⟩]) s (base ++ e.forms[alt]?.getD [])
def stepS (wk : σ × List (List Int) → List Prt → Nat → List Int → Sst σ) (e : Ent) (a : List Prt) (s : Nat) (base : List Int) (x : σ × List (List Int)) (k : Nat) : Sst σ :=
  (List.range k).foldl (altS g w wk e a s base) (x, true)
def entS (wk : σ × List (List Int) → List Prt → Nat → List Int → Sst σ) (a : List Prt) (s : Nat) (base : List Int) (y : Sst σ) (e : Ent) : Sst σ :=
  if y.2 = false then y else if afterS g.net.steps s e.cls = 0 then y else stepS g w wk e a (afterS g.net.steps s e.cls) base y.1 e.forms.length
def walkS : Nat → σ × List (List Int) → List Prt → Nat → List Int → Sst σ
  | 0, x, a, s, base => hereS g w C x a s base
  | f + 1, x, a, s, base => if (hereS g w C x a s base).2 = false then hereS g w C x a s base else
      g.lex.foldl (entS g w (fun x a s base => walkS f x a s base) a s base) ((hereS g w C x a s base).1, true)
def cntW : Nat → Nat
  | 0 => 1
  | f + 1 => 1 + 10 * cntW f
end
structure WalkC (g : Lang) (w : List Int) {σ : Type} (C : Clo Tryz.prog g w σ) (f : Nat) : Prop where
  call : ∀ k x tr a s base, C.Inv k x → k + cntW f ≤ 2^20 → (∀ b ∈ tr, KeyOk b) → a.length + f = 4 → s < 8 → base.length ≤ 24 → KeyOk base →
    CallC Tryz.prog 288 [.bp 0 0, .d (partsD a), .d (u32 s), .d (ints base)] (srchO g w tr (.fn C.fid C.caps) (C.rest x)) C.n
      (.d (.bool (walkS g w C f (x, tr) a s base).2)) C.n (srchO g w (walkS g w C f (x, tr) a s base).1.2 (.fn C.fid C.caps) (C.rest (walkS g w C f (x, tr) a s base).1.1)) C.mv
  inv : ∀ k x tr a s base, C.Inv k x → k + cntW f ≤ 2^20 → (∀ b ∈ tr, KeyOk b) → a.length + f = 4 → s < 8 → base.length ≤ 24 → KeyOk base →
    C.Inv (k + cntW f) (walkS g w C f (x, tr) a s base).1.1 ∧ ∀ b ∈ (walkS g w C f (x, tr) a s base).1.2, KeyOk b
end Go.V
namespace Go.V
open Go Go.Proofs
theorem KeyOk.app {a b : List Int} (ha : KeyOk a) (hb : KeyOk b) : KeyOk (a ++ b) := by
  intro y hy
  rcases List.mem_append.1 hy with h | h
  · exact ha y h
  · exact hb y h
end Go.V
namespace Go.V
open Go Go.Proofs
end Go.V
namespace Go.V
open Go Go.Proofs
end Go.V
namespace Go.V
open Go Go.Proofs
end Go.V
namespace Go.V
open Go Go.Proofs
section
variable {σ : Type}
def sF (F : σ → List Prt → List Int → σ × Bool) : σ × Bool → List (List Prt × List Int) → σ × Bool
  | z, [] => z
  | z, (p, b) :: r => if z.2 = false then z else sF F (F z.1 p b) r
variable {P : Program} (g : Lang) (w : List Int) (C : Clo P g w σ)
end
def plainL (g : Lang) (w : List Int) : List (List Prt) := if w.length = 0 ∨ 24 < w.length then [] else furF g w 4 []
end Go.V
namespace Go.V
open Go Go.Proofs
theorem CallC.args {P : Program} {f : Nat} {args args' : List Sym} {own : List (Nat × Obj')} {n : Nat} {s : Sym} {nx : Nat} {own' : List (Nat × Obj')} {mv : List Nat}
    (ha : ∀ (w : World) (E : Nat → Prop) (β : Nat → Value) (vs : List Value), Sms w E β args' vs → Sms w E β args vs) (h : CallC P f args own n s nx own' mv) : CallC P f args' own n s nx own' mv :=
  ⟨h.1, fun X w0 β w vs hβ hm hs => h.2 X w0 β w vs hβ hm (ha _ _ _ _ hs)⟩
end Go.V
namespace Go.V
open Go Go.Proofs
end Go.V
namespace Go.V
open Go Go.Proofs
def orE : List Int → Int
  | [] => 0
  | x :: r => if x = 0 then orE r else x
theorem orE_drop {l : List Int} {k : Nat} (h : k < l.length) : orE (l.drop k) = if l[k] = 0 then orE (l.drop (k + 1)) else l[k] := by
  rw [List.drop_eq_getElem_cons h]; rfl
theorem or_ok (l : List Int) (hl : l.length < 2^40) : PureR Tryz.prog 166 [ints l] (int (orE l)) := by
  refine pure_of_body mixed Tryz.func166 rfl call_166 ?_
  simp (decide := true) [Tryz.f166, int, ints]
  refine loop_rule mixed (fun k : Nat => { n := 18, next := 0, slots := [(3, .d (int 0)), (6, .d (ints l)), (7, .d (int l.length)), (8, .d (int k))], own := [] })
    (fun k => k ≤ l.length ∧ orE (l.drop k) = orE l) (fun k => l.length - k) 0 (by simp) (by simp (decide := true) [int, ints]) ?_
  intro k ⟨hk, hp⟩
  by_cases hlt : k < l.length
  case neg =>
    have : k = l.length := by omega
    subst this
    rw [List.drop_length] at hp
    simp (decide := true) [int, ints, ← hp, orE]
  have hlt' : (k : Int) < l.length := by omega
  rw [orE_drop hlt] at hp
  obtain ⟨x, ex⟩ : ∃ x, l[k] = x := ⟨_, rfl⟩
  have e1 : l[k]? = some x := by rw [List.getElem?_eq_getElem hlt, ex]
  rw [ex] at hp
  by_cases hx : x = 0
  · rw [if_pos hx] at hp
    simp (decide := true) [int, ints, hlt, hlt', e1, ex, hx, I64]
    exact ⟨⟨by omega, by omega⟩, k + 1, ⟨hlt, hp⟩, by omega, by omega⟩
  · rw [if_neg hx] at hp
    simp (decide := true) [int, ints, hlt, hlt', e1, ex, hx, I64, ← hp]
end Go.V
namespace Go.V
open Go Go.Proofs
def posL {α : Type} (lt : α → Bool) (l : List α) : Nat → Nat
  | 0 => 0
  | i + 1 => match l[i]? with
    | some y => if lt y = true then posL lt l i else i + 1
    | none => i + 1
def insL {α : Type} (lt : α → Bool) (x : α) (l : List α) : List α := l.take (posL lt l l.length) ++ x :: l.drop (posL lt l l.length)
noncomputable instance decBytes (k : ByteArray) (l : List ByteArray) : Decidable (k ∈ l) := Classical.propDecidable _
abbrev BasS := List ByteArray × List (List Int)
noncomputable def basF (x : BasS) (_ : List Prt) (base : List Int) : BasS × Bool := (if keyS base ∈ x.1 then x else (x.1 ++ [keyS base], insL (fun o => lessL base o) base x.2), true)
end Go.V
namespace Go.V
open Go Go.Proofs
noncomputable def basesE (g : Lang) (w : List Int) : List (List Int) := (sF basF (([], []), true) ((plainL g w).map fun b => (b, baseE g.lex b))).1.2
end Go.V
namespace Go.V
open Go Go.Proofs
end Go.V
namespace Go.V
open Go Go.Proofs
section
variable {σ α : Type}
end
end Go.V
namespace Go.V
open Go Go.Proofs
end Go.V
namespace Go.V
open Go Go.Proofs
end Go.V
namespace Go.V
open Go Go.Proofs
theorem Prt.ext' {a b : Prt} (h1 : a.entry = b.entry) (h2 : a.alt = b.alt) (h3 : a.sense = b.sense) : a = b := by
  cases a; cases b; simp only at h1 h2 h3; rw [h1, h2, h3]
section
variable {α : Type}
end
def Choice (g : Lang) : List Prt → List Prt → Prop
  | [], [] => True
  | p :: ps, q :: qs => (q.entry = p.entry ∧ q.alt = p.alt ∧ 0 ≤ q.sense ∧ q.sense < (sensesE g.lex p.entry).length) ∧ Choice g ps qs
  | _, _ => False
def bare (a : List Prt) : List Prt := a.map fun p => ⟨p.entry, p.alt, 0⟩
theorem bare_of {a : List Prt} (h : ∀ p ∈ a, p.sense = 0) : bare a = a := by
  unfold bare
  conv => rhs; rw [← List.map_id a]
  refine List.map_congr_left fun p hp => ?_
  exact Prt.ext' rfl rfl (h p hp).symm
end Go.V
namespace Go.V
open Go Go.Proofs
def PartN (g : Lang) (p : Prt) : Prop := ∃ e ∈ g.lex, p.entry = e.id ∧ p.sense = 0 ∧ ∃ alt : Nat, alt < e.forms.length ∧ p.alt = alt
theorem PartN.ok {g : Lang} (hg : LightF g) {p : Prt} (h : PartN g p) : ∃ e ∈ g.lex, ∃ alt : Nat, alt < e.forms.length ∧ p = ⟨e.id, alt, 0⟩ := by
  obtain ⟨e, he, h1, h2, alt, h3, h4⟩ := h
  exact ⟨e, he, alt, h3, Prt.ext' h1 h4 h2⟩
structure PlainF (g : Lang) (w : List Int) (b : List Prt) : Prop where
  pos : b ≠ []
  len : b.length ≤ 4
  parts : ∀ p ∈ b, PartN g p
  lic : licE g w b = true
theorem PlainF.bare {g : Lang} {w : List Int} {b : List Prt} (h : PlainF g w b) : bare b = b := bare_of fun p hp => by obtain ⟨_, _, _, h2, _⟩ := h.parts p hp; exact h2
structure BasJ (x : BasS) : Prop where
  seen : ∀ k ∈ x.1, ∃ b ∈ x.2, keyS b = k
end Go.V
namespace Go.V
open Go Go.Proofs
def scD (P : Program) (f : Nat) : Bool := match P.funcs[f]? with
  | some fn => match fn.resultTypes.toList with
    | [T] => (match TI.of P T with
      | some ⟨.int _, _, _, _, _⟩ => true
      | some ⟨.bool, _, _, _, _⟩ => true
      | some ⟨.str, _, _, _, _⟩ => true
      | _ => false)
    | _ => false
  | none => false
def fnD (P : Program) (f : Nat) : Option (Nat × Code × List ResultVar) := match P.funcs[f]? with
  | some fn => match fn.body with
    | some c => some (fn.ntmps, c, fn.results.toList)
    | none => none
  | none => none
def mkG (P : Program) : XG := ⟨fun t => TI.of P t, fun t => zfit P t, fun t => eqKinds P t, fnD P, scD P, fun _ => none, fun _ => none, fun _ => false⟩
def allCan (P : Program) : Bool := (List.range P.funcs.size).all fun f => match P.funcs[f]? with
  | some fn => fn.name != "runtime.NumGoroutine"
  | none => true
theorem mkG_good {P : Program} (h : allCan P = true) : XGood P (mkG P) := by
  refine ⟨fun h => h, fun h => h, fun h => h, ?_, fun h => (by cases h), fun h => (by cases h)⟩
  intro f n c rs hf
  have hf : fnD P f = some (n, c, rs) := hf
  unfold fnD at hf
  split at hf
  · rename_i fn hfn
    split at hf
    · rename_i c' hb
      cases hf
      refine ⟨?_, fn, hfn, hb, rfl, rfl⟩
      unfold allCan at h
      have hlt : f < P.funcs.size := by
        obtain ⟨h1, _⟩ := Array.getElem?_eq_some_iff.1 hfn
        exact h1
      have := (List.all_eq_true.1 h) f (List.mem_range.2 hlt)
      rw [hfn] at this
      unfold callable
      rw [hfn]
      simp only at this ⊢
      rw [this, hb]
      rfl
    · cases hf
  · cases hf
theorem can_all : allCan Tryz.prog = true := by kernel_rfl
theorem mixed_X : Tryz.prog.follows .mixedOrders = true := by kernel_rfl
def isT (r : Option XR) : Bool := match r with
  | some ⟨.d (.bool true), _, _, _⟩ => true
  | _ => false
end Go.V
namespace Go.V
open Go Go.Proofs
def IntOk (n : Int) : Prop := (Lit.int .i64 n).wf = true
theorem IntOk.I64 {n : Int} (h : IntOk n) : I64 n := by
  have := bounds_i64 h
  unfold Go.V.I64; omega
def Prt.ok (p : Prt) : Prop := IntOk p.entry ∧ IntOk p.alt ∧ IntOk p.sense
abbrev prtSh : List Sh := [.int .i64, .int .i64, .int .i64]
def PrtsOk (l : List Prt) : Prop := l.length ≤ maxLen ∧ ∀ x ∈ l, x.ok
theorem parts_decode {d : D} (h : FitD d (.sl prtSh)) : ∃ l, d = partsD l ∧ PrtsOk l := by
  obtain ⟨xs, rfl, h1, h2⟩ := FitD.sl_decode (row := Prt.row) (good := Prt.ok) (fun r hr => by
    obtain ⟨_, _, rfl, g1, r1⟩ := hr.cons_decode
    obtain ⟨_, _, rfl, g2, r2⟩ := r1.cons_decode
    obtain ⟨_, _, rfl, g3, r3⟩ := r2.cons_decode
    obtain rfl := r3.nil_decode
    obtain ⟨a, rfl, wa⟩ := g1.int_decode
    obtain ⟨b, rfl, wb⟩ := g2.int_decode
    obtain ⟨c, rfl, wc⟩ := g3.int_decode
    exact ⟨⟨a, b, c⟩, rfl, wa, wb, wc⟩) h
  exact ⟨xs, rfl, h1, h2⟩
theorem ana_decode {l : List D} (h : FitDs l [.sl prtSh]) : ∃ a, D.agg l = anaD a ∧ PrtsOk a := by
  obtain ⟨_, _, rfl, g1, r1⟩ := h.cons_decode
  obtain rfl := r1.nil_decode
  obtain ⟨a, rfl, ha⟩ := parts_decode g1
  exact ⟨a, rfl, ha⟩
end Go.V
namespace Go.V
open Go Go.Proofs
theorem capR_map {α : Type} {M : Nat} {row : α → List D} : ∀ {l : List α}, CapR M (l.map row) → ∀ x ∈ l, Caps M (row x)
  | [], _, x, hx => by cases hx
  | a :: l, h, x, hx => by
    simp only [List.map_cons, CapR] at h
    rcases List.mem_cons.1 hx with e | e
    · rw [e]; exact h.1
    · exact capR_map h.2 x e
theorem rows_decode {α : Type} {row : α → List D} {shs : List Sh} {d : D} (h : ∀ r, FitDs r shs → ∃ x, r = row x) (hf : FitD d (.sl shs)) : ∃ xs : List α, d = .sl (xs.map row) := by
  obtain ⟨xs, e, _, _⟩ := FitD.sl_decode (row := row) (good := fun _ => True) (fun r hr => by obtain ⟨x, e⟩ := h r hr; exact ⟨x, e, trivial⟩) hf
  exact ⟨xs, e⟩
theorem int_row {r : List D} (h : FitDs r [.int .i64]) : ∃ n : Int, r = [int n] := by
  obtain ⟨_, _, rfl, g1, r1⟩ := h.cons_decode
  obtain rfl := r1.nil_decode
  obtain ⟨a, rfl, _⟩ := g1.int_decode
  exact ⟨a, rfl⟩
theorem ints_dec {d : D} (h : FitD d (.sl [.int .i64])) : ∃ l, d = ints l := rows_decode (row := fun n : Int => [int n]) (fun r hr => int_row hr) h
theorem phon_row {r : List D} (h : FitDs r [.str, .int .i64]) : ∃ p : Phon, r = p.row := by
  obtain ⟨_, _, rfl, g1, r1⟩ := h.cons_decode
  obtain ⟨_, _, rfl, g2, r2⟩ := r1.cons_decode
  obtain rfl := r2.nil_decode
  obtain ⟨a, rfl, _⟩ := g1.str_decode
  obtain ⟨b, rfl, _⟩ := g2.int_decode
  exact ⟨⟨a, b⟩, rfl⟩
theorem grap_row {r : List D} (h : FitDs r [.str, .sl [.int .i64]]) : ∃ p : Grap, r = p.row := by
  obtain ⟨_, _, rfl, g1, r1⟩ := h.cons_decode
  obtain ⟨_, _, rfl, g2, r2⟩ := r1.cons_decode
  obtain rfl := r2.nil_decode
  obtain ⟨a, rfl, _⟩ := g1.str_decode
  obtain ⟨b, rfl⟩ := ints_dec g2
  exact ⟨⟨a, b⟩, rfl⟩
theorem str_row {r : List D} (h : FitDs r [.str]) : ∃ s : ByteArray, r = [.str s] := by
  obtain ⟨_, _, rfl, g1, r1⟩ := h.cons_decode
  obtain rfl := r1.nil_decode
  obtain ⟨a, rfl, _⟩ := g1.str_decode
  exact ⟨a, rfl⟩
theorem strs_row {r : List D} (h : FitDs r [.sl [.str]]) : ∃ l : List ByteArray, r = [.sl (l.map fun s => [.str s])] := by
  obtain ⟨_, _, rfl, g1, r1⟩ := h.cons_decode
  obtain rfl := r1.nil_decode
  obtain ⟨l, rfl⟩ := rows_decode (row := fun s : ByteArray => [D.str s]) (fun r hr => str_row hr) g1
  exact ⟨l, rfl⟩
theorem int2_row {r : List D} (h : FitDs r [.int .i64, .int .i64]) : ∃ a b : Int, r = [int a, int b] := by
  obtain ⟨_, _, rfl, g1, r1⟩ := h.cons_decode
  obtain ⟨_, _, rfl, g2, r2⟩ := r1.cons_decode
  obtain rfl := r2.nil_decode
  obtain ⟨a, rfl, _⟩ := g1.int_decode
  obtain ⟨b, rfl, _⟩ := g2.int_decode
  exact ⟨a, b, rfl⟩
theorem cls_dec {d : D} (h : FitD d (.sl [.int .i64, .int .i64])) : ∃ l, d = clsD l := rows_decode (row := Cls.row) (fun r hr => by obtain ⟨a, b, rfl⟩ := int2_row hr; exact ⟨⟨a, b⟩, rfl⟩) h
theorem rule_row {r : List D} (h : FitDs r [.sl [.int .i64], .sl [.int .i64], .sl [.int .i64, .int .i64], .sl [.int .i64, .int .i64], .bool, .bool]) : ∃ x : Rule, r = x.row := by
  obtain ⟨_, _, rfl, g1, r1⟩ := h.cons_decode
  obtain ⟨_, _, rfl, g2, r2⟩ := r1.cons_decode
  obtain ⟨_, _, rfl, g3, r3⟩ := r2.cons_decode
  obtain ⟨_, _, rfl, g4, r4⟩ := r3.cons_decode
  obtain ⟨_, _, rfl, g5, r5⟩ := r4.cons_decode
  obtain ⟨_, _, rfl, g6, r6⟩ := r5.cons_decode
  obtain rfl := r6.nil_decode
  obtain ⟨a, rfl⟩ := ints_dec g1
  obtain ⟨b, rfl⟩ := ints_dec g2
  obtain ⟨c, rfl⟩ := cls_dec g3
  obtain ⟨d, rfl⟩ := cls_dec g4
  obtain ⟨e, rfl⟩ := g5.bool_decode
  obtain ⟨f, rfl⟩ := g6.bool_decode
  exact ⟨⟨a, b, c, d, e, f⟩, rfl⟩
theorem stp_row {r : List D} (h : FitDs r [.int .i64, .int .i64, .int .i64]) : ∃ x : Stp, r = x.row := by
  obtain ⟨_, _, rfl, g1, r1⟩ := h.cons_decode
  obtain ⟨a, b, rfl⟩ := int2_row r1
  obtain ⟨c, rfl, _⟩ := g1.int_decode
  exact ⟨⟨c, a, b⟩, rfl⟩
theorem sens_row {r : List D} (h : FitDs r [.str, .str]) : ∃ x : Sens, r = x.row := by
  obtain ⟨_, _, rfl, g1, r1⟩ := h.cons_decode
  obtain ⟨b, rfl⟩ := str_row r1
  obtain ⟨a, rfl, _⟩ := g1.str_decode
  exact ⟨⟨a, b⟩, rfl⟩
theorem lists_dec {d : D} (h : FitD d (.sl [.sl [.int .i64]])) : ∃ l, d = listsD l := rows_decode (row := fun a : List Int => [ints a]) (fun r hr => by
  obtain ⟨_, _, rfl, g1, r1⟩ := hr.cons_decode
  obtain rfl := r1.nil_decode
  obtain ⟨a, rfl⟩ := ints_dec g1
  exact ⟨a, rfl⟩) h
abbrev entSh : List Sh := [.int .i64, .sl [.int .i64], .int .i64, .sl [.sl [.int .i64]], .int .i64, .sl [.str, .str], .sl [.int .i64, .int .i64], .sl [.int .i64, .int .i64]]
theorem ent_row {r : List D} (h : FitDs r entSh) : ∃ x : Ent, r = x.row := by
  obtain ⟨_, _, rfl, g1, r1⟩ := h.cons_decode
  obtain ⟨_, _, rfl, g2, r2⟩ := r1.cons_decode
  obtain ⟨_, _, rfl, g3, r3⟩ := r2.cons_decode
  obtain ⟨_, _, rfl, g4, r4⟩ := r3.cons_decode
  obtain ⟨_, _, rfl, g5, r5⟩ := r4.cons_decode
  obtain ⟨_, _, rfl, g6, r6⟩ := r5.cons_decode
  obtain ⟨_, _, rfl, g7, r7⟩ := r6.cons_decode
  obtain ⟨_, _, rfl, g8, r8⟩ := r7.cons_decode
  obtain rfl := r8.nil_decode
  obtain ⟨a, rfl, _⟩ := g1.int_decode
  obtain ⟨b, rfl⟩ := ints_dec g2
  obtain ⟨c, rfl, _⟩ := g3.int_decode
  obtain ⟨d, rfl⟩ := lists_dec g4
  obtain ⟨e, rfl, _⟩ := g5.int_decode
  obtain ⟨f, rfl⟩ := rows_decode (row := Sens.row) (fun r hr => sens_row hr) g6
  obtain ⟨k, rfl⟩ := rows_decode (row := Lnk.row) (fun r hr => by obtain ⟨a, b, rfl⟩ := int2_row hr; exact ⟨⟨a, b⟩, rfl⟩) g7
  obtain ⟨m, rfl⟩ := rows_decode (row := Rf.row) (fun r hr => by obtain ⟨a, b, rfl⟩ := int2_row hr; exact ⟨⟨a, b⟩, rfl⟩) g8
  exact ⟨⟨a, b, c, d, e, f, k, m⟩, rfl⟩
abbrev langSh : List Sh := [.sl [.str, .int .i64], .str, .sl [.str, .sl [.int .i64]], .sl [.sl [.str]], .sl [.sl [.int .i64], .sl [.int .i64], .sl [.int .i64, .int .i64], .sl [.int .i64, .int .i64], .bool, .bool], .int .i64, .sl [.int .i64, .int .i64, .int .i64], .sl [.int .i64], .sl entSh]
theorem lang_decode {l : List D} (h : FitDs l langSh) : ∃ g : Lang, D.agg l = g.d := by
  obtain ⟨_, _, rfl, g1, r1⟩ := h.cons_decode
  obtain ⟨_, _, rfl, g2, r2⟩ := r1.cons_decode
  obtain ⟨_, _, rfl, g3, r3⟩ := r2.cons_decode
  obtain ⟨_, _, rfl, g4, r4⟩ := r3.cons_decode
  obtain ⟨_, _, rfl, g5, r5⟩ := r4.cons_decode
  obtain ⟨_, _, rfl, g6, r6⟩ := r5.cons_decode
  obtain ⟨_, _, rfl, g7, r7⟩ := r6.cons_decode
  obtain ⟨_, _, rfl, g8, r8⟩ := r7.cons_decode
  obtain ⟨_, _, rfl, g9, r9⟩ := r8.cons_decode
  obtain rfl := r9.nil_decode
  obtain ⟨a, rfl⟩ := rows_decode (row := Phon.row) (fun r hr => phon_row hr) g1
  obtain ⟨b, rfl, _⟩ := g2.str_decode
  obtain ⟨c, rfl⟩ := rows_decode (row := Grap.row) (fun r hr => grap_row hr) g3
  obtain ⟨d, rfl⟩ := rows_decode (row := fun r : List ByteArray => [D.sl (r.map fun s => [.str s])]) (fun r hr => strs_row hr) g4
  obtain ⟨e, rfl⟩ := rows_decode (row := Rule.row) (fun r hr => rule_row hr) g5
  obtain ⟨f, rfl, _⟩ := g6.int_decode
  obtain ⟨k, rfl⟩ := rows_decode (row := Stp.row) (fun r hr => stp_row hr) g7
  obtain ⟨m, rfl⟩ := ints_dec g8
  obtain ⟨n, rfl⟩ := rows_decode (row := Ent.row) (fun r hr => ent_row hr) g9
  exact ⟨⟨a, ⟨b, c, d⟩, e, ⟨f, k, m⟩, n⟩, rfl⟩
theorem lang_caps {g : Lang} (h : CapT 1048576 g.d) : LangC g := by
  simp only [Lang.d, CapT, Caps, Cap, invD, unitsD, lettersD, rulesD, stepsD, ints, lexD, int, List.length_map, and_true] at h
  obtain ⟨⟨a1, a2⟩, b1, ⟨c1, c2⟩, ⟨d1, d2⟩, ⟨e1, e2⟩, _, ⟨k1, _⟩, ⟨m1, _⟩, n1, n2⟩ := h
  refine { inv := ⟨a1, fun p hp => ?_⟩, orth := ⟨b1, fun u hu => ?_, fun L hL => ?_, c1, d1⟩, rules := ⟨e1, fun r hr => ?_⟩, steps := k1, final := m1, lex := ⟨n1, fun e he => ?_⟩ }
  · have := capR_map a2 p hp
    simp only [Phon.row, Caps, Cap, int] at this
    exact this.1
  · have := capR_map c2 u hu
    simp only [Grap.row, Caps, Cap, int, ints, List.length_map] at this
    exact ⟨this.1, this.2.1.1⟩
  · have := capR_map d2 L hL
    simp only [Caps, Cap, List.length_map] at this
    refine ⟨this.1.1, fun s hs => ?_⟩
    have := capR_map this.1.2 s hs
    simp only [Caps, Cap] at this
    exact this.1
  · have := capR_map e2 r hr
    simp only [Rule.row, Caps, Cap, int, ints, List.length_map] at this
    exact ⟨this.1.1, this.2.1.1⟩
  · have := capR_map n2 e he
    simp only [Ent.row, Caps, Cap, int, ints, listsD, sensD, lnkD, rfD, List.length_map] at this
    obtain ⟨_, ⟨f1, _⟩, _, ⟨g1, g2⟩, _, ⟨s1, s2⟩, ⟨l1, _⟩, ⟨r1, _⟩, _⟩ := this
    refine ⟨f1, ⟨g1, fun w hw => ?_⟩, ⟨s1, fun s hs => ?_⟩, l1, r1⟩
    · have := capR_map g2 w hw
      simp only [Caps, Cap, List.length_map] at this
      exact this.1.1
    · have := capR_map s2 s hs
      simp only [Sens.row, Caps, Cap] at this
      exact ⟨this.1, this.2.1⟩
theorem ana_cap {l : List Prt} (h : CapT 1048576 (anaD l)) : l.length ≤ 1048576 := by
  simp only [CapT, anaD, partsD, Caps, Cap, List.length_map] at h; exact h.1.1
theorem ana_dec {l : List D} (h : FitDs l [.sl prtSh]) : ∃ a, D.agg l = anaD a := by obtain ⟨a, e, _⟩ := ana_decode h; exact ⟨a, e⟩
end Go.V
namespace Go.V
open Go Go.Proofs
structure AllOk (g : Lang) (w : List Int) (L : List (List Prt)) : Prop where
  few : L.length ≤ 200
  form : ∀ q ∈ L, (formA g q).2 = 0 ∧ (formA g q).1 = w ∧ q.length ≤ 4
  up : L.Pairwise fun a b => lessA a b = true
  base : ∀ q ∈ L, baseE g.lex q ∈ basesE g w
  all : ∀ b ∈ basesE g w, ∃ q ∈ L, baseE g.lex q = b
end Go.V
namespace Go.V
open Go Go.Proofs
structure FormF (g : Lang) (w : List Int) (a : List Prt) : Prop where
  word : wordC g.inv w = 0
  plain : bare a ∈ plainL g w
  choice : Choice g (bare a) a
end Go.V
namespace Go.V
open Go
section
variable {P : Program} {p q : List Nat} {l : List Oper}
structure PermOk (p q : List Nat) (l : List Oper) : Prop where
  len : p.length = l.length
  fwd : ∀ i, i < l.length → p.getD i l.length < l.length ∧ q.getD (p.getD i l.length) l.length = i
  bwd : ∀ i, i < l.length → q.getD i l.length < l.length ∧ p.getD (q.getD i l.length) l.length = i
  plain : ∀ o ∈ l, o.guard = none ∧ ∀ e ∈ o.after.toList, e.on < l.length
structure RelB (q : List Nat) (n : Nat) (Lb Lc : Array Bool) : Prop where
  size : Lb.size = n
  size' : Lc.size = n
  same : ∀ i, i < n → Lc.getD (q.getD i n) false = Lb.getD i false
theorem RelB.set (h : PermOk p q l) {Lb Lc : Array Bool} (hr : RelB q l.length Lb Lc) {i : Nat} (hi : i < l.length) : RelB q l.length (Lb.setIfInBounds i true) (Lc.setIfInBounds (q.getD i l.length) true) := by
  have hq := h.bwd i hi
  refine ⟨by simpa using hr.size, by simpa using hr.size', fun j hj => ?_⟩
  have hqj := h.bwd j hj
  have hs := hr.same j hj
  have e1 : q.getD j l.length < Lc.size := by rw [hr.size']; exact hqj.1
  have e2 : j < Lb.size := by rw [hr.size]; exact hj
  by_cases e : i = j
  · subst e
    rw [List.getD_eq_getElem?_getD] at e1
    simp [Array.getD, e1, e2]
  · have hne : q.getD i l.length ≠ q.getD j l.length := by
      intro hh
      have := hq.2
      rw [hh, hqj.2] at this
      exact e this.symm
    have g1 : (Lc.setIfInBounds (q.getD i l.length) true).getD (q.getD j l.length) false = Lc.getD (q.getD j l.length) false := by
      simp only [Array.getD, Array.size_setIfInBounds, e1, dif_pos]
      exact Array.getElem_setIfInBounds_ne _ hne
    have g2 : (Lb.setIfInBounds i true).getD j false = Lb.getD j false := by
      simp only [Array.getD, Array.size_setIfInBounds, e2, dif_pos]
      exact Array.getElem_setIfInBounds_ne _ e
    rw [g1, g2, hs]
variable {st : St}
end
end Go.V
