/- Contracts and plain laws of this seat: part M6. It needs no conditions. -/
import Derived.Test.YtgglheknmlfghaaGreatX9
import Derived.Test.YtgglheknmlfghaaGreatM1
import Derived.Test.YtgglheknmlfghaaGreatProg
import Derived.KernelRfl
import Derived.Test.YtgglheknmlfghaaGreatM5
set_option linter.unusedVariables false
set_option linter.unusedSimpArgs false
set_option linter.unusedSectionVars false
set_option maxRecDepth 100000
namespace Go.V
open Go Go.Proofs
def scD (P : Program) (f : Nat) : Bool := match P.funcs[f]? with
  | some fn => match fn.resultTypes.toList with
    | [T] => (match TI.of P T with
      | some ⟨.int _, _, _, _, _⟩ => true
      | some ⟨.bool, _, _, _, _⟩ => true
      | some ⟨.str, _, _, _, _⟩ => true
      | _ => false)
    | _ => false
  | none => false
def fnD (P : Program) (f : Nat) : Option (Nat × Code × List ResultVar) := match P.funcs[f]? with
  | some fn => match fn.body with
    | some c => some (fn.ntmps, c, fn.results.toList)
    | none => none
  | none => none
def mkG (P : Program) : XG := ⟨fun t => TI.of P t, fun t => zfit P t, fun t => eqKinds P t, fnD P, scD P, fun _ => none, fun _ => none, fun _ => false⟩
def allCan (P : Program) : Bool := (List.range P.funcs.size).all fun f => match P.funcs[f]? with
  | some fn => fn.name != "runtime.NumGoroutine"
  | none => true
theorem mkG_good {P : Program} (h : allCan P = true) : XGood P (mkG P) := by
  refine ⟨fun h => h, fun h => h, fun h => h, ?_, fun h => (by cases h), fun h => (by cases h)⟩
  intro f n c rs hf
  have hf : fnD P f = some (n, c, rs) := hf
  unfold fnD at hf
  split at hf
  · rename_i fn hfn
    split at hf
    · rename_i c' hb
      cases hf
      refine ⟨?_, fn, hfn, hb, rfl, rfl⟩
      unfold allCan at h
      have hlt : f < P.funcs.size := by
        obtain ⟨h1, _⟩ := Array.getElem?_eq_some_iff.1 hfn
        exact h1
      have := (List.all_eq_true.1 h) f (List.mem_range.2 hlt)
      rw [hfn] at this
      unfold callable
      rw [hfn]
      simp only at this ⊢
      rw [this, hb]
      rfl
    · cases hf
  · cases hf
theorem can_all : allCan Tryz.prog = true := by kernel_rfl
theorem mixed_X : Tryz.prog.follows .mixedOrders = true := by kernel_rfl
def isT (r : Option XR) : Bool := match r with
  | some ⟨.d (.bool true), _, _, _⟩ => true
  | _ => false
theorem pure_of_isT {f k : Nat} (h : isT (xcall (mkG Tryz.prog) (xdraw (mkG Tryz.prog)) k f [] [] 0) = true) : PureR Tryz.prog f [] (.bool true) := by
  have hg := run_sound mixed_X (mkG_good can_all) k
  unfold isT at h
  split at h
  · rename_i nx own mv hr
    have := hg _ _ _ _ _ hr (by simp [Sym.los])
    exact pureR_of_callC (ds := []) this
  · cases h
theorem awake_run : isT (xcall (mkG Tryz.prog) (xdraw (mkG Tryz.prog)) 50 14 [] [] 0) = true := by kernel_rfl
theorem awake_R : PureR Tryz.prog 14 [] (.bool true) := pure_of_isT awake_run
end Go.V
namespace Go.V
open Go Go.Proofs
theorem capR_map {α : Type} {M : Nat} {row : α → List D} : ∀ {l : List α}, CapR M (l.map row) → ∀ x ∈ l, Caps M (row x)
  | [], _, x, hx => by cases hx
  | a :: l, h, x, hx => by
    simp only [List.map_cons, CapR] at h
    rcases List.mem_cons.1 hx with e | e
    · rw [e]; exact h.1
    · exact capR_map h.2 x e
theorem rows_decode {α : Type} {row : α → List D} {shs : List Sh} {d : D} (h : ∀ r, FitDs r shs → ∃ x, r = row x) (hf : FitD d (.sl shs)) : ∃ xs : List α, d = .sl (xs.map row) := by
  obtain ⟨xs, e, _, _⟩ := FitD.sl_decode (row := row) (good := fun _ => True) (fun r hr => by obtain ⟨x, e⟩ := h r hr; exact ⟨x, e, trivial⟩) hf
  exact ⟨xs, e⟩
theorem int_row {r : List D} (h : FitDs r [.int .i64]) : ∃ n : Int, r = [int n] := by
  obtain ⟨_, _, rfl, g1, r1⟩ := h.cons_decode
  obtain rfl := r1.nil_decode
  obtain ⟨a, rfl, _⟩ := g1.int_decode
  exact ⟨a, rfl⟩
theorem ints_dec {d : D} (h : FitD d (.sl [.int .i64])) : ∃ l, d = ints l := rows_decode (row := fun n : Int => [int n]) (fun r hr => int_row hr) h
theorem phon_row {r : List D} (h : FitDs r [.str, .int .i64]) : ∃ p : Phon, r = p.row := by
  obtain ⟨_, _, rfl, g1, r1⟩ := h.cons_decode
  obtain ⟨_, _, rfl, g2, r2⟩ := r1.cons_decode
  obtain rfl := r2.nil_decode
  obtain ⟨a, rfl, _⟩ := g1.str_decode
  obtain ⟨b, rfl, _⟩ := g2.int_decode
  exact ⟨⟨a, b⟩, rfl⟩
theorem grap_row {r : List D} (h : FitDs r [.str, .sl [.int .i64]]) : ∃ p : Grap, r = p.row := by
  obtain ⟨_, _, rfl, g1, r1⟩ := h.cons_decode
  obtain ⟨_, _, rfl, g2, r2⟩ := r1.cons_decode
  obtain rfl := r2.nil_decode
  obtain ⟨a, rfl, _⟩ := g1.str_decode
  obtain ⟨b, rfl⟩ := ints_dec g2
  exact ⟨⟨a, b⟩, rfl⟩
theorem str_row {r : List D} (h : FitDs r [.str]) : ∃ s : ByteArray, r = [.str s] := by
  obtain ⟨_, _, rfl, g1, r1⟩ := h.cons_decode
  obtain rfl := r1.nil_decode
  obtain ⟨a, rfl, _⟩ := g1.str_decode
  exact ⟨a, rfl⟩
theorem strs_row {r : List D} (h : FitDs r [.sl [.str]]) : ∃ l : List ByteArray, r = [.sl (l.map fun s => [.str s])] := by
  obtain ⟨_, _, rfl, g1, r1⟩ := h.cons_decode
  obtain rfl := r1.nil_decode
  obtain ⟨l, rfl⟩ := rows_decode (row := fun s : ByteArray => [D.str s]) (fun r hr => str_row hr) g1
  exact ⟨l, rfl⟩
theorem int2_row {r : List D} (h : FitDs r [.int .i64, .int .i64]) : ∃ a b : Int, r = [int a, int b] := by
  obtain ⟨_, _, rfl, g1, r1⟩ := h.cons_decode
  obtain ⟨_, _, rfl, g2, r2⟩ := r1.cons_decode
  obtain rfl := r2.nil_decode
  obtain ⟨a, rfl, _⟩ := g1.int_decode
  obtain ⟨b, rfl, _⟩ := g2.int_decode
  exact ⟨a, b, rfl⟩
theorem cls_dec {d : D} (h : FitD d (.sl [.int .i64, .int .i64])) : ∃ l, d = clsD l := rows_decode (row := Cls.row) (fun r hr => by obtain ⟨a, b, rfl⟩ := int2_row hr; exact ⟨⟨a, b⟩, rfl⟩) h
theorem rule_row {r : List D} (h : FitDs r [.sl [.int .i64], .sl [.int .i64], .sl [.int .i64, .int .i64], .sl [.int .i64, .int .i64], .bool, .bool]) : ∃ x : Rule, r = x.row := by
  obtain ⟨_, _, rfl, g1, r1⟩ := h.cons_decode
  obtain ⟨_, _, rfl, g2, r2⟩ := r1.cons_decode
  obtain ⟨_, _, rfl, g3, r3⟩ := r2.cons_decode
  obtain ⟨_, _, rfl, g4, r4⟩ := r3.cons_decode
  obtain ⟨_, _, rfl, g5, r5⟩ := r4.cons_decode
  obtain ⟨_, _, rfl, g6, r6⟩ := r5.cons_decode
  obtain rfl := r6.nil_decode
  obtain ⟨a, rfl⟩ := ints_dec g1
  obtain ⟨b, rfl⟩ := ints_dec g2
  obtain ⟨c, rfl⟩ := cls_dec g3
  obtain ⟨d, rfl⟩ := cls_dec g4
  obtain ⟨e, rfl⟩ := g5.bool_decode
  obtain ⟨f, rfl⟩ := g6.bool_decode
  exact ⟨⟨a, b, c, d, e, f⟩, rfl⟩
theorem stp_row {r : List D} (h : FitDs r [.int .i64, .int .i64, .int .i64]) : ∃ x : Stp, r = x.row := by
  obtain ⟨_, _, rfl, g1, r1⟩ := h.cons_decode
  obtain ⟨a, b, rfl⟩ := int2_row r1
  obtain ⟨c, rfl, _⟩ := g1.int_decode
  exact ⟨⟨c, a, b⟩, rfl⟩
theorem sens_row {r : List D} (h : FitDs r [.str, .str]) : ∃ x : Sens, r = x.row := by
  obtain ⟨_, _, rfl, g1, r1⟩ := h.cons_decode
  obtain ⟨b, rfl⟩ := str_row r1
  obtain ⟨a, rfl, _⟩ := g1.str_decode
  exact ⟨⟨a, b⟩, rfl⟩
theorem lists_dec {d : D} (h : FitD d (.sl [.sl [.int .i64]])) : ∃ l, d = listsD l := rows_decode (row := fun a : List Int => [ints a]) (fun r hr => by
  obtain ⟨_, _, rfl, g1, r1⟩ := hr.cons_decode
  obtain rfl := r1.nil_decode
  obtain ⟨a, rfl⟩ := ints_dec g1
  exact ⟨a, rfl⟩) h
abbrev entSh : List Sh := [.int .i64, .sl [.int .i64], .int .i64, .sl [.sl [.int .i64]], .int .i64, .sl [.str, .str], .sl [.int .i64, .int .i64], .sl [.int .i64, .int .i64]]
theorem ent_row {r : List D} (h : FitDs r entSh) : ∃ x : Ent, r = x.row := by
  obtain ⟨_, _, rfl, g1, r1⟩ := h.cons_decode
  obtain ⟨_, _, rfl, g2, r2⟩ := r1.cons_decode
  obtain ⟨_, _, rfl, g3, r3⟩ := r2.cons_decode
  obtain ⟨_, _, rfl, g4, r4⟩ := r3.cons_decode
  obtain ⟨_, _, rfl, g5, r5⟩ := r4.cons_decode
  obtain ⟨_, _, rfl, g6, r6⟩ := r5.cons_decode
  obtain ⟨_, _, rfl, g7, r7⟩ := r6.cons_decode
  obtain ⟨_, _, rfl, g8, r8⟩ := r7.cons_decode
  obtain rfl := r8.nil_decode
  obtain ⟨a, rfl, _⟩ := g1.int_decode
  obtain ⟨b, rfl⟩ := ints_dec g2
  obtain ⟨c, rfl, _⟩ := g3.int_decode
  obtain ⟨d, rfl⟩ := lists_dec g4
  obtain ⟨e, rfl, _⟩ := g5.int_decode
  obtain ⟨f, rfl⟩ := rows_decode (row := Sens.row) (fun r hr => sens_row hr) g6
  obtain ⟨k, rfl⟩ := rows_decode (row := Lnk.row) (fun r hr => by obtain ⟨a, b, rfl⟩ := int2_row hr; exact ⟨⟨a, b⟩, rfl⟩) g7
  obtain ⟨m, rfl⟩ := rows_decode (row := Rf.row) (fun r hr => by obtain ⟨a, b, rfl⟩ := int2_row hr; exact ⟨⟨a, b⟩, rfl⟩) g8
  exact ⟨⟨a, b, c, d, e, f, k, m⟩, rfl⟩
abbrev langSh : List Sh := [.sl [.str, .int .i64], .str, .sl [.str, .sl [.int .i64]], .sl [.sl [.str]], .sl [.sl [.int .i64], .sl [.int .i64], .sl [.int .i64, .int .i64], .sl [.int .i64, .int .i64], .bool, .bool], .int .i64, .sl [.int .i64, .int .i64, .int .i64], .sl [.int .i64], .sl entSh]
theorem lang_decode {l : List D} (h : FitDs l langSh) : ∃ g : Lang, D.agg l = g.d := by
  obtain ⟨_, _, rfl, g1, r1⟩ := h.cons_decode
  obtain ⟨_, _, rfl, g2, r2⟩ := r1.cons_decode
  obtain ⟨_, _, rfl, g3, r3⟩ := r2.cons_decode
  obtain ⟨_, _, rfl, g4, r4⟩ := r3.cons_decode
  obtain ⟨_, _, rfl, g5, r5⟩ := r4.cons_decode
  obtain ⟨_, _, rfl, g6, r6⟩ := r5.cons_decode
  obtain ⟨_, _, rfl, g7, r7⟩ := r6.cons_decode
  obtain ⟨_, _, rfl, g8, r8⟩ := r7.cons_decode
  obtain ⟨_, _, rfl, g9, r9⟩ := r8.cons_decode
  obtain rfl := r9.nil_decode
  obtain ⟨a, rfl⟩ := rows_decode (row := Phon.row) (fun r hr => phon_row hr) g1
  obtain ⟨b, rfl, _⟩ := g2.str_decode
  obtain ⟨c, rfl⟩ := rows_decode (row := Grap.row) (fun r hr => grap_row hr) g3
  obtain ⟨d, rfl⟩ := rows_decode (row := fun r : List ByteArray => [D.sl (r.map fun s => [.str s])]) (fun r hr => strs_row hr) g4
  obtain ⟨e, rfl⟩ := rows_decode (row := Rule.row) (fun r hr => rule_row hr) g5
  obtain ⟨f, rfl, _⟩ := g6.int_decode
  obtain ⟨k, rfl⟩ := rows_decode (row := Stp.row) (fun r hr => stp_row hr) g7
  obtain ⟨m, rfl⟩ := ints_dec g8
  obtain ⟨n, rfl⟩ := rows_decode (row := Ent.row) (fun r hr => ent_row hr) g9
  exact ⟨⟨a, ⟨b, c, d⟩, e, ⟨f, k, m⟩, n⟩, rfl⟩
theorem lang_caps {g : Lang} (h : CapT 1048576 g.d) : LangC g := by
  simp only [Lang.d, CapT, Caps, Cap, invD, unitsD, lettersD, rulesD, stepsD, ints, lexD, int, List.length_map, and_true] at h
  obtain ⟨⟨a1, a2⟩, b1, ⟨c1, c2⟩, ⟨d1, d2⟩, ⟨e1, e2⟩, _, ⟨k1, _⟩, ⟨m1, _⟩, n1, n2⟩ := h
  refine { inv := ⟨a1, fun p hp => ?_⟩, orth := ⟨b1, fun u hu => ?_, fun L hL => ?_, c1, d1⟩, rules := ⟨e1, fun r hr => ?_⟩, steps := k1, final := m1, lex := ⟨n1, fun e he => ?_⟩ }
  · have := capR_map a2 p hp
    simp only [Phon.row, Caps, Cap, int] at this
    exact this.1
  · have := capR_map c2 u hu
    simp only [Grap.row, Caps, Cap, int, ints, List.length_map] at this
    exact ⟨this.1, this.2.1.1⟩
  · have := capR_map d2 L hL
    simp only [Caps, Cap, List.length_map] at this
    refine ⟨this.1.1, fun s hs => ?_⟩
    have := capR_map this.1.2 s hs
    simp only [Caps, Cap] at this
    exact this.1
  · have := capR_map e2 r hr
    simp only [Rule.row, Caps, Cap, int, ints, List.length_map] at this
    exact ⟨this.1.1, this.2.1.1⟩
  · have := capR_map n2 e he
    simp only [Ent.row, Caps, Cap, int, ints, listsD, sensD, lnkD, rfD, List.length_map] at this
    obtain ⟨_, ⟨f1, _⟩, _, ⟨g1, g2⟩, _, ⟨s1, s2⟩, ⟨l1, _⟩, ⟨r1, _⟩, _⟩ := this
    refine ⟨f1, ⟨g1, fun w hw => ?_⟩, ⟨s1, fun s hs => ?_⟩, l1, r1⟩
    · have := capR_map g2 w hw
      simp only [Caps, Cap, List.length_map] at this
      exact this.1.1
    · have := capR_map s2 s hs
      simp only [Sens.row, Caps, Cap] at this
      exact ⟨this.1, this.2.1⟩
theorem ints_cap {l : List Int} (h : CapT 1048576 (ints l)) : l.length ≤ 1048576 := by
  simp only [CapT, ints, Cap, List.length_map] at h; exact h.1
theorem ana_cap {l : List Prt} (h : CapT 1048576 (anaD l)) : l.length ≤ 1048576 := by
  simp only [CapT, anaD, partsD, Caps, Cap, List.length_map] at h; exact h.1.1
theorem ana_dec {l : List D} (h : FitDs l [.sl prtSh]) : ∃ a, D.agg l = anaD a := by obtain ⟨a, e, _⟩ := ana_decode h; exact ⟨a, e⟩
end Go.V
namespace Go.V
open Go Go.Proofs
theorem among_ok (l : List (List Prt)) (a : List Prt) (hl : l.length < 2^62) (hs : ∀ x ∈ l, x.length < 2^62) : PureR Tryz.prog 28 [anasD l, anaD a] (.bool (decide (a ∈ l))) := by
  refine pure_of_body mixed Tryz.func28 rfl call_28 ?_
  simp [Tryz.f28, anasD, anaD]
  refine loop_rule mixed (fun k : Nat => { n := 17, next := 1, slots := [(3, .bp 0 0), (7, .d (anasD l)), (8, .d (.int .i64 l.length)), (9, .d (.int .i64 k))], own := [(0, .box 39 [.d (partsD a)])] })
    (fun k => k ≤ l.length ∧ a ∉ l.take k) (fun k => l.length - k) 0 (by simp) (by simp [anasD]) ?_
  intro k ⟨hk, hp⟩
  by_cases hlt : k < l.length
  · have e1 : l[k]? = some l[k] := List.getElem?_eq_getElem hlt
    simp (decide := true) [anasD, e1, hlt, I64]
    refine ECall.pure (by rfl) (sameAna_ok a l[k] (hs _ (List.getElem_mem hlt))) (by simp) ?_
    simp (decide := true) [anasD, I64]
    refine ⟨fun h => ?_, fun h => ⟨by omega, k + 1, ⟨hlt, ?_⟩, by omega, by omega⟩⟩
    · rw [h]; exact List.getElem_mem hlt
    · rw [take_snoc hlt, List.mem_append, not_or]; exact ⟨hp, by simpa using h⟩
  · have : k = l.length := by omega
    subst this
    simp (decide := true) [anasD]
    simpa using hp
end Go.V
