/- Contracts and plain laws of this seat: part MD. It needs no conditions. -/
import Derived.Test.YtknekjalbninmaaGreatMC
import Derived.Test.YtknekjalbninmaaGreatS3
import Derived.Test.YtknekjalbninmaaGreatSw
import Derived.Test.YtknekjalbninmaaGreatMA
import Derived.Test.YtknekjalbninmaaGreatMB
import GoSem.Core.Value
import Derived.Test.YtknekjalbninmaaGreatS1
import Derived.Test.YtknekjalbninmaaGreatSh
import Derived.Test.YtknekjalbninmaaGreatW2
import Derived.WalkKit
import Derived.Recover
set_option linter.unusedVariables false
set_option linter.unusedSimpArgs false
set_option linter.unusedSectionVars false
set_option maxRecDepth 100000
namespace Go.V
open Go
section
variable {P : Program} {ops : Array Oper} {Q : Exit → Act → World → Prop}
end
structure WaitOk (P : Program) (x y : Nat) (l : List Oper) : Prop where
  ne : x ≠ y
  xs : x < l.length
  ys : y < l.length
  free : ∀ o, l[x]? = some o → o.after = #[]
  plain : ∀ o ∈ l, o.guard = none ∧ (∀ cs b, o.op ≠ .select cs b)
  dep : ∀ (j : Nat) o, l[j]? = some o → (∃ e ∈ o.after.toList, e.on = y) → ∃ e ∈ o.after.toList, Region.binds .any e = true ∧ e.on = x
  apart : ∀ (j : Nat) o oy, l[j]? = some o → l[y]? = some oy → j ≠ y → (∀ e ∈ o.after.toList, e.on ≠ y) → (∀ e ∈ oy.after.toList, Region.binds .any e = true → e.on ≠ j) → oy.apart l.toArray o = true
  valx : ∀ ox, l[x]? = some ox → ∀ (a : Act) (w : World), ∃ u w1, (execOp a.eval ox).run P w = .ok (.value u) w1
  val : ∀ oy, l[y]? = some oy → ∀ a : Act, (∃ v, ∀ w, (execOp a.eval oy).run P w = .ok (.value v) w) ∨ ∀ w, ∃ h w1, (execOp a.eval oy).run P w = .halt (.stuck h) w1
section
variable {P : Program} {x y : Nat} {l : List Oper}
variable {p q : List Nat} {st : St}
end
end Go.V
namespace Go.V
open Go Go.Proofs
section
variable {P : Program} {st : St} {Q : DE → St → Prop}
end
end Go.V
namespace Go.V
open Go Go.Proofs
end Go.V
namespace Go.V
open Go Go.Proofs
end Go.V
namespace Go.V
open Go Go.Proofs
end Go.V
namespace Go.V
open Go Go.Proofs
def sN (g : Lang) (p : Prt) : Nat := (sensesE g.lex p.entry).length
end Go.V
namespace Go.V
open Go Go.Proofs
theorem PlainF.pos' {g : Lang} (hg : LightF g) {w : List Int} {b : List Prt} (h : PlainF g w b) : ∀ p ∈ b, 0 < sN g p := by
  intro p hp
  obtain ⟨e, he, alt, ha, rfl⟩ := (h.parts p hp).ok hg
  exact List.length_pos_iff.2 (hg.senses he)
end Go.V
namespace Go.V
open Go Go.Proofs
end Go.V
namespace Go.V
open Go Go.Proofs
def optI : Option Nat → Int
  | none => -1
  | some b => b
end Go.V
namespace Go.V
open Go Go.Proofs
end Go.V
namespace Go.V
open Go Go.Proofs
end Go.V
namespace Go.V
open Go Go.Proofs
theorem eqW_ok (a b : List Int) (hb : b.length < 2^62) : PureR Tryz.prog 158 [ints a, ints b] (.bool (decide (a = b))) := by
  refine pure_of_body mixed Tryz.func158 rfl call_158 ?_
  simp [Tryz.f158, ints]
  refine ⟨fun h e => h (by rw [e]), fun h => ?_⟩
  refine loop_rule mixed (fun k : Nat => { n := 26, next := 0, slots := [(0, .d (ints a)), (1, .d (ints b)), (12, .d (.int .i64 a.length)), (13, .d (.int .i64 k))], own := [] })
    (fun k => k ≤ a.length ∧ a.take k = b.take k) (fun k => a.length - k) 0 (by simp) (by simp [ints]) ?_
  intro k ⟨hk, hp⟩
  have h : a.length = b.length := by omega
  by_cases hlt : k < a.length
  · have e1 : a[k]? = some a[k] := List.getElem?_eq_getElem hlt
    have e2 : b[k]? = some (b[k]'(by omega)) := List.getElem?_eq_getElem (by omega)
    have hlt' : k < b.length := by omega
    simp (decide := true) [ints, int, e1, e2, hlt, hlt', I64]
    refine ⟨fun hne e => by subst e; simp at hne, fun he => ⟨by omega, k + 1, ⟨hlt, ?_⟩, by omega, by omega⟩⟩
    rw [take_snocG hlt, take_snocG hlt', hp, he]
  · have : k = a.length := by omega
    subst this
    simp (decide := true) [ints]
    rw [List.take_length, h, List.take_length] at hp
    exact hp
def begW (w s : List Int) : Bool := decide (s.length ≤ w.length) && decide (s = w.take s.length)
def unitW (us : List Grap) (w : List Int) : Nat → Option Nat
  | 0 => none
  | k + 1 => match us[k]? with
    | none => unitW us w k
    | some u => if begW w u.segs = true then (match unitW us w k with
        | none => some k
        | some b => if ((us[b]?.map fun v => v.segs.length).getD 0) < u.segs.length then some k else some b)
      else unitW us w k
theorem unitW_lt {us : List Grap} {w : List Int} : ∀ {k b : Nat}, unitW us w k = some b → ∃ v, us[b]? = some v ∧ begW w v.segs = true
  | 0, b, h => by cases h
  | k + 1, b, h => by
    unfold unitW at h
    split at h
    · exact unitW_lt h
    · rename_i u hu
      split at h
      · rename_i hb
        split at h
        · obtain rfl := Option.some.inj h; exact ⟨u, hu, hb⟩
        · rename_i b' hb'
          split at h
          · obtain rfl := Option.some.inj h; exact ⟨u, hu, hb⟩
          · obtain rfl := Option.some.inj h
            exact unitW_lt hb'
      · exact unitW_lt h
set_option maxHeartbeats 8000000 in
theorem unit57_ok (o : Orth) (ho : OrthC o) (w : List Int) (hw : w.length < 2^40) : PureR Tryz.prog 99 [.agg o.cells, ints w] (int (optI (unitW o.units w o.units.length))) := by
  have hfew := ho.few.1
  refine pure_of_body mixed Tryz.func99 rfl call_99 ?_
  simp (decide := true) [Tryz.f99, int, ints, unitsD, Orth.cells]
  refine loop_ruleT mixed (fun k : Nat => { n := 51, next := 1, slots := [(1, .d (ints w)), (2, .bp 0 0), (5, .d (int (optI (unitW o.units w k)))), (9, .d (unitsD o.units)), (10, .d (int o.units.length)), (11, .d (int k))], own := [(0, .box 28 (o.cells.map .d))] })
    (fun k => k ≤ o.units.length) (fun k => o.units.length - k) 0 (Nat.zero_le _) ?_ ?_
  · simp (decide := true) [int, ints, unitsD, Orth.cells, unitW, optI]
  intro k hk
  refine ev_sound mixed ?_
  by_cases hlt : k < o.units.length
  case neg =>
    have : k = o.units.length := by omega
    subst this
    simp (decide := true) [int, ints, unitsD, Orth.cells]
  have hlt' : (k : Int) < o.units.length := by omega
  obtain ⟨u, eu⟩ : ∃ u, o.units[k] = u := ⟨_, rfl⟩
  have eu1 : o.units[k]? = some u := by rw [List.getElem?_eq_getElem hlt, eu]
  have hus := (ho.units o.units[k] (List.getElem_mem hlt)).2
  rw [eu] at hus
  have hstep : unitW o.units w (k + 1) = if begW w u.segs = true then (match unitW o.units w k with
        | none => some k
        | some b => if ((o.units[b]?.map fun v => v.segs.length).getD 0) < u.segs.length then some k else some b)
      else unitW o.units w k := by rw [unitW, eu1]
  by_cases c1 : w.length < u.segs.length
  · have c1' : (w.length : Int) < u.segs.length := by omega
    have hb : begW w u.segs = false := by unfold begW; rw [decide_eq_false (by omega)]; rfl
    rw [hb, if_neg (by decide)] at hstep
    simp (decide := true) [int, ints, unitsD, Orth.cells, hlt, hlt', eu, eu1, Grap.row, I64, c1, c1']
    exact ⟨by omega, k + 1, hlt, by omega, by rw [hstep], by omega⟩
  have c1' : ¬ (w.length : Int) < u.segs.length := by omega
  have hE := eqW_ok u.segs (w.take u.segs.length) (by rw [List.length_take]; omega)
  have hbq : begW w u.segs = decide (u.segs = w.take u.segs.length) := by unfold begW; rw [decide_eq_true (by omega)]; rfl
  have c2 : u.segs.length ≤ w.length := by omega
  have c2' : (u.segs.length : Int) ≤ w.length := by omega
  rw [← hbq] at hE
  simp only [ints, List.map_take] at hE
  simp (decide := true) [int, ints, unitsD, Orth.cells, hlt, hlt', eu, eu1, Grap.row, I64, c1, c1', c2, c2']
  refine scall_pure (by rfl) (by rfl) hE (by simp [D.scalar]) ?_
  cases hb : begW w u.segs with
  | false =>
    rw [hb, if_neg (by decide)] at hstep
    simp (decide := true) [int, ints, unitsD, Orth.cells, hlt, hlt', eu, eu1, Grap.row, I64]
    exact ⟨by omega, k + 1, hlt, by omega, by rw [hstep], by omega⟩
  | true =>
    rw [hb, if_pos rfl] at hstep
    cases hbb : unitW o.units w k with
    | none =>
      rw [hbb] at hstep
      simp only at hstep
      simp (decide := true) [int, ints, unitsD, Orth.cells, hlt, hlt', eu, eu1, Grap.row, I64, optI]
      exact ⟨by omega, k + 1, hlt, by omega, by rw [hstep], by omega⟩
    | some b =>
      obtain ⟨v, ev1, _⟩ := unitW_lt hbb
      obtain ⟨hbl, ev⟩ := List.getElem?_eq_some_iff.1 ev1
      have hbl' : (b : Int) < o.units.length := by omega
      rw [hbb] at hstep
      simp only at hstep
      rw [ev1] at hstep
      simp only [Option.map_some, Option.getD_some] at hstep
      have hnb : ¬ (b : Int) < 0 := by omega
      by_cases hc : v.segs.length < u.segs.length
      · have hc' : (v.segs.length : Int) < u.segs.length := by omega
        rw [if_pos hc] at hstep
        simp (decide := true) [int, ints, unitsD, Orth.cells, hlt, hlt', eu, eu1, Grap.row, I64, optI, hbl, hbl', ev, ev1, hc, hc', hnb]
        exact ⟨by omega, k + 1, hlt, by omega, by rw [hstep], by omega⟩
      · have hc' : ¬ (v.segs.length : Int) < u.segs.length := by omega
        rw [if_neg hc] at hstep
        simp (decide := true) [int, ints, unitsD, Orth.cells, hlt, hlt', eu, eu1, Grap.row, I64, optI, hbl, hbl', ev, ev1, hc, hc', hnb]
        exact ⟨by omega, k + 1, hlt, by omega, by rw [hstep], by omega⟩
theorem writeF_ok (s : ByteArray) (hs : s.size < 2^40) :
    CallC Tryz.prog 100 [.bp 0 0, .d (.str s)] [(0, .box 166 [.d (.val (.pointer none)), .nils])] 1 (.tup [.d (int s.size), .d (.val .nilIface)]) 2 [(1, .arr 5 1 (strRows s)), (0, .box 166 [.bp 0 0, .ar 1])] [1] := by
  have hC : CallC Tryz.prog 159 [.bp 0 0] [(0, .box 166 [.d (.val (.pointer none)), .nils])] 1 (.d (.tup [])) 1 [(0, .box 166 [.bp 0 0, .nils])] [] := bld_fresh (by rfl) cc_fresh
  refine callC_of_body mixed Tryz.func100 rfl call_100 (by simp [Sym.los, Sym.lo]) ?_
  simp (decide := true) [Tryz.f100, int]
  refine ECall.mut [0] [.bp 0 0] [(0, .box 166 [.d (.val (.pointer none)), .nils])] (by rfl) (by simp) (by simp) (by simp) hC ?_
  simp (decide := true) [int, maxLen]
  exact ⟨by omega, by omega⟩
theorem writeU_ok (s : ByteArray) (rows : List (List D)) (hs : rows.length + s.size < 2^40) :
    CallC Tryz.prog 100 [.bp 0 0, .d (.str s)] [(0, .box 166 [.bp 0 0, .ar 1]), (1, .arr 5 1 rows)] 2 (.tup [.d (int s.size), .d (.val .nilIface)]) 2 [(0, .box 166 [.bp 0 0, .ar 1]), (1, .arr 5 1 (rows ++ strRows s))] [1] := by
  have hC : CallC Tryz.prog 159 [.bp 0 0] [(0, .box 166 [.bp 0 0, .ar 1]), (1, .arr 5 1 rows)] 2 (.d (.tup [])) 2 [(0, .box 166 [.bp 0 0, .ar 1]), (1, .arr 5 1 rows)] [] := bld_used (by rfl) cc_used _ _ _
  refine callC_of_body mixed Tryz.func100 rfl call_100 (by simp [Sym.los, Sym.lo]) ?_
  simp (decide := true) [Tryz.f100, int]
  refine ECall.mut [0, 1] [.bp 0 0] [(0, .box 166 [.bp 0 0, .ar 1]), (1, .arr 5 1 rows)] (by rfl) (by simp) (by simp) (by simp; rfl) hC ?_
  simp (decide := true) [int, maxLen]
  exact ⟨by omega, by omega⟩
theorem strB_ok (s : ByteArray) (hs : s.size ≠ 0) :
    CallC Tryz.prog 101 [.bp 0 0] [(0, .box 166 [.bp 0 0, .ar 1]), (1, .arr 5 1 (strRows s))] 2 (.d (.str s)) 2 [] [] := bld_string Tryz.bldStr bldX (by rfl) s hs
theorem strRows_app (a b : ByteArray) : strRows (a ++ b) = strRows a ++ strRows b := by
  unfold strRows
  simp [ByteArray.data_append]
def spellGo (us : List Grap) (w : List Int) : Nat → Nat → ByteArray → ByteArray × Int × Int
  | 0, _, _ => (.empty, 0, 0)
  | f + 1, at_, acc => if at_ < w.length then (match unitW us (w.drop at_) us.length with
      | none => (.empty, at_, 20)
      | some b => spellGo us w f (at_ + ((us[b]?.map fun v => v.segs.length).getD 0)) (acc ++ ((us[b]?.map fun v => v.graph).getD .empty)))
    else (acc, 0, 0)
def spellE (us : List Grap) (w : List Int) : ByteArray × Int × Int :=
  if w.length = 0 then (.empty, 0, 4) else if 24 < w.length then (.empty, 0, 5) else spellGo us w (w.length + 1) 0 .empty
theorem spellGo_size {us : List Grap} (hu : ∀ u ∈ us, UnitF u) {w : List Int} : ∀ {f at_ : Nat} {acc : ByteArray}, acc.size ≤ 32 * at_ → at_ ≤ w.length → (spellGo us w f at_ acc).1.size ≤ 32 * w.length
  | 0, _, _, _, _ => by simp [spellGo]
  | f + 1, at_, acc, h, hat => by
    unfold spellGo
    split
    · split
      · simp
      · rename_i b hb
        obtain ⟨v, hv, hbeg⟩ := unitW_lt hb
        have hF := hu v (List.mem_of_getElem? hv)
        have hl : v.segs.length ≤ (w.drop at_).length := by
          unfold begW at hbeg
          rw [Bool.and_eq_true, decide_eq_true_eq] at hbeg
          exact hbeg.1
        rw [List.length_drop] at hl
        rw [hv]
        refine spellGo_size hu ?_ ?_
        · have := hF.size; have := hF.segs
          rw [ByteArray.size_append]
          simp only [Option.map_some, Option.getD_some]
          omega
        · simp only [Option.map_some, Option.getD_some]
          omega
    · have : acc.size ≤ 32 * w.length := by omega
      exact this
theorem spellE_size {us : List Grap} (hu : ∀ u ∈ us, UnitF u) (w : List Int) : (spellE us w).1.size ≤ 768 := by
  unfold spellE
  split
  · simp
  · split
    · simp
    · have := spellGo_size hu (w := w) (f := w.length + 1) (at_ := 0) (acc := .empty) (by simp) (by omega)
      omega
set_option maxHeartbeats 16000000 in
theorem spell_ok (o : Orth) (ho : OrthC o) (hu : ∀ u ∈ o.units, UnitF u) (w : List Int) (hw : w.length < 2^40) :
    PureR Tryz.prog 43 [.agg o.cells, ints w] (.tup [.str (spellE o.units w).1, int (spellE o.units w).2.1, int (spellE o.units w).2.2]) := by
  refine pure_of_body mixed Tryz.func43 rfl call_43 ?_
  by_cases c0 : w.length = 0
  · have : w = [] := List.eq_nil_of_length_eq_zero c0
    subst this
    simp (decide := true) [Tryz.f43, int, ints, Orth.cells, spellE]
  have c0' : ¬ (w.length : Int) = 0 := by omega
  by_cases c1 : 24 < w.length
  · have c1' : (24 : Int) < w.length := by omega
    have hsp : spellE o.units w = (.empty, 0, 5) := by unfold spellE; rw [if_neg c0, if_pos c1]
    rw [hsp]
    simp (decide := true) [Tryz.f43, int, ints, Orth.cells, c0, c0', c1, c1']
  have c1' : ¬ (24 : Int) < w.length := by omega
  have hsp : spellE o.units w = spellGo o.units w (w.length + 1) 0 .empty := by unfold spellE; rw [if_neg c0, if_neg c1]
  simp (decide := true) [Tryz.f43, int, ints, Orth.cells, c0, c0', c1, c1']
  refine loop_ruleT mixed (fun x : Bool × Nat × Nat × ByteArray => if x.1 = true
      then { n := 45, next := 2, slots := [(1, .d (ints w)), (2, .bp 0 0), (7, .bp 1 0), (8, .d (int x.2.2.1))], own := [(0, .box 28 (o.cells.map .d)), (1, .box 166 [.d (.val (.pointer none)), .nils])] }
      else { n := 45, next := 3, slots := [(1, .d (ints w)), (2, .bp 0 0), (7, .bp 1 0), (8, .d (int x.2.2.1))], own := [(0, .box 28 (o.cells.map .d)), (1, .box 166 [.bp 1 0, .ar 2]), (2, .arr 5 1 (strRows x.2.2.2))], moved := [2] })
    (fun x => x.2.2.1 ≤ w.length ∧ w.length < x.2.2.1 + x.2.1 ∧ spellGo o.units w x.2.1 x.2.2.1 x.2.2.2 = spellE o.units w ∧ x.2.2.2.size ≤ 32 * x.2.2.1 ∧ (x.1 = true → x.2.2.1 = 0 ∧ x.2.2.2 = .empty) ∧ (x.1 = false → x.2.2.2.size ≠ 0)) (fun x => w.length - x.2.2.1)
    (true, w.length + 1, 0, .empty) ⟨by simp, by simp, hsp.symm, by simp, by simp, by simp⟩ ?_ ?_
  · simp (decide := true) [int, ints, Orth.cells]
  rintro ⟨fr, f, at_, acc⟩ ⟨hat, hf, hgo, hsz, hfr, hus⟩
  simp only at hat hf hgo hsz hfr hus
  refine ev_sound mixed ?_
  obtain ⟨f, rfl⟩ : ∃ f', f = f' + 1 := ⟨f - 1, by omega⟩
  unfold spellGo at hgo
  by_cases hlt : at_ < w.length
  case neg =>
    have hlt' : ¬ (at_ : Int) < w.length := by omega
    rw [if_neg hlt] at hgo
    cases fr with
    | true => have := (hfr rfl).1; omega
    | false =>
      rw [← hgo]
      simp (decide := true) [int, ints, hlt, hlt', Orth.cells]
      refine ECall.mut [1, 2] [.bp 0 0] [(0, .box 166 [.bp 0 0, .ar 1]), (1, .arr 5 1 (strRows acc))] (by rfl) (by simp) (by simp) (by simp; rfl) (strB_ok acc (hus rfl)) ?_
      simp (decide := true) [int]
  rw [if_pos hlt] at hgo
  have hlt' : (at_ : Int) < w.length := by omega
  have hU := unit57_ok o ho (w.drop at_) (by rw [List.length_drop]; omega)
  simp only [ints, List.map_drop] at hU
  have htk : List.take w.length (w.map fun n => [D.int .i64 n]) = w.map fun n => [D.int .i64 n] := List.take_of_length_le (by simp)
  cases hb : unitW o.units (w.drop at_) o.units.length with
  | none =>
    rw [hb] at hgo hU
    simp only at hgo
    simp only [optI] at hU
    rw [← hgo]
    cases fr with
    | true =>
      simp (decide := true) [int, ints, hlt, hlt', hat, htk, Orth.cells]
      refine scall_pure (by rfl) (by rfl) hU (by simp [D.scalar, Orth.cells]) ?_
      simp (decide := true) [int, ints, hlt, hlt', Orth.cells]
    | false =>
      simp (decide := true) [int, ints, hlt, hlt', hat, htk, Orth.cells]
      refine scall_pure (by rfl) (by rfl) hU (by simp [D.scalar, Orth.cells]) ?_
      simp (decide := true) [int, ints, hlt, hlt', Orth.cells]
  | some b =>
    obtain ⟨v, ev1, hbeg⟩ := unitW_lt hb
    obtain ⟨hbl, ev⟩ := List.getElem?_eq_some_iff.1 ev1
    have hbl' : (b : Int) < o.units.length := by omega
    have hnb : ¬ (b : Int) < 0 := by omega
    have hF := hu v (List.mem_of_getElem? ev1)
    have hv32 := hF.size
    have hv0 := hF.pos
    have hv1 := hF.segs
    have hvl : v.segs.length ≤ w.length - at_ := by
      unfold begW at hbeg
      rw [Bool.and_eq_true, decide_eq_true_eq, List.length_drop] at hbeg
      exact hbeg.1
    rw [hb] at hgo hU
    simp only [ev1, Option.map_some, Option.getD_some] at hgo
    simp only [optI] at hU
    have hinv : (acc ++ v.graph).size ≤ 32 * (at_ + v.segs.length) := by rw [ByteArray.size_append]; omega
    have hne : (acc ++ v.graph).size ≠ 0 := by rw [ByteArray.size_append]; omega
    cases fr with
    | true =>
      obtain ⟨h0, hacc⟩ := hfr rfl
      subst hacc
      simp (decide := true) [int, ints, hlt, hlt', hat, htk, Orth.cells]
      refine scall_pure (by rfl) (by rfl) hU (by simp [D.scalar, Orth.cells]) ?_
      simp (decide := true) [int, ints, hlt, hlt', Orth.cells, unitsD, Grap.row, hbl, hbl', ev, ev1, hnb]
      refine ECall.mut [1] [.bp 0 0, .d (.str v.graph)] [(0, .box 166 [.d (.val (.pointer none)), .nils])] (by rfl) (by simp) (by simp) (by simp) (writeF_ok v.graph (by omega)) ?_
      simp (decide := true) [int, ints, hlt, hlt', Orth.cells, unitsD, Grap.row, hbl, hbl', ev, ev1, hnb, I64]
      exact ⟨⟨by omega, by omega⟩, f, at_ + v.segs.length, ByteArray.empty ++ v.graph, ⟨by omega, by omega, hgo, hinv, fun e => hne (by rw [e]; rfl)⟩, by omega, by omega, by simp⟩
    | false =>
      simp (decide := true) [int, ints, hlt, hlt', hat, htk, Orth.cells]
      refine scall_pure (by rfl) (by rfl) hU (by simp [D.scalar, Orth.cells]) ?_
      simp (decide := true) [int, ints, hlt, hlt', Orth.cells, unitsD, Grap.row, hbl, hbl', ev, ev1, hnb]
      refine ECall.mut [1, 2] [.bp 0 0, .d (.str v.graph)] [(0, .box 166 [.bp 0 0, .ar 1]), (1, .arr 5 1 (strRows acc))] (by rfl) (by simp) (by simp) (by simp; rfl) (writeU_ok v.graph (strRows acc) (by rw [strRows_len]; omega)) ?_
      simp (decide := true) [int, ints, hlt, hlt', Orth.cells, unitsD, Grap.row, hbl, hbl', ev, ev1, hnb, I64]
      exact ⟨⟨by omega, by omega⟩, f, at_ + v.segs.length, acc ++ v.graph, ⟨by omega, by omega, hgo, hinv, fun e => hne (by rw [e]; rfl)⟩, by omega, by omega, (strRows_app _ _).symm⟩
end Go.V
namespace Go.V
open Go Go.Proofs
theorem starts_ok (w : List Int) (at_ : Nat) (u : Grap) (hw : w.length < 2^40) (hat : at_ ≤ w.length) (hs : u.segs.length < 2^40) : PureR Tryz.prog 108 [ints w, int at_, .agg u.row] (.bool (begW (w.drop at_) u.segs)) := by
  refine pure_of_body mixed Tryz.func108 rfl call_108 ?_
  by_cases c1 : w.length - at_ < u.segs.length
  · have c1' : (w.length : Int) - at_ < u.segs.length := by omega
    have hb : begW (w.drop at_) u.segs = false := by unfold begW; rw [List.length_drop, decide_eq_false (by omega)]; rfl
    simp (decide := true) [Tryz.f108, int, ints, Grap.row, hb, c1, c1', I64]
    exact ⟨by omega, by omega⟩
  have c1' : ¬ (w.length : Int) - at_ < u.segs.length := by omega
  simp (decide := true) [Tryz.f108, int, ints, Grap.row, c1, c1', I64]
  refine ⟨⟨by omega, by omega⟩, ?_⟩
  refine loop_ruleT mixed (fun k : Nat => { n := 35, next := 1, slots := [(0, .d (ints w)), (1, .d (int at_)), (5, .bp 0 0), (7, .d (int k))], own := [(0, .box 143 [.d (.str u.graph), .d (ints u.segs)])] })
    (fun k => k ≤ u.segs.length ∧ u.segs.take k = (w.drop at_).take k) (fun k => u.segs.length - k) 0 ⟨Nat.zero_le _, by simp⟩ ?_ ?_
  · simp (decide := true) [int, ints]
  rintro k ⟨hk, hp⟩
  refine ev_sound mixed ?_
  by_cases hlt : k < u.segs.length
  · have hlt' : (k : Int) < u.segs.length := by omega
    have hw1 : at_ + k < w.length := by omega
    have hw1' : (at_ : Int) + k < w.length := by omega
    have e1 : u.segs[k]? = some u.segs[k] := List.getElem?_eq_getElem hlt
    have e2 : w[at_ + k]? = some w[at_ + k] := List.getElem?_eq_getElem hw1
    have jn : ((at_ : Int) + k).toNat = at_ + k := by omega
    have hd : (w.drop at_)[k]? = some w[at_ + k] := by rw [List.getElem?_drop, e2]
    have j0 : ¬ ((at_ : Int) + k < 0) := by omega
    by_cases he : w[at_ + k] = u.segs[k]
    · simp (decide := true) [int, ints, hlt, hlt', hw1, hw1', e1, e2, jn, j0, he, I64]
      refine ⟨⟨by omega, by omega⟩, by omega, ⟨by omega, by omega⟩, k + 1, ⟨hlt, ?_⟩, by omega, by omega⟩
      rw [List.take_add_one, List.take_add_one, hp, e1, hd, he]
    · have hb : begW (w.drop at_) u.segs = false := by
        unfold begW
        rw [Bool.and_eq_false_iff]
        right
        refine decide_eq_false fun e => he ?_
        have := congrArg (fun l => l[k]?) e
        simp only [List.getElem?_take, if_pos hlt, hd, e1, Option.some.injEq] at this
        exact this.symm
      simp (decide := true) [int, ints, hlt, hlt', hw1, hw1', e1, e2, jn, j0, he, hb, I64]
      exact ⟨⟨by omega, by omega⟩, by omega⟩
  · have : k = u.segs.length := by omega
    subst this
    rw [List.take_length] at hp
    have hb : begW (w.drop at_) u.segs = true := by
      unfold begW
      rw [List.length_drop, decide_eq_true (by omega), ← hp, decide_eq_true rfl]; rfl
    simp (decide := true) [int, ints, hb]
set_option maxHeartbeats 16000000 in
theorem refSpell_ok (o : Orth) (ho : OrthC o) (hu : ∀ u ∈ o.units, UnitF u) (w : List Int) (hw : w.length < 2^40) :
    PureR Tryz.prog 48 [.agg o.cells, ints w] (.tup [.str (spellE o.units w).1, int (spellE o.units w).2.1, int (spellE o.units w).2.2]) := by
  have hfew := ho.few.1
  refine pure_of_body mixed Tryz.func48 rfl call_48 ?_
  by_cases c0 : w.length = 0
  · have : w = [] := List.eq_nil_of_length_eq_zero c0
    subst this
    simp (decide := true) [Tryz.f48, int, ints, Orth.cells, spellE]
  have c0' : ¬ (w.length : Int) = 0 := by omega
  by_cases c1 : 24 < w.length
  · have c1' : (24 : Int) < w.length := by omega
    have hsp : spellE o.units w = (.empty, 0, 5) := by unfold spellE; rw [if_neg c0, if_pos c1]
    rw [hsp]
    simp (decide := true) [Tryz.f48, int, ints, Orth.cells, c0, c0', c1, c1']
  have c1' : ¬ (24 : Int) < w.length := by omega
  have hsp : spellE o.units w = spellGo o.units w (w.length + 1) 0 .empty := by unfold spellE; rw [if_neg c0, if_neg c1]
  simp (decide := true) [Tryz.f48, int, ints, Orth.cells, c0, c0', c1, c1']
  refine loop_ruleT mixed (fun x : Nat × Nat × ByteArray => { n := 79, next := 1, slots := [(1, .d (ints w)), (2, .bp 0 0), (7, .d (.str x.2.2)), (8, .d (int x.2.1))], own := [(0, .box 28 (o.cells.map .d))] })
    (fun x => x.2.1 ≤ w.length ∧ w.length < x.2.1 + x.1 ∧ spellGo o.units w x.1 x.2.1 x.2.2 = spellE o.units w ∧ x.2.2.size ≤ 32 * x.2.1) (fun x => w.length - x.2.1)
    (w.length + 1, 0, .empty) ⟨by simp, by simp, hsp.symm, by simp⟩ ?_ ?_
  · simp (decide := true) [int, ints, Orth.cells]
  rintro ⟨f, at_, acc⟩ ⟨hat, hf, hgo, hsz⟩
  simp only at hat hf hgo hsz
  refine ev_sound mixed ?_
  obtain ⟨f, rfl⟩ : ∃ f', f = f' + 1 := ⟨f - 1, by omega⟩
  unfold spellGo at hgo
  by_cases hlt : at_ < w.length
  case neg =>
    have hlt' : ¬ (at_ : Int) < w.length := by omega
    rw [if_neg hlt] at hgo
    rw [← hgo]
    simp (decide := true) [int, ints, hlt, hlt', Orth.cells]
  rw [if_pos hlt] at hgo
  have hlt' : (at_ : Int) < w.length := by omega
  simp (decide := true) [int, ints, hlt, hlt', Orth.cells]
  refine loop_ruleT mixed (fun k : Nat => { n := 79, next := 1, slots := [(1, .d (ints w)), (2, .bp 0 0), (7, .d (.str acc)), (8, .d (int at_)), (9, .d (int (optI (unitW o.units (w.drop at_) k)))), (10, .d (int k))], own := [(0, .box 28 (o.cells.map .d))] })
    (fun k => k ≤ o.units.length) (fun k => o.units.length - k) 0 (Nat.zero_le _) ?_ ?_
  · simp (decide := true) [int, ints, Orth.cells, unitW, optI]
  intro k hk
  refine ev_sound mixed ?_
  by_cases hkl : k < o.units.length
  · have hkl' : (k : Int) < o.units.length := by omega
    obtain ⟨u, eu⟩ : ∃ u, o.units[k] = u := ⟨_, rfl⟩
    have eu1 : o.units[k]? = some u := by rw [List.getElem?_eq_getElem hkl, eu]
    have hus := (hu o.units[k] (List.getElem_mem hkl)).few
    rw [eu] at hus
    have hS := starts_ok w at_ u hw hat (by omega)
    have hstep : unitW o.units (w.drop at_) (k + 1) = if begW (w.drop at_) u.segs = true then (match unitW o.units (w.drop at_) k with
        | none => some k
        | some b => if ((o.units[b]?.map fun v => v.segs.length).getD 0) < u.segs.length then some k else some b)
      else unitW o.units (w.drop at_) k := by simp only [unitW, eu1] <;> rfl
    cases hb : begW (w.drop at_) u.segs with
    | false =>
      rw [hb] at hstep hS
      rw [if_neg (by decide)] at hstep
      simp (decide := true) [int, ints, unitsD, Orth.cells, hkl, hkl', eu, eu1, Grap.row, I64]
      refine scall_pure (by rfl) (by rfl) hS (by simp [D.scalar, Grap.row]) ?_
      simp (decide := true) [int, ints, unitsD, Orth.cells, hkl, hkl', eu, eu1, Grap.row, I64]
      exact ⟨by omega, k + 1, hkl, by omega, by rw [hstep], by omega⟩
    | true =>
      rw [hb] at hstep hS
      rw [if_pos rfl] at hstep
      cases hbb : unitW o.units (w.drop at_) k with
      | none =>
        rw [hbb] at hstep
        simp only at hstep
        simp (decide := true) [int, ints, unitsD, Orth.cells, hkl, hkl', eu, eu1, Grap.row, I64, optI]
        refine scall_pure (by rfl) (by rfl) hS (by simp [D.scalar, Grap.row]) ?_
        simp (decide := true) [int, ints, unitsD, Orth.cells, hkl, hkl', eu, eu1, Grap.row, I64, optI]
        exact ⟨by omega, k + 1, hkl, by omega, by rw [hstep], by omega⟩
      | some b =>
        obtain ⟨v, ev1, _⟩ := unitW_lt hbb
        obtain ⟨hbl, ev⟩ := List.getElem?_eq_some_iff.1 ev1
        have hbl' : (b : Int) < o.units.length := by omega
        rw [hbb] at hstep
        simp only at hstep
        rw [ev1] at hstep
        simp only [Option.map_some, Option.getD_some] at hstep
        have hnb : ¬ (b : Int) < 0 := by omega
        by_cases hc : v.segs.length < u.segs.length
        · have hc' : (v.segs.length : Int) < u.segs.length := by omega
          rw [if_pos hc] at hstep
          simp (decide := true) [int, ints, unitsD, Orth.cells, hkl, hkl', eu, eu1, Grap.row, I64, optI, hbl, hbl', ev, ev1, hc, hc', hnb]
          refine scall_pure (by rfl) (by rfl) hS (by simp [D.scalar, Grap.row]) ?_
          simp (decide := true) [int, ints, unitsD, Orth.cells, hkl, hkl', eu, eu1, Grap.row, I64, optI, hbl, hbl', ev, ev1, hc, hc', hnb]
          exact ⟨by omega, k + 1, hkl, by omega, by rw [hstep], by omega⟩
        · have hc' : ¬ (v.segs.length : Int) < u.segs.length := by omega
          rw [if_neg hc] at hstep
          simp (decide := true) [int, ints, unitsD, Orth.cells, hkl, hkl', eu, eu1, Grap.row, I64, optI, hbl, hbl', ev, ev1, hc, hc', hnb]
          refine scall_pure (by rfl) (by rfl) hS (by simp [D.scalar, Grap.row]) ?_
          simp (decide := true) [int, ints, unitsD, Orth.cells, hkl, hkl', eu, eu1, Grap.row, I64, optI, hbl, hbl', ev, ev1, hc, hc', hnb]
          exact ⟨by omega, k + 1, hkl, by omega, by rw [hstep], by omega⟩
  · have : k = o.units.length := by omega
    subst this
    cases hb : unitW o.units (w.drop at_) o.units.length with
    | none =>
      rw [hb] at hgo
      simp only at hgo
      rw [← hgo]
      simp (decide := true) [int, ints, unitsD, Orth.cells, optI]
    | some b =>
      obtain ⟨v, ev1, hbeg⟩ := unitW_lt hb
      obtain ⟨hbl, ev⟩ := List.getElem?_eq_some_iff.1 ev1
      have hbl' : (b : Int) < o.units.length := by omega
      have hnb : ¬ (b : Int) < 0 := by omega
      have hF := hu v (List.mem_of_getElem? ev1)
      have hv32 := hF.size
      have hv1 := hF.segs
      have hvl : v.segs.length ≤ w.length - at_ := by
        unfold begW at hbeg
        rw [Bool.and_eq_true, decide_eq_true_eq, List.length_drop] at hbeg
        exact hbeg.1
      rw [hb] at hgo
      simp only [ev1, Option.map_some, Option.getD_some] at hgo
      have hinv : (acc ++ v.graph).size ≤ 32 * (at_ + v.segs.length) := by rw [ByteArray.size_append]; omega
      simp (decide := true) [int, ints, unitsD, Orth.cells, optI, Grap.row, hbl, hbl', ev, ev1, hnb, I64]
      exact ⟨by omega, ⟨by omega, by omega⟩, f, at_ + v.segs.length, acc ++ v.graph, ⟨by omega, by omega, hgo, hinv⟩, by omega, rfl, by omega⟩
end Go.V
namespace Go.V
open Go Go.Proofs
def strsZ (l : List ByteArray) : D := .sl (l.map fun s => [.str s])
def wordZ (l : List Ent) (p : Prt) : List Int := ((getE l p.entry).1.forms[p.alt.toNat]?).getD []
def glossZ (l : List Ent) (p : Prt) : ByteArray := ((sensesE l p.entry)[p.sense.toNat]?.map fun s => s.gloss).getD .empty
def linesGo (g : Lang) : List Prt → List ByteArray → List ByteArray → List ByteArray × List ByteArray × Int
  | [], x, y => (x, y, 0)
  | p :: ps, x, y => if (spellE g.orth.units (wordZ g.lex p)).2.2 ≠ 0 then ([], [], (spellE g.orth.units (wordZ g.lex p)).2.2)
      else linesGo g ps (x ++ [(spellE g.orth.units (wordZ g.lex p)).1]) (y ++ [glossZ g.lex p])
def linesE (g : Lang) (ps : List Prt) : List ByteArray × List ByteArray × Int :=
  if rightE g ps ≠ 0 then ([], [], rightE g ps) else linesGo g ps [] []
theorem partsZ : ∀ {l : List Ent} {ps : List Prt}, partsE l ps = 0 → ∀ p ∈ ps, partE l p = 0
  | l, [], _, p, hp => by cases hp
  | l, q :: ps, h, p, hp => by
    unfold partsE at h
    split at h
    · rename_i hq
      rcases List.mem_cons.1 hp with rfl | hp
      · exact hq
      · exact partsZ h p hp
    · rename_i hq; exact absurd h hq
theorem rightZ {g : Lang} {ps : List Prt} (h : rightE g ps = 0) : ps.length ≤ 4 ∧ ∀ p ∈ ps, partE g.lex p = 0 := by
  unfold rightE at h
  split at h
  · cases h
  · split at h
    · cases h
    · split at h
      · rename_i h3; exact absurd h h3
      · rename_i h2 h3
        exact ⟨by omega, partsZ (by simpa using h3)⟩
theorem partZ {l : List Ent} {p : Prt} (h : partE l p = 0) : (getE l p.entry).2 = true ∧ 0 ≤ p.alt ∧ p.alt < (getE l p.entry).1.forms.length ∧ 0 ≤ p.sense ∧ p.sense < (sensesE l p.entry).length := by
  unfold partE at h
  split at h
  · cases h
  · rename_i h1
    split at h
    · cases h
    · rename_i h2
      split at h
      · cases h
      · rename_i h3
        unfold formE at h2
        split at h2
        · rename_i h4
          exact ⟨by simpa using h1, h4.2.1, h4.2.2, by omega, by omega⟩
        · simp at h2
theorem linesGo_drop {g : Lang} {ps : List Prt} {k : Nat} {x y : List ByteArray} (h : k < ps.length) : linesGo g (ps.drop k) x y = if (spellE g.orth.units (wordZ g.lex ps[k])).2.2 ≠ 0 then ([], [], (spellE g.orth.units (wordZ g.lex ps[k])).2.2)
      else linesGo g (ps.drop (k + 1)) (x ++ [(spellE g.orth.units (wordZ g.lex ps[k])).1]) (y ++ [glossZ g.lex ps[k]]) := by
  rw [List.drop_eq_getElem_cons h]; rfl
def strRow (l : List ByteArray) : List (List D) := l.map fun s => [.str s]
set_option maxHeartbeats 32000000 in
theorem lines_ok (g : Lang) (hL : LightF g) (hg : LangC g) (ps : List Prt) (hp : ps.length < 2^20) :
    PureR Tryz.prog 14 [g.d, anaD ps] (.tup [strsZ (linesE g ps).1, strsZ (linesE g ps).2.1, int (linesE g ps).2.2]) := by
  have hR := hL.langR hg
  have hX := hR.toLangOk
  have hRt := right29_ok g hX ps hp
  refine pure_of_body mixed Tryz.func14 rfl call_14 ?_
  unfold linesE
  simp (decide := true) [Tryz.f14, int, Lang.d, anaD, unAgg]
  refine ECall.pure (by rfl) hRt (by simp [Lang.d, anaD, unAgg, int]) ?_
  by_cases h0 : rightE g ps = 0
  case neg => simp (decide := true) [int, h0, strsZ]
  obtain ⟨h4, hpz⟩ := rightZ h0
  obtain ⟨E, hE⟩ : ∃ E, linesGo g ps [] [] = E := ⟨_, rfl⟩
  simp (decide := true) [int, h0, hE, partsD]
  refine loop_ruleT mixed (fun x : Nat × List ByteArray × List ByteArray => { n := 74, next := 6, slots := [(2, .bp 0 0), (3, .bp 1 0), (8, .ar 4), (9, .ar 5), (24, .d (partsD ps)), (25, .d (int ps.length)), (26, .d (int x.1))], own := [(0, .box 36 (unAgg g.d)), (1, .box 39 [.d (partsD ps)]), (4, .arr 9 1 (strRow x.2.1)), (5, .arr 9 1 (strRow x.2.2))], moved := [4, 5] })
    (fun x => x.1 ≤ ps.length ∧ x.2.1.length = x.1 ∧ x.2.2.length = x.1 ∧ linesGo g (ps.drop x.1) x.2.1 x.2.2 = E) (fun x => ps.length - x.1) (0, [], []) ⟨Nat.zero_le _, rfl, rfl, by rw [List.drop_zero]; exact hE⟩ ?_ ?_
  · simp (decide := true) [int, partsD, unAgg, Lang.d, strRow]
  rintro ⟨k, x, y⟩ ⟨hk, hx, hy, hgo⟩
  simp only at hk hx hy hgo
  refine ev_sound mixed ?_
  by_cases hlt : k < ps.length
  case neg =>
    have : k = ps.length := by omega
    rw [this, List.drop_length] at hgo
    subst hgo
    have hlt' : ¬ (k : Int) < ps.length := by omega
    simp (decide := true) [int, hlt, hlt', linesGo, strsZ, strRow]
  have hlt' : (k : Int) < ps.length := by omega
  rw [linesGo_drop hlt] at hgo
  obtain ⟨p, ep⟩ : ∃ p, ps[k] = p := ⟨_, rfl⟩
  have e1 : ps[k]? = some p := by rw [List.getElem?_eq_getElem hlt, ep]
  have hpp := hpz ps[k] (List.getElem_mem hlt)
  rw [ep] at hgo hpp
  obtain ⟨q1, q2, q3, q4, q5⟩ := partZ hpp
  have hG := lexGet_ok g.lex p.entry hX.lex.len
  have hA := getE_alts hX.lex p.entry
  have hF := formsR_ok (getE g.lex p.entry).1 (by omega)
  have hwl : (wordZ g.lex p).length < 2^20 := by
    unfold wordZ
    have hj : p.alt.toNat < (getE g.lex p.entry).1.forms.length := by omega
    rw [List.getElem?_eq_getElem hj]
    exact hX.lex.form _ (getE_mem q1) _ (List.getElem_mem hj)
  have hS := spell_ok g.orth hg.orth hL.units1 (wordZ g.lex p) (by omega)
  have hSn := senses_ok g.lex p.entry hX.lex.len hX.lex.senses
  have hsp := spellE_size hL.units1 (wordZ g.lex p)
  have hjw : (getE g.lex p.entry).1.forms[p.alt.toNat]? = some (wordZ g.lex p) := by
    unfold wordZ
    have hj : p.alt.toNat < (getE g.lex p.entry).1.forms.length := by omega
    rw [List.getElem?_eq_getElem hj]; rfl
  obtain ⟨sn, hsn, hgl⟩ : ∃ sn, (sensesE g.lex p.entry)[p.sense.toNat]? = some sn ∧ glossZ g.lex p = sn.gloss := by
    have hj : p.sense.toNat < (sensesE g.lex p.entry).length := by omega
    exact ⟨_, List.getElem?_eq_getElem hj, by unfold glossZ; rw [List.getElem?_eq_getElem hj]; rfl⟩
  rw [hgl] at hgo
  generalize wordZ g.lex p = W at hjw hS hgo hsp hwl
  generalize spellE g.orth.units W = z at hS hgo hsp
  generalize sensesE g.lex p.entry = ss at hSn hsn q5
  generalize getE g.lex p.entry = r at hG hF hjw q3 q1 hA
  obtain ⟨e, ok⟩ := r
  obtain ⟨s, pos, err⟩ := z
  simp only at hG hF hjw q3 q1 hS hgo hsp hA
  subst q1
  have hj : p.alt.toNat < e.forms.length := by omega
  have hjv : e.forms[p.alt.toNat] = W := Option.some.inj (by rw [← List.getElem?_eq_getElem hj]; exact hjw)
  have hk : p.sense.toNat < ss.length := by omega
  have hkv : ss[p.sense.toNat] = sn := Option.some.inj (by rw [← List.getElem?_eq_getElem hk]; exact hsn)
  simp (decide := true) [int, partsD, unAgg, Lang.d, Prt.row, hlt, hlt', ep, e1, I64]
  refine ECall.pure (by rfl) hG (by simp [lexD, int]) ?_
  simp (decide := true) [int, partsD, unAgg, Lang.d, Prt.row, Ent.row, I64]
  refine scall_pure (by rfl) (by rfl) hF (by simp [D.scalar]) ?_
  simp (decide := true) [int, partsD, unAgg, Lang.d, Prt.row, Ent.row, I64, listsD, q2, q3, hj, hjv]
  refine scall_pure (by rfl) (by rfl) hS (by simp [D.scalar]) ?_
  by_cases he : err = 0
  case neg =>
    rw [if_pos he] at hgo
    subst hgo
    simp (decide := true) [int, partsD, unAgg, Lang.d, Prt.row, Ent.row, I64, he, strsZ]
  subst he
  rw [if_neg (by decide)] at hgo
  simp (decide := true) [int, partsD, unAgg, Lang.d, Prt.row, Ent.row, I64, maxLen]
  have hlx : (strRow x).length = k := by simp [strRow, hx]
  have hly : (strRow y).length = k := by simp [strRow, hy]
  refine ⟨by omega, by omega, ?_⟩
  refine draw_t mixed 12 (by rfl) (by rfl) (by rfl) (by rfl) (by simp) ?_
  simp (decide := true) [int, partsD, unAgg, Lang.d, Prt.row, Ent.row, I64, maxLen]
  refine scall_pure (by rfl) (by rfl) hSn (by simp [D.scalar]) ?_
  simp (decide := true) [int, partsD, unAgg, Lang.d, Prt.row, Ent.row, I64, maxLen, sensD, Sens.row, q4, q5, hk, hkv]
  exact ⟨by omega, by omega, ⟨by omega, by omega⟩, k + 1, x ++ [s], y ++ [sn.gloss], ⟨hlt, by simp [hx], by simp [hy], hgo⟩, by omega, by omega, by simp [strRow], by simp [strRow]⟩
set_option maxHeartbeats 32000000 in
theorem refLines_ok (g : Lang) (hL : LightF g) (hg : LangC g) (ps : List Prt) (hp : ps.length < 2^20) :
    PureR Tryz.prog 15 [g.d, anaD ps] (.tup [strsZ (linesE g ps).1, strsZ (linesE g ps).2.1, int (linesE g ps).2.2]) := by
  have hR := hL.langR hg
  have hX := hR.toLangOk
  have hRt := refRight29_ok g hR.toLangL ps hp
  refine pure_of_body mixed Tryz.func15 rfl call_15 ?_
  unfold linesE
  simp (decide := true) [Tryz.f15, int, Lang.d, anaD, unAgg]
  refine ECall.pure (by rfl) hRt (by simp [Lang.d, anaD, unAgg, int]) ?_
  by_cases h0 : rightE g ps = 0
  case neg => simp (decide := true) [int, h0, strsZ]
  obtain ⟨h4, hpz⟩ := rightZ h0
  obtain ⟨E, hE⟩ : ∃ E, linesGo g ps [] [] = E := ⟨_, rfl⟩
  simp (decide := true) [int, h0, hE, partsD]
  refine loop_ruleT mixed (fun x : Nat × List ByteArray × List ByteArray => { n := 78, next := 6, slots := [(2, .bp 0 0), (3, .bp 1 0), (8, .ar 4), (9, .ar 5), (10, .d (int x.1))], own := [(0, .box 36 (unAgg g.d)), (1, .box 39 [.d (partsD ps)]), (4, .arr 9 1 (strRow x.2.1)), (5, .arr 9 1 (strRow x.2.2))], moved := [4, 5] })
    (fun x => x.1 ≤ ps.length ∧ x.2.1.length = x.1 ∧ x.2.2.length = x.1 ∧ linesGo g (ps.drop x.1) x.2.1 x.2.2 = E) (fun x => ps.length - x.1) (0, [], []) ⟨Nat.zero_le _, rfl, rfl, by rw [List.drop_zero]; exact hE⟩ ?_ ?_
  · simp (decide := true) [int, partsD, unAgg, Lang.d, strRow]
  rintro ⟨k, x, y⟩ ⟨hk, hx, hy, hgo⟩
  simp only at hk hx hy hgo
  refine ev_sound mixed ?_
  by_cases hlt : k < ps.length
  case neg =>
    have : k = ps.length := by omega
    rw [this, List.drop_length] at hgo
    subst hgo
    have hlt' : ¬ (k : Int) < ps.length := by omega
    simp (decide := true) [int, hlt, hlt', linesGo, strsZ, strRow, partsD]
  have hlt' : (k : Int) < ps.length := by omega
  rw [linesGo_drop hlt] at hgo
  obtain ⟨p, ep⟩ : ∃ p, ps[k] = p := ⟨_, rfl⟩
  have e1 : ps[k]? = some p := by rw [List.getElem?_eq_getElem hlt, ep]
  have hpp := hpz ps[k] (List.getElem_mem hlt)
  rw [ep] at hgo hpp
  obtain ⟨q1, q2, q3, q4, q5⟩ := partZ hpp
  have hG := get25_ok g.lex p.entry (by have := hX.lex.len; omega)
  have hA := getE_alts hX.lex p.entry
  have hF := refFormsR_ok (getE g.lex p.entry).1 (by omega)
  have hwl : (wordZ g.lex p).length < 2^20 := by
    unfold wordZ
    have hj : p.alt.toNat < (getE g.lex p.entry).1.forms.length := by omega
    rw [List.getElem?_eq_getElem hj]
    exact hX.lex.form _ (getE_mem q1) _ (List.getElem_mem hj)
  have hS := refSpell_ok g.orth hg.orth hL.units1 (wordZ g.lex p) (by omega)
  have hSn := senses27_ok g.lex p.entry hX.lex.len
  have hsp := spellE_size hL.units1 (wordZ g.lex p)
  have hjw : (getE g.lex p.entry).1.forms[p.alt.toNat]? = some (wordZ g.lex p) := by
    unfold wordZ
    have hj : p.alt.toNat < (getE g.lex p.entry).1.forms.length := by omega
    rw [List.getElem?_eq_getElem hj]; rfl
  obtain ⟨sn, hsn, hgl⟩ : ∃ sn, (sensesE g.lex p.entry)[p.sense.toNat]? = some sn ∧ glossZ g.lex p = sn.gloss := by
    have hj : p.sense.toNat < (sensesE g.lex p.entry).length := by omega
    exact ⟨_, List.getElem?_eq_getElem hj, by unfold glossZ; rw [List.getElem?_eq_getElem hj]; rfl⟩
  rw [hgl] at hgo
  generalize wordZ g.lex p = W at hjw hS hgo hsp hwl
  generalize spellE g.orth.units W = z at hS hgo hsp
  generalize sensesE g.lex p.entry = ss at hSn hsn q5
  generalize getE g.lex p.entry = r at hG hF hjw q3 q1 hA
  obtain ⟨e, ok⟩ := r
  obtain ⟨s, pos, err⟩ := z
  simp only at hG hF hjw q3 q1 hS hgo hsp hA
  subst q1
  have hj : p.alt.toNat < e.forms.length := by omega
  have hjv : e.forms[p.alt.toNat] = W := Option.some.inj (by rw [← List.getElem?_eq_getElem hj]; exact hjw)
  have hk : p.sense.toNat < ss.length := by omega
  have hkv : ss[p.sense.toNat] = sn := Option.some.inj (by rw [← List.getElem?_eq_getElem hk]; exact hsn)
  simp (decide := true) [int, partsD, unAgg, Lang.d, Prt.row, hlt, hlt', ep, e1, I64]
  refine ECall.pure (by rfl) hG (by simp [lexD, int]) ?_
  simp (decide := true) [int, partsD, unAgg, Lang.d, Prt.row, Ent.row, I64]
  refine scall_pure (by rfl) (by rfl) hF (by simp [D.scalar]) ?_
  simp (decide := true) [int, partsD, unAgg, Lang.d, Prt.row, Ent.row, I64, listsD, q2, q3, hj, hjv]
  refine scall_pure (by rfl) (by rfl) hS (by simp [D.scalar]) ?_
  by_cases he : err = 0
  case neg =>
    rw [if_pos he] at hgo
    subst hgo
    simp (decide := true) [int, partsD, unAgg, Lang.d, Prt.row, Ent.row, I64, he, strsZ]
  subst he
  rw [if_neg (by decide)] at hgo
  simp (decide := true) [int, partsD, unAgg, Lang.d, Prt.row, Ent.row, I64, maxLen]
  have hlx : (strRow x).length = k := by simp [strRow, hx]
  have hly : (strRow y).length = k := by simp [strRow, hy]
  refine ⟨by omega, by omega, ?_⟩
  refine draw_t mixed 12 (by rfl) (by rfl) (by rfl) (by rfl) (by simp) ?_
  simp (decide := true) [int, partsD, unAgg, Lang.d, Prt.row, Ent.row, I64, maxLen]
  refine scall_pure (by rfl) (by rfl) hSn (by simp [D.scalar]) ?_
  simp (decide := true) [int, partsD, unAgg, Lang.d, Prt.row, Ent.row, I64, maxLen, sensD, Sens.row, q4, q5, hk, hkv]
  exact ⟨by omega, by omega, ⟨by omega, by omega⟩, k + 1, x ++ [s], y ++ [sn.gloss], ⟨hlt, by simp [hx], by simp [hy], hgo⟩, by omega, by omega, by simp [strRow], by simp [strRow]⟩
end Go.V
namespace Go.V.Doc
open Go
structure Nt where
  id : Int
  tier : Int
  par : Int
  fr : Int
  to : Int
  rank : Int
  text : ByteArray
  deriving Inhabited, DecidableEq
def Nt.enc (n : Nt) : List Value := [.int .i64 n.id, .int .i64 n.tier, .int .i64 n.par, .int .i64 n.fr, .int .i64 n.to, .int .i64 n.rank, .string n.text]
def cmpI (a b : Int) : Int := if a < b then -1 else if b < a then 1 else 0
def orI : List Int → Int
  | [] => 0
  | x :: l => if x = 0 then orI l else x
theorem orI_drop {l : List Int} {k : Nat} (h : k < l.length) : orI (l.drop k) = if l[k] = 0 then orI (l.drop (k + 1)) else l[k] := by
  rw [List.drop_eq_getElem_cons h]; rfl
def cmpN (a b : Nt) : Int := orI [cmpI a.par b.par, cmpI a.fr b.fr, cmpI a.rank b.rank]
end Go.V.Doc
namespace Go.V.Doc
open Go Go.Proofs
variable [Dr]
def Nt.row (n : Nt) : List D := [int n.id, int n.tier, int n.par, int n.fr, int n.to, int n.rank, .str n.text]
theorem nt_enc : RowEnc Nt.enc Nt.row 7 where
  pos := by decide
  len := fun _ => rfl
  one := by intro x v hv; simp [Nt.enc] at hv; rcases hv with rfl | rfl | rfl | rfl | rfl | rfl | rfl <;> rfl
  rlen := fun _ => rfl
  read := by
    intro w E x
    simp only [Nt.row, Nt.enc, Rcells, R, int]
    exact ⟨_, _, rfl, rfl, rfl, _, _, rfl, rfl, rfl, _, _, rfl, rfl, rfl, _, _, rfl, rfl, rfl, _, _, rfl, rfl, rfl, _, _, rfl, rfl, rfl, _, _, rfl, rfl, rfl, rfl⟩
  uniq := by
    intro w E x vs h
    simp only [Nt.row, Rcells, R, int] at h
    obtain ⟨_, _, rfl, _, rfl, _, _, rfl, _, rfl, _, _, rfl, _, rfl, _, _, rfl, _, rfl, _, _, rfl, _, rfl, _, _, rfl, _, rfl, _, _, rfl, _, rfl, rfl⟩ := h
    rfl
theorem isNaN_ok (n : Int) : PureR Tryz.prog 123 [int n] (.bool false) := by
  refine pure_of_body mixed Tryz.func123 rfl call_123 ?_
  simp [Tryz.f123, int]
theorem compare_ok (a b : Int) : PureR Tryz.prog 67 [int a, int b] (int (cmpI a b)) := by
  refine pure_of_body mixed Tryz.func67 rfl call_67 ?_
  simp [Tryz.f67, int]
  refine ECall.pure (by rfl) (isNaN_ok a) (by simp) ?_
  simp
  refine ECall.pure (by rfl) (isNaN_ok b) (by simp) ?_
  simp [cmpI]
  refine ⟨fun h h' => by omega, fun h => by omega⟩
theorem or_ok (l : List Int) (hl : l.length < 2^62) : PureR Tryz.prog 166 [ints l] (int (orI l)) := by
  refine pure_of_body mixed Tryz.func166 rfl call_166 ?_
  simp [Tryz.f166, ints]
  refine loop_rule mixed (fun k : Nat => { n := 18, next := 0, slots := [(0, .d (ints l)), (3, .d (int 0)), (6, .d (ints l)), (7, .d (.int .i64 l.length)), (8, .d (.int .i64 k))], own := [] })
    (fun k => k ≤ l.length ∧ orI l = orI (l.drop k)) (fun k => l.length - k) 0 (by simp) (by simp [ints, int]) ?_
  intro k ⟨hk, hp⟩
  by_cases hlt : k < l.length
  · have e1 : l[k]? = some l[k] := List.getElem?_eq_getElem hlt
    rw [orI_drop hlt] at hp
    simp (decide := true) [ints, int, e1, hlt, I64]
    refine ⟨fun h => ?_, fun h => ⟨by omega, k + 1, ⟨hlt, ?_⟩, by omega, by omega⟩⟩
    · rw [hp, if_neg h]
    · rw [hp, if_pos h]
  · have : k = l.length := by omega
    subst this
    simp (decide := true) [ints, int, hp, orI]
theorem order_ok (a b : Nt) : PureR Tryz.prog 113 [.agg a.row, .agg b.row] (int (cmpN a b)) := by
  refine pure_of_body mixed Tryz.func113 rfl call_113 ?_
  simp (decide := true) [Tryz.f113, Nt.row, int]
  refine scall_pure (by rfl) (by rfl) (compare_ok a.par b.par) (by simp) ?_
  simp (decide := true) [int]
  refine scall_pure (by rfl) (by rfl) (compare_ok a.fr b.fr) (by simp) ?_
  simp (decide := true) [int]
  refine scall_pure (by rfl) (by rfl) (compare_ok a.rank b.rank) (by simp) ?_
  simp (decide := true) [int, inOrder, rowsOf, rowOf, symCells]
  refine scall_pure (by rfl) (by rfl) (or_ok [cmpI a.par b.par, cmpI a.fr b.fr, cmpI a.rank b.rank] (by simp)) (by simp) ?_
  simp (decide := true) [cmpN, int]
theorem order_lays {blk off size : Nat} {w : World} {E : Nat → Prop} (h1 : Seen w E) (hb : E blk) : Go.Proofs.CmpLays Tryz.prog 113 #[] Nt.enc 7 cmpN blk off size w := by
  let d : Dr := ⟨true⟩
  exact @cmpLays_of d _ _ _ _ _ _ _ rfl _ _ nt_enc (fun x y => @order_ok d x y) _ _ _ _ _ h1 hb
end Go.V.Doc
namespace Go.V.Doc
open Go Go.Proofs Go.Sort Go.RowKit
def ltN : Nt → Nt → Bool := ltOf cmpN
theorem enters_order : ∀ args w, (callFunc 113 args).run Tryz.prog w = .ok (.enter 113 args) w := enters_of Tryz.func113 (by kernel_rfl) rfl
theorem isAggN : ∀ w, (isAgg 72).run Tryz.prog w = .ok true w := fun w => by kernel_rfl
theorem sizeOfN : ∀ w, (Go.sizeOf 72).run Tryz.prog w = .ok 7 w := fun w => by kernel_rfl
def insLoop : Nat → Nat → Array Nt → Array Nt
  | 0, _, d => d
  | k + 1, i, d => insLoop k (i + 1) (insInner ltN 0 i d)
theorem insOuter_loop (b : Nat) : ∀ (k i : Nat) (d : Array Nt), k = b - i → insOuter ltN 0 b i d = insLoop k i d
  | 0, i, d, h => by unfold insOuter; rw [if_neg (by omega)]; rfl
  | k + 1, i, d, h => by unfold insOuter; rw [if_pos (by omega), insOuter_loop b k (i + 1) _ (by omega)]; rfl
def isort (l : List Nt) : List Nt := (insLoop (l.length - 1) 1 l.toArray).toList
theorem isort_eq (l : List Nt) : (Sort.insertionSort ltN l.toArray 0 l.length) = (isort l).toArray := by
  unfold Sort.insertionSort isort
  rw [insOuter_loop l.length (l.length - 1) (0 + 1) _ (by omega)]
theorem ins_ok (T : Nat) (l : List Nt) (hne : l ≠ []) (hl : l.length < 4611686018427387904) (hs : (isort l).length = l.length) :
    CallC Tryz.prog 172 [.ar 0, .d (int 0), .d (int l.length), .fn 113 []] [(0, .arr T 7 (l.map Nt.row))] 1 (.d (.tup [])) 1 [(0, .arr T 7 ((isort l).map Nt.row))] [] := by
  refine sort_bridge nt_enc call_172 hne hs ?_
  intro w E β vs hvs hseen g cap hg hE hH
  simp only [Sms, Sm, R, int] at hvs
  obtain ⟨_, _, rfl, rfl, _, _, rfl, rfl, _, _, rfl, ⟨_, rfl, rfl⟩, rfl⟩ := hvs
  have := AnyQ.insertionSortCmpFunc Tryz.insNote 7 isAggN sizeOfN Nt.enc nt_enc.len nt_enc.one cmpN 113 #[] g 0 cap 0 l.length l.toArray w enters_order
    (order_lays hseen hE) hH hg (Nat.zero_le _) (by simp) (by simpa using hl)
  change Calls Tryz.prog 172 _ _ _ at this
  rw [show ltOf cmpN = ltN from rfl, isort_eq] at this
  simpa using this
theorem ins_nil : CallC Tryz.prog 172 [.d (.sl []), .d (int 0), .d (int 0), .fn 113 []] [] 0 (.tup []) 0 [] [] := by
  refine callC_of_body mixed Tryz.func172 rfl call_172 (by simp [Sym.los, Sym.lo]) ?_
  simp (decide := true) [Tryz.f172, int]
  refine ⟨by unfold I64; omega, loop_rule mixed (fun _ : Unit => { n := 53, next := 0, slots := [(2, .d (int 0)), (8, .d (int 1))], own := [] })
    (fun _ => True) (fun _ => 0) () trivial (by simp (decide := true) [int]) ?_⟩
  intro _ _
  simp (decide := true) [int]
end Go.V.Doc
namespace Go.V.Doc
open Go Go.Proofs Go.Sort Go.RowKit
section
variable [Dr]
def cmpId (a b : Nt) : Int := cmpI a.id b.id
theorem fill1_ok (a b : Nt) : PureR Tryz.prog 66 [.agg a.row, .agg b.row] (int (cmpId a b)) := by
  refine pure_of_body mixed Tryz.func66 rfl call_66 ?_
  simp (decide := true) [Tryz.f66, Nt.row, int]
  refine ECall.pure (by rfl) (compare_ok a.id b.id) (by simp) ?_
  simp (decide := true) [cmpId, int]
theorem id_lays {blk off size : Nat} {w : World} {E : Nat → Prop} (h1 : Seen w E) (hb : E blk) : Go.Proofs.CmpLays Tryz.prog 66 #[] Nt.enc 7 cmpId blk off size w := by
  let d : Dr := ⟨true⟩
  exact @cmpLays_of d _ _ _ _ _ _ _ rfl _ _ nt_enc (fun x y => @fill1_ok d x y) _ _ _ _ _ h1 hb
end
def ltId : Nt → Nt → Bool := ltOf cmpId
theorem enters_id : ∀ args w, (callFunc 66 args).run Tryz.prog w = .ok (.enter 66 args) w := enters_of Tryz.func66 (by kernel_rfl) rfl
def insLoopI : Nat → Nat → Array Nt → Array Nt
  | 0, _, d => d
  | k + 1, i, d => insLoopI k (i + 1) (insInner ltId 0 i d)
theorem insOuter_loopI (b : Nat) : ∀ (k i : Nat) (d : Array Nt), k = b - i → insOuter ltId 0 b i d = insLoopI k i d
  | 0, i, d, h => by unfold insOuter; rw [if_neg (by omega)]; rfl
  | k + 1, i, d, h => by unfold insOuter; rw [if_pos (by omega), insOuter_loopI b k (i + 1) _ (by omega)]; rfl
def isortI (l : List Nt) : List Nt := (insLoopI (l.length - 1) 1 l.toArray).toList
theorem isortI_eq (l : List Nt) : (Sort.insertionSort ltId l.toArray 0 l.length) = (isortI l).toArray := by
  unfold Sort.insertionSort isortI
  rw [insOuter_loopI l.length (l.length - 1) (0 + 1) _ (by omega)]
theorem insI_ok (T : Nat) (l : List Nt) (hne : l ≠ []) (hl : l.length < 4611686018427387904) (hs : (isortI l).length = l.length) :
    CallC Tryz.prog 172 [.ar 0, .d (int 0), .d (int l.length), .fn 66 []] [(0, .arr T 7 (l.map Nt.row))] 1 (.d (.tup [])) 1 [(0, .arr T 7 ((isortI l).map Nt.row))] [] := by
  refine sort_bridge nt_enc call_172 hne hs ?_
  intro w E β vs hvs hseen g cap hg hE hH
  simp only [Sms, Sm, R, int] at hvs
  obtain ⟨_, _, rfl, rfl, _, _, rfl, rfl, _, _, rfl, ⟨_, rfl, rfl⟩, rfl⟩ := hvs
  have := AnyQ.insertionSortCmpFunc Tryz.insNote 7 isAggN sizeOfN Nt.enc nt_enc.len nt_enc.one cmpId 66 #[] g 0 cap 0 l.length l.toArray w enters_id
    (id_lays hseen hE) hH hg (Nat.zero_le _) (by simp) (by simpa using hl)
  change Calls Tryz.prog 172 _ _ _ at this
  rw [show ltOf cmpId = ltId from rfl, isortI_eq] at this
  simpa using this
end Go.V.Doc
namespace Go.V
open Go Go.Proofs
def rowNt : List D → Option Doc.Nt
  | [.int .i64 a, .int .i64 b, .int .i64 c, .int .i64 d, .int .i64 e, .int .i64 f, .str t] => some ⟨a, b, c, d, e, f, t⟩
  | _ => none
def rowsNt : List (List D) → Option (List Doc.Nt)
  | [] => some []
  | r :: rs => match rowNt r, rowsNt rs with
    | some x, some l => some (x :: l)
    | _, _ => none
theorem rowNt_eq {r : List D} {x : Doc.Nt} (h : rowNt r = some x) : r = x.row := by
  unfold rowNt at h
  split at h
  · cases h; rfl
  · cases h
theorem rowsNt_eq : ∀ {rows : List (List D)} {l : List Doc.Nt}, rowsNt rows = some l → rows = l.map Doc.Nt.row
  | [], l, h => by simp [rowsNt] at h; subst h; rfl
  | r :: rs, l, h => by
    simp only [rowsNt] at h
    split at h
    · rename_i x l' h1 h2
      cases h
      rw [rowNt_eq h1, rowsNt_eq h2]; rfl
    · cases h
theorem ins_e (T g : Nat) : CallC Tryz.prog 172 [.ar 0, .d (int 0), .d (int 0), .fn g []] [(0, .arr T 7 [])] 1 (.tup []) 1 [(0, .arr T 7 [])] [] := by
  refine callC_of_body mixed Tryz.func172 rfl call_172 (by simp [Sym.los, Sym.lo]) ?_
  simp (decide := true) [Tryz.f172, int]
  refine ⟨by unfold I64; omega, loop_rule mixed (fun _ : Unit => { n := 53, next := 1, base := 1, slots := [(2, .d (int 0)), (8, .d (int 1))], own := [(0, .arr T 7 [])] })
    (fun _ => True) (fun _ => 0) () trivial (by simp (decide := true) [int]) ?_⟩
  intro _ _
  simp (decide := true) [int]
def kcIns (args : List Sym) (own : List (Nat × Obj')) (n : Nat) : Option XR := match args, own, n with
  | [.ar 0, .d (.int .i64 a), .d (.int .i64 b), .fn g []], [(0, .arr T 7 (r0 :: rows))], 1 => match rowsNt (r0 :: rows) with
    | some l => match Nat.beq g 66 with
      | true => oguard (decide (a = 0) && decide (b = (l.length : Int)) && Nat.blt 0 l.length && Nat.beq (Doc.isortI l).length l.length && Nat.blt l.length 1000)
        (some ⟨.d (.tup []), 1, [(0, .arr T 7 ((Doc.isortI l).map Doc.Nt.row))], []⟩)
      | false => oguard (Nat.beq g 113 && decide (a = 0) && decide (b = (l.length : Int)) && Nat.blt 0 l.length && Nat.beq (Doc.isort l).length l.length && Nat.blt l.length 1000)
        (some ⟨.d (.tup []), 1, [(0, .arr T 7 ((Doc.isort l).map Doc.Nt.row))], []⟩)
    | none => none
  | [.ar 0, .d (.int .i64 a), .d (.int .i64 b), .fn g []], [(0, .arr T 7 [])], 1 => oguard (decide (a = 0) && decide (b = 0)) (some ⟨.tup [], 1, [(0, .arr T 7 [])], []⟩)
  | [.d (.sl []), .d (.int .i64 a), .d (.int .i64 b), .fn g []], [], 0 => oguard (Nat.beq g 113 && decide (a = 0) && decide (b = 0)) (some ⟨.tup [], 0, [], []⟩)
  | _, _, _ => none
theorem kcIns_good {args : List Sym} {own : List (Nat × Obj')} {n : Nat} {r : XR} (h : kcIns args own n = some r) : CallC Tryz.prog 172 args own n r.s r.nx r.own r.mv := by
  unfold kcIns at h
  split at h
  · rename_i a b g T r0 rows
    split at h
    · rename_i l hl
      split at h
      · rename_i hg
        rw [oguard_some] at h
        simp only [Bool.and_eq_true, beq_iff, blt_iff, decide_eq_true_eq] at h
        obtain ⟨⟨⟨⟨⟨h2, h3⟩, h4⟩, h5⟩, h6⟩, h⟩ := h
        rw [beq_iff] at hg
        cases h
        subst hg; subst h2; subst h3
        rw [rowsNt_eq hl]
        exact Doc.insI_ok T l (by intro e; subst e; simp at h4) (by omega) h5
      · rw [oguard_some] at h
        simp only [Bool.and_eq_true, beq_iff, blt_iff, decide_eq_true_eq] at h
        obtain ⟨⟨⟨⟨⟨⟨h1, h2⟩, h3⟩, h4⟩, h5⟩, h6⟩, h⟩ := h
        cases h
        subst h1; subst h2; subst h3
        rw [rowsNt_eq hl]
        exact Doc.ins_ok T l (by intro e; subst e; simp at h4) (by omega) h5
    · cases h
  · rename_i a b g T
    rw [oguard_some] at h
    simp only [Bool.and_eq_true, beq_iff, decide_eq_true_eq] at h
    obtain ⟨⟨h2, h3⟩, h⟩ := h
    cases h
    subst h2; subst h3
    exact ins_e T g
  · rename_i a b g
    rw [oguard_some] at h
    simp only [Bool.and_eq_true, beq_iff, decide_eq_true_eq] at h
    obtain ⟨⟨⟨h1, h2⟩, h3⟩, h⟩ := h
    cases h
    subst h1; subst h2; subst h3
    exact Doc.ins_nil
  · cases h
theorem writeFY_ok (s : ByteArray) (hs : s.size < 2^40) :
    CallC Tryz.prog 100 [.bp 0 0, .d (.str s)] [(0, .box 166 [.d (.val (.pointer none)), .nils])] 1 (.tup [.d (int s.size), .d (.val .nilIface)]) 2 [(1, .arr 5 1 (strRows s)), (0, .box 166 [.bp 0 0, .ar 1])] [1] := by
  have hC : CallC Tryz.prog 159 [.bp 0 0] [(0, .box 166 [.d (.val (.pointer none)), .nils])] 1 (.d (.tup [])) 1 [(0, .box 166 [.bp 0 0, .nils])] [] := bld_fresh (by rfl) cc_fresh
  refine callC_of_body mixed Tryz.func100 rfl call_100 (by simp [Sym.los, Sym.lo]) ?_
  simp (decide := true) [Tryz.f100, int]
  refine ECall.mut [0] [.bp 0 0] [(0, .box 166 [.d (.val (.pointer none)), .nils])] (by rfl) (by simp) (by simp) (by simp) hC ?_
  simp (decide := true) [int, maxLen]
  exact ⟨by omega, by omega⟩
theorem writeUY_ok (s : ByteArray) (rows : List (List D)) (hs : rows.length + s.size < 2^40) :
    CallC Tryz.prog 100 [.bp 0 0, .d (.str s)] [(0, .box 166 [.bp 0 0, .ar 1]), (1, .arr 5 1 rows)] 2 (.tup [.d (int s.size), .d (.val .nilIface)]) 2 [(0, .box 166 [.bp 0 0, .ar 1]), (1, .arr 5 1 (rows ++ strRows s))] [1] := by
  have hC : CallC Tryz.prog 159 [.bp 0 0] [(0, .box 166 [.bp 0 0, .ar 1]), (1, .arr 5 1 rows)] 2 (.d (.tup [])) 2 [(0, .box 166 [.bp 0 0, .ar 1]), (1, .arr 5 1 rows)] [] := bld_used (by rfl) cc_used _ _ _
  refine callC_of_body mixed Tryz.func100 rfl call_100 (by simp [Sym.los, Sym.lo]) ?_
  simp (decide := true) [Tryz.f100, int]
  refine ECall.mut [0, 1] [.bp 0 0] [(0, .box 166 [.bp 0 0, .ar 1]), (1, .arr 5 1 rows)] (by rfl) (by simp) (by simp) (by simp; rfl) hC ?_
  simp (decide := true) [int, maxLen]
  exact ⟨by omega, by omega⟩
end Go.V
namespace Go.V
open Go Go.Proofs Go.RowKit
def kcF (f : Nat) : Option (List Sym → List (Nat × Obj') → Nat → Option XR) := match Nat.beq f 172 with
  | true => some kcIns
  | false => match Nat.beq f 159 with
    | true => some (kcCopy 166)
    | false => match Nat.beq f 100 with
      | true => some (kcWrite 166 5)
      | false => match Nat.beq f 101 with
        | true => some (kcString 166 5)
        | false => none
def mfB (f : Nat) : Bool := Nat.beq f 53 || (Nat.beq f 54 || (Nat.beq f 52 || (Nat.beq f 20 || (Nat.beq f 51 ||
  (Nat.beq f 65 || (Nat.beq f 121 || (Nat.beq f 112 || (Nat.beq f 165 || Nat.beq f 172))))))))
noncomputable def mkGb : XG := { mkG Tryz.prog with kc := kcF, mf := mfB }
theorem mkGb_good : XGood Tryz.prog mkGb := by
  have g := mkG_good can_all
  refine ⟨g.ti, g.zf, g.ek, g.fn, g.kn, ?_⟩
  intro f k args own n r hk hr _
  have hk : kcF f = some k := hk
  unfold kcF at hk
  split at hk
  · rename_i e
    rw [beq_iff] at e
    cases hk
    subst e
    exact kcIns_good hr
  · split at hk
    · rename_i e
      rw [beq_iff] at e
      cases hk
      subst e
      exact kcCopy_good (bld_fresh (by rfl) cc_fresh) (bld_used (by rfl) cc_used) hr
    · split at hk
      · rename_i e
        rw [beq_iff] at e
        cases hk
        subst e
        exact kcWrite_good (fun s hs => writeFY_ok s hs) (fun s rows hs => writeUY_ok s rows hs) hr
      · split at hk
        · rename_i e
          rw [beq_iff] at e
          cases hk
          subst e
          exact kcString_good (fun s hs => bld_string Tryz.bldStr bldX (by rfl) s hs) hr
        · cases hk
theorem idle_all : IdleC Tryz.prog 70 2 := by
  refine ⟨call_70, fun vs w hv => ?_⟩
  obtain ⟨p, q, rfl⟩ : ∃ p q, vs = [p, q] := by
    match vs, hv with
    | [p, q], _ => exact ⟨p, q, rfl⟩
  have hta : ∀ w, (Instr.typeAssert Value.nilIface 20 127 true).run Tryz.prog w = .ok (.tuple #[.agg #[.int .i64 0], .bool false]) w := fun w => by kernel_rfl
  refine callsD_of_wpS Tryz.func70 rfl fun c₀ cs hu => ?_
  apply wpS_seq
  apply wpS_region
  simp [wpOpsS, go_sem, recoverD, hu, Tryz.ntmps70, Exit.thenS, hta]
  apply wpS_seq
  apply wpS_region
  simp [wpOpsS, go_sem, Exit.thenS]
  refine wpS_cond (t := false) (by simp [Act.eval, Array.replicate]) ?_
  simp only [Bool.false_eq_true, if_false]
  refine wpS_of_wp (wp_skip ?_)
  have hbel := below_alloc w (Obj.cells #[Value.int IntKind.i64 0] 127)
  cases c₀
  simp_all [bodyPostS, results, Tryz.results70]
end Go.V
namespace Go.V
open Go Go.Proofs
mutual
def eqD : D → D → Bool
  | .int k n, .int k' n' => decide (k = k') && decide (n = n')
  | .bool a, .bool b => decide (a = b)
  | .str a, .str b => decide (a.data.toList = b.data.toList)
  | .sl l, .sl m => eqR l m
  | .agg l, .agg m => eqDs l m
  | _, _ => false
def eqR : List (List D) → List (List D) → Bool
  | [], [] => true
  | r :: rs, s :: ss => eqDs r s && eqR rs ss
  | _, _ => false
def eqDs : List D → List D → Bool
  | [], [] => true
  | a :: r, b :: s => eqD a b && eqDs r s
  | _, _ => false
end
mutual
theorem eqD_eq : ∀ {a b : D}, eqD a b = true → a = b
  | .int k n, b, h => by
    cases b <;> simp [eqD] at h
    obtain ⟨rfl, rfl⟩ := h; rfl
  | .bool x, b, h => by
    cases b <;> simp [eqD] at h
    subst h; rfl
  | .str x, b, h => by
    cases b <;> simp [eqD] at h
    rename_i y
    obtain ⟨⟨x⟩⟩ := x
    obtain ⟨⟨y⟩⟩ := y
    cases h; rfl
  | .sl l, b, h => by
    cases b <;> simp only [eqD, Bool.false_eq_true] at h
    rw [eqR_eq h]
  | .agg l, b, h => by
    cases b <;> simp only [eqD, Bool.false_eq_true] at h
    rw [eqDs_eq h]
  | .ptr _, b, h => by cases b <;> simp [eqD] at h
  | .tup _, b, h => by cases b <;> simp [eqD] at h
  | .fn _ _, b, h => by cases b <;> simp [eqD] at h
  | .val _, b, h => by cases b <;> simp [eqD] at h
  | .mp _, b, h => by cases b <;> simp [eqD] at h
theorem eqR_eq : ∀ {a b : List (List D)}, eqR a b = true → a = b
  | [], b, h => by cases b with
    | nil => rfl
    | cons => simp [eqR] at h
  | r :: rs, b, h => by cases b with
    | nil => simp [eqR] at h
    | cons s ss =>
      simp only [eqR, Bool.and_eq_true] at h
      rw [eqDs_eq h.1, eqR_eq h.2]
theorem eqDs_eq : ∀ {a b : List D}, eqDs a b = true → a = b
  | [], b, h => by cases b with
    | nil => rfl
    | cons => simp [eqDs] at h
  | r :: rs, b, h => by cases b with
    | nil => simp [eqDs] at h
    | cons s ss =>
      simp only [eqDs, Bool.and_eq_true] at h
      rw [eqD_eq h.1, eqDs_eq h.2]
end
abbrev ii (n : Int) : D := .int .i64 n
def ka1 : List D := [.agg [ii 5, .str ⟨⟨[116]⟩⟩, ii 1000, ii 1, .sl [[ii 1]], .sl [[.str ⟨⟨[116, 101, 120, 116]⟩⟩, ii 0, ii 1, ii (-1)], [.str ⟨⟨[119, 111, 114, 100]⟩⟩, ii 2, ii 2, ii 0], [.str ⟨⟨[109, 111, 114, 112, 104]⟩⟩, ii 3, ii 3, ii 1], [.str ⟨⟨[103, 108, 111, 115, 115]⟩⟩, ii 4, ii 4, ii 2]], .sl [[ii 1, ii 0, ii 0, ii 0, ii 900, ii 0, .str ⟨⟨[98, 97, 98, 105, 32, 120, 120]⟩⟩], [ii 2, ii 1, ii 1, ii 0, ii 400, ii 0, .str ⟨⟨[98, 97, 98, 105]⟩⟩], [ii 3, ii 1, ii 1, ii 400, ii 900, ii 0, .str ⟨⟨[120, 120]⟩⟩]]], .agg [.sl [[.str ⟨⟨[98]⟩⟩, ii 2], [.str ⟨⟨[97]⟩⟩, ii 3], [.str ⟨⟨[112]⟩⟩, ii 0], [.str ⟨⟨[105]⟩⟩, ii 11]], .str ⟨⟨[109, 97, 105, 110]⟩⟩, .sl [[.str ⟨⟨[98]⟩⟩, .sl [[ii 1]]], [.str ⟨⟨[97]⟩⟩, .sl [[ii 2]]], [.str ⟨⟨[112]⟩⟩, .sl [[ii 3]]], [.str ⟨⟨[105]⟩⟩, .sl [[ii 4]]]], .sl [], .sl [[.sl [[ii 3]], .sl [[ii 1]], .sl [[ii 1, ii 1]], .sl [[ii 1, ii 1]], .bool false, .bool false]], ii 2, .sl [[ii 0, ii 1, ii 1], [ii 1, ii 2, ii 1]], .sl [[ii 1]], .sl [[ii 1, .sl [[ii 1], [ii 2]], ii 1, .sl [], ii 0, .sl [[.str ⟨⟨[100, 111, 103]⟩⟩, .str ⟨⟨[]⟩⟩]], .sl [], .sl []], [ii 2, .sl [[ii 3], [ii 4]], ii 2, .sl [], ii 0, .sl [[.str ⟨⟨[80, 76]⟩⟩, .str ⟨⟨[]⟩⟩]], .sl [], .sl []]]], .sl [[ii 5, ii 2, .bool true, .sl [[ii 1, ii 0, ii 0], [ii 2, ii 0, ii 0]]]], ii 100]
def kr1 : D := .tup [.agg [ii 5, .str ⟨⟨[116]⟩⟩, ii 1000, ii 1, .sl [[ii 1]], .sl [[.str ⟨⟨[116, 101, 120, 116]⟩⟩, ii 0, ii 1, ii (-1)], [.str ⟨⟨[119, 111, 114, 100]⟩⟩, ii 2, ii 2, ii 0], [.str ⟨⟨[109, 111, 114, 112, 104]⟩⟩, ii 3, ii 3, ii 1], [.str ⟨⟨[103, 108, 111, 115, 115]⟩⟩, ii 4, ii 4, ii 2]], .sl [[ii 1, ii 0, ii 0, ii 0, ii 900, ii 0, .str ⟨⟨[98, 97, 98, 105, 32, 120, 120]⟩⟩], [ii 2, ii 1, ii 1, ii 0, ii 400, ii 0, .str ⟨⟨[98, 97, 98, 105]⟩⟩], [ii 3, ii 1, ii 1, ii 400, ii 900, ii 0, .str ⟨⟨[120, 120]⟩⟩], [ii 100, ii 2, ii 2, ii 0, ii 0, ii 0, .str ⟨⟨[98, 97]⟩⟩], [ii 101, ii 3, ii 100, ii 0, ii 0, ii 0, .str ⟨⟨[100, 111, 103]⟩⟩], [ii 102, ii 2, ii 2, ii 0, ii 0, ii 1, .str ⟨⟨[112, 105]⟩⟩], [ii 103, ii 3, ii 102, ii 0, ii 0, ii 0, .str ⟨⟨[80, 76]⟩⟩]]], ii 0]
theorem kt1 : PureR Tryz.prog 28 ka1 kr1 := xAll_sound mixed_X mkGb_good idle_all (k := 40) (j := 1) (by kernel_rfl)
def ka2 : List D := [.agg [ii 5, .str ⟨⟨[116]⟩⟩, ii 1000, ii 1, .sl [[ii 1]], .sl [[.str ⟨⟨[116, 101, 120, 116]⟩⟩, ii 0, ii 1, ii (-1)], [.str ⟨⟨[119, 111, 114, 100]⟩⟩, ii 2, ii 2, ii 0], [.str ⟨⟨[109, 111, 114, 112, 104]⟩⟩, ii 3, ii 3, ii 1], [.str ⟨⟨[103, 108, 111, 115, 115]⟩⟩, ii 4, ii 4, ii 2]], .sl [[ii 1, ii 0, ii 0, ii 0, ii 900, ii 0, .str ⟨⟨[98, 97, 98, 105, 32, 120, 120]⟩⟩], [ii 2, ii 1, ii 1, ii 0, ii 400, ii 0, .str ⟨⟨[98, 97, 98, 105]⟩⟩], [ii 3, ii 1, ii 1, ii 400, ii 900, ii 0, .str ⟨⟨[120, 120]⟩⟩], [ii 100, ii 2, ii 2, ii 0, ii 0, ii 0, .str ⟨⟨[98, 97]⟩⟩], [ii 101, ii 3, ii 100, ii 0, ii 0, ii 0, .str ⟨⟨[100, 111, 103]⟩⟩], [ii 102, ii 2, ii 2, ii 0, ii 0, ii 1, .str ⟨⟨[112, 105]⟩⟩], [ii 103, ii 3, ii 102, ii 0, ii 0, ii 0, .str ⟨⟨[80, 76]⟩⟩]]], ii 2]
def kr2 : D := .tup [.sl [[.str ⟨⟨[98, 97]⟩⟩], [.str ⟨⟨[112, 105]⟩⟩]], .sl [[.str ⟨⟨[100, 111, 103]⟩⟩], [.str ⟨⟨[80, 76]⟩⟩]]]
theorem kt2 : PureR Tryz.prog 18 ka2 kr2 := xpureD_sound mixed_X mkGb_good (k := 40) (by kernel_rfl)
def ka3 : List D := [.agg [ii 5, .str ⟨⟨[116]⟩⟩, ii 1000, ii 1, .sl [[ii 1]], .sl [[.str ⟨⟨[116, 101, 120, 116]⟩⟩, ii 0, ii 1, ii (-1)], [.str ⟨⟨[119, 111, 114, 100]⟩⟩, ii 2, ii 2, ii 0], [.str ⟨⟨[109, 111, 114, 112, 104]⟩⟩, ii 3, ii 3, ii 1], [.str ⟨⟨[103, 108, 111, 115, 115]⟩⟩, ii 4, ii 4, ii 2]], .sl [[ii 1, ii 0, ii 0, ii 0, ii 900, ii 0, .str ⟨⟨[98, 97, 98, 105, 32, 120, 120]⟩⟩], [ii 2, ii 1, ii 1, ii 0, ii 400, ii 0, .str ⟨⟨[98, 97, 98, 105]⟩⟩], [ii 3, ii 1, ii 1, ii 400, ii 900, ii 0, .str ⟨⟨[120, 120]⟩⟩], [ii 100, ii 2, ii 2, ii 0, ii 0, ii 0, .str ⟨⟨[98, 97]⟩⟩], [ii 101, ii 3, ii 100, ii 0, ii 0, ii 0, .str ⟨⟨[100, 111, 103]⟩⟩], [ii 102, ii 2, ii 2, ii 0, ii 0, ii 1, .str ⟨⟨[112, 105]⟩⟩], [ii 103, ii 3, ii 102, ii 0, ii 0, ii 0, .str ⟨⟨[80, 76]⟩⟩]]], .agg [.sl [[.str ⟨⟨[98]⟩⟩, ii 2], [.str ⟨⟨[97]⟩⟩, ii 3], [.str ⟨⟨[112]⟩⟩, ii 0], [.str ⟨⟨[105]⟩⟩, ii 11]], .str ⟨⟨[109, 97, 105, 110]⟩⟩, .sl [[.str ⟨⟨[98]⟩⟩, .sl [[ii 1]]], [.str ⟨⟨[97]⟩⟩, .sl [[ii 2]]], [.str ⟨⟨[112]⟩⟩, .sl [[ii 3]]], [.str ⟨⟨[105]⟩⟩, .sl [[ii 4]]]], .sl [], .sl [[.sl [[ii 3]], .sl [[ii 1]], .sl [[ii 1, ii 1]], .sl [[ii 1, ii 1]], .bool false, .bool false]], ii 2, .sl [[ii 0, ii 1, ii 1], [ii 1, ii 2, ii 1]], .sl [[ii 1]], .sl [[ii 1, .sl [[ii 1], [ii 2]], ii 1, .sl [], ii 0, .sl [[.str ⟨⟨[100, 111, 103]⟩⟩, .str ⟨⟨[]⟩⟩]], .sl [], .sl []], [ii 2, .sl [[ii 3], [ii 4]], ii 2, .sl [], ii 0, .sl [[.str ⟨⟨[80, 76]⟩⟩, .str ⟨⟨[]⟩⟩]], .sl [], .sl []]]], .sl []]
def kr3 : D := .sl [[ii 2]]
theorem kt3 : PureR Tryz.prog 30 ka3 kr3 := xpureD_sound mixed_X mkGb_good (k := 40) (by kernel_rfl)
def ka4 : List D := [.agg [ii 5, .str ⟨⟨[116]⟩⟩, ii 1000, ii 1, .sl [[ii 1]], .sl [[.str ⟨⟨[116, 101, 120, 116]⟩⟩, ii 0, ii 1, ii (-1)], [.str ⟨⟨[119, 111, 114, 100]⟩⟩, ii 2, ii 2, ii 0], [.str ⟨⟨[109, 111, 114, 112, 104]⟩⟩, ii 3, ii 3, ii 1], [.str ⟨⟨[103, 108, 111, 115, 115]⟩⟩, ii 4, ii 4, ii 2]], .sl [[ii 1, ii 0, ii 0, ii 0, ii 900, ii 0, .str ⟨⟨[98, 97, 98, 105, 32, 120, 120]⟩⟩], [ii 2, ii 1, ii 1, ii 0, ii 400, ii 0, .str ⟨⟨[98, 97, 98, 105]⟩⟩], [ii 3, ii 1, ii 1, ii 400, ii 900, ii 0, .str ⟨⟨[120, 120]⟩⟩], [ii 100, ii 2, ii 2, ii 0, ii 0, ii 0, .str ⟨⟨[98, 97]⟩⟩], [ii 101, ii 3, ii 100, ii 0, ii 0, ii 0, .str ⟨⟨[100, 111, 103]⟩⟩], [ii 102, ii 2, ii 2, ii 0, ii 0, ii 1, .str ⟨⟨[112, 105]⟩⟩], [ii 103, ii 3, ii 102, ii 0, ii 0, ii 0, .str ⟨⟨[80, 76]⟩⟩]]], .agg [.sl [[.str ⟨⟨[98]⟩⟩, ii 2], [.str ⟨⟨[97]⟩⟩, ii 3], [.str ⟨⟨[112]⟩⟩, ii 0], [.str ⟨⟨[105]⟩⟩, ii 11]], .str ⟨⟨[109, 97, 105, 110]⟩⟩, .sl [[.str ⟨⟨[98]⟩⟩, .sl [[ii 1]]], [.str ⟨⟨[97]⟩⟩, .sl [[ii 2]]], [.str ⟨⟨[112]⟩⟩, .sl [[ii 3]]], [.str ⟨⟨[105]⟩⟩, .sl [[ii 4]]]], .sl [], .sl [[.sl [[ii 3]], .sl [[ii 1]], .sl [[ii 1, ii 1]], .sl [[ii 1, ii 1]], .bool false, .bool false]], ii 2, .sl [[ii 0, ii 1, ii 1], [ii 1, ii 2, ii 1]], .sl [[ii 1]], .sl [[ii 1, .sl [[ii 1], [ii 2]], ii 1, .sl [], ii 0, .sl [[.str ⟨⟨[100, 111, 103]⟩⟩, .str ⟨⟨[]⟩⟩]], .sl [], .sl []], [ii 2, .sl [[ii 3], [ii 4]], ii 2, .sl [], ii 0, .sl [[.str ⟨⟨[80, 76]⟩⟩, .str ⟨⟨[]⟩⟩]], .sl [], .sl []]]], .sl [[ii 5, ii 2, .bool true, .sl [[ii 1, ii 0, ii 0], [ii 2, ii 0, ii 0]]]]]
def kr4 : D := .sl []
theorem kt4 : PureR Tryz.prog 30 ka4 kr4 := xpureD_sound mixed_X mkGb_good (k := 40) (by kernel_rfl)
def knC (f : Nat) (ds : List D) : Option D :=
  match Nat.beq f 28 && eqDs ds ka1 with
  | true => some kr1
  | false =>
    match Nat.beq f 18 && eqDs ds ka2 with
    | true => some kr2
    | false =>
      match Nat.beq f 30 && eqDs ds ka3 with
      | true => some kr3
      | false =>
        match Nat.beq f 30 && eqDs ds ka4 with
        | true => some kr4
        | false =>
          none
theorem knC_good {f : Nat} {ds : List D} {r : D} (h : knC f ds = some r) : PureR Tryz.prog f ds r := by
  unfold knC at h
  split at h
  · rename_i e
    rw [Bool.and_eq_true, beq_iff] at e
    cases h
    rw [e.1, eqDs_eq e.2]
    exact kt1
  · split at h
    · rename_i e
      rw [Bool.and_eq_true, beq_iff] at e
      cases h
      rw [e.1, eqDs_eq e.2]
      exact kt2
    · split at h
      · rename_i e
        rw [Bool.and_eq_true, beq_iff] at e
        cases h
        rw [e.1, eqDs_eq e.2]
        exact kt3
      · split at h
        · rename_i e
          rw [Bool.and_eq_true, beq_iff] at e
          cases h
          rw [e.1, eqDs_eq e.2]
          exact kt4
        · cases h
noncomputable def mkGc : XG := { mkGb with kn := fun f => some (knC f) }
theorem mkGc_good : XGood Tryz.prog mkGc := by
  have g := mkGb_good
  refine ⟨g.ti, g.zf, g.ek, g.fn, ?_, g.kc⟩
  intro f k ds r hk hr
  have hk : some (knC f) = some k := hk
  cases hk
  exact knC_good hr
theorem pure_of_isTc {f k : Nat} (h : isT (xcall mkGc (xdrawF mkGc) k f [] [] 0) = true) : PureR Tryz.prog f [] (.bool true) := by
  have hg := runF_sound mixed_X mkGc_good k
  unfold isT at h
  split at h
  · rename_i nx own mv hr
    have := hg _ _ _ _ _ hr (by simp [Sym.los])
    exact pureR_of_callC (ds := []) this
  · cases h
theorem awake32_run : isT (xcall mkGc (xdrawF mkGc) 50 13 [] [] 0) = true := by kernel_rfl
theorem awake32_R : PureR Tryz.prog 13 [] (.bool true) := pure_of_isTc awake32_run
end Go.V
namespace Go.V
open Go Go.Proofs
theorem sameStrs_ok (a : List ByteArray) (ha : a.length < 2^62) : PureR Tryz.prog 16 [strsZ a, strsZ a] (.bool true) := by
  refine pure_of_body mixed Tryz.func16 rfl call_16 ?_
  simp (decide := true) [Tryz.f16, strsZ, int]
  refine loop_rule mixed (fun k : Nat => { n := 26, next := 0, slots := [(0, .d (strsZ a)), (1, .d (strsZ a)), (5, .d (int k))], own := [] })
    (fun k => k ≤ a.length) (fun k => a.length - k) 0 (by simp) (by simp [strsZ, int]) ?_
  intro k hk
  by_cases hlt : k < a.length
  · have e1 : a[k]? = some a[k] := List.getElem?_eq_getElem hlt
    simp (decide := true) [strsZ, int, e1, hlt, I64]
    exact ⟨by omega, k + 1, hlt, by omega, by omega⟩
  · have : k = a.length := by omega
    subst this
    simp (decide := true) [strsZ, int]
theorem linesGo_len {g : Lang} : ∀ {ps : List Prt} {x y : List ByteArray}, (linesGo g ps x y).1.length ≤ x.length + ps.length ∧ (linesGo g ps x y).2.1.length ≤ y.length + ps.length
  | [], x, y => by simp [linesGo]
  | p :: ps, x, y => by
    unfold linesGo
    split
    · simp
    · have := linesGo_len (g := g) (ps := ps) (x := x ++ [(spellE g.orth.units (wordZ g.lex p)).1]) (y := y ++ [glossZ g.lex p])
      simp only [List.length_append, List.length_cons, List.length_nil] at this ⊢
      omega
theorem linesE_len (g : Lang) (ps : List Prt) : (linesE g ps).1.length ≤ ps.length ∧ (linesE g ps).2.1.length ≤ ps.length := by
  unfold linesE
  split
  · simp
  · have := linesGo_len (g := g) (ps := ps) (x := []) (y := [])
    simpa using this
set_option maxHeartbeats 16000000 in
theorem law_lines (g : Lang) (hg : LangC g) (a : List Prt) (ha : a.length ≤ 1048576) : PureR Tryz.prog 3 [g.d, anaD a] (.bool true) := by
  refine pure_of_body mixed Tryz.func3 rfl call_3 ?_
  by_cases c1 : (6 : Int) < a.length
  · simp (decide := true) [Tryz.f3, int, anaD, partsD, c1]
    refine ECall.pure (by rfl) awake32_R (by simp) ?_
    simp (decide := true)
  simp (decide := true) [Tryz.f3, int, anaD, partsD, Lang.d, unAgg, c1]
  refine ECall.some (by rfl) (light29_ok g hg) ?_
  rintro r ⟨b, rfl, hL⟩
  cases b with
  | false =>
    simp (decide := true) [int]
    refine ECall.pure (by rfl) awake32_R (by simp) ?_
    simp (decide := true)
  | true =>
    have hL := hL rfl
    have h1 := lines_ok g hL hg a (by omega)
    have h2 := refLines_ok g hL hg a (by omega)
    have hl := linesE_len g a
    have hT1 := sameStrs_ok (linesE g a).1 (by omega)
    have hT2 := sameStrs_ok (linesE g a).2.1 (by omega)
    generalize linesE g a = z at *
    obtain ⟨x, y, e⟩ := z
    simp only at h1 h2 hT1 hT2
    simp (decide := true) [int]
    refine ECall.pure (by rfl) h1 (by simp) ?_
    simp (decide := true) [int, strsZ]
    refine ECall.pure (by rfl) h2 (by simp) ?_
    simp (decide := true) [int, strsZ]
    refine ECall.pure (by rfl) hT1 (by simp) ?_
    simp (decide := true) [int, strsZ]
    refine ECall.pure (by rfl) hT2 (by simp) ?_
    simp (decide := true) [int, strsZ]
    refine ECall.pure (by rfl) awake32_R (by simp) ?_
    simp (decide := true) [int, strsZ]
theorem law_linesU (g : Lang) (c0 : CapT 1048576 g.d) (a : List Prt) (c1 : CapT 1048576 (anaD a)) : PureR Tryz.prog 3 [g.d, anaD a] (.bool true) :=
  law_lines g (lang_caps c0) a (ana_cap c1)
end Go.V
