/- Decisions as plain data; the order of references, parts and analyses as the program compares them. -/
import Derived.Test.YtmpknkjlhapcmaaGreatC8
set_option linter.unusedSimpArgs false
set_option linter.unusedVariables false
set_option maxRecDepth 10000
namespace Go.V
open Go Go.Proofs

structure Dec where
  ref : Rf
  yes : Bool
  pick : List Prt
  deriving DecidableEq
def Dec.row (d : Dec) : List D := [int d.ref.rcd, int d.ref.note, .bool d.yes, partsD d.pick]
def decsD (l : List Dec) : D := .sl (l.map Dec.row)
def refD (r : Rf) : D := .agg r.row

theorem lends_ds (look : Nat → Option Obj') : ∀ (l : List D), lends look (l.map .d) = some (l, false)
  | [] => rfl
  | d :: r => by simp only [List.map_cons, lends, lend, lends_ds look r]; rfl
/-- The first number that is not 0. -/
def orI : List Int → Int
  | [] => 0
  | x :: l => if x = 0 then orI l else x
theorem orI_drop {l : List Int} {k : Nat} (h : k < l.length) : orI (l.drop k) = if l[k] = 0 then orI (l.drop (k + 1)) else l[k] := by
  rw [List.drop_eq_getElem_cons h]; rfl
theorem or_ok (l : List Int) (hl : l.length < 2^62) : PureR Tryz.prog 82 [ints l] (int (orI l)) := by
  refine pure_of_body mixed Tryz.func82 rfl call_82 ?_
  simp [Tryz.f82, ints]
  refine loop_rule mixed (fun k : Nat => { n := 18, next := 0, slots := [(0, .d (ints l)), (3, .d (int 0)), (6, .d (ints l)), (7, .d (.int .i64 l.length)), (8, .d (.int .i64 k))], own := [] })
    (fun k => k ≤ l.length ∧ orI l = orI (l.drop k)) (fun k => l.length - k) 0 (by simp) (by simp [ints, int]) ?_
  intro k ⟨hk, hp⟩
  by_cases hlt : k < l.length
  · have e1 : l[k]? = some l[k] := List.getElem?_eq_getElem hlt
    rw [orI_drop hlt] at hp
    simp (decide := true) [ints, int, e1, hlt, I64]
    refine ⟨fun h => ?_, fun h => ⟨by omega, k + 1, ⟨hlt, ?_⟩, by omega, by omega⟩⟩
    · rw [hp, if_neg h]
    · rw [hp, if_pos h]
  · have : k = l.length := by omega
    subst this
    simp (decide := true) [ints, int, hp, orI]
def cmpRf (a b : Rf) : Int := orI [cmpI a.rcd b.rcd, cmpI a.note b.note]
theorem byRef_ok (a b : Rf) : PureR Tryz.prog 59 [refD a, refD b] (int (cmpRf a b)) := by
  refine pure_of_body mixed Tryz.func59 rfl call_59 ?_
  simp (decide := true) [Tryz.f59, refD, Rf.row, int]
  refine scall_pure (by rfl) (by rfl) (compare_ok a.rcd b.rcd) (by simp) ?_
  simp (decide := true) [int]
  refine scall_pure (by rfl) (by rfl) (compare_ok a.note b.note) (by simp) ?_
  simp (decide := true) [int, inOrder, rowsOf, rowOf, symCells]
  refine scall_pure (by rfl) (by rfl) (or_ok [cmpI a.rcd b.rcd, cmpI a.note b.note] (by simp)) (by simp) ?_
  simp (decide := true) [cmpRf, int]
def cmpP (a b : Prt) : Int := orI [cmpI a.entry b.entry, cmpI a.alt b.alt, cmpI a.sense b.sense]
theorem comparePart_ok (a b : Prt) : PureR Tryz.prog 85 [.agg a.row, .agg b.row] (int (cmpP a b)) := by
  refine pure_of_body mixed Tryz.func85 rfl call_85 ?_
  simp (decide := true) [Tryz.f85, Prt.row, int]
  refine scall_pure (by rfl) (by rfl) (compare_ok a.entry b.entry) (by simp) ?_
  simp (decide := true) [int]
  refine scall_pure (by rfl) (by rfl) (compare_ok a.alt b.alt) (by simp) ?_
  simp (decide := true) [int]
  refine scall_pure (by rfl) (by rfl) (compare_ok a.sense b.sense) (by simp) ?_
  simp (decide := true) [int, inOrder, rowsOf, rowOf, symCells]
  refine scall_pure (by rfl) (by rfl) (or_ok [cmpI a.entry b.entry, cmpI a.alt b.alt, cmpI a.sense b.sense] (by simp)) (by simp) ?_
  simp (decide := true) [cmpP, int]
/-- Lists compared by a comparison of their elements. -/
def cmpL {α : Type} (c : α → α → Int) : List α → List α → Int
  | [], [] => 0
  | [], _ :: _ => -1
  | _ :: _, [] => 1
  | a :: l, b :: m => if c a b = 0 then cmpL c l m else c a b
theorem cmpL_drop {α : Type} {c : α → α → Int} {a b : List α} {k : Nat} (h : k < a.length) (h' : k < b.length) : cmpL c (a.drop k) (b.drop k) = if c a[k] b[k] = 0 then cmpL c (a.drop (k + 1)) (b.drop (k + 1)) else c a[k] b[k] := by
  rw [List.drop_eq_getElem_cons h, List.drop_eq_getElem_cons h']; rfl
theorem cmpL_long {α : Type} {c : α → α → Int} {a b : List α} {k : Nat} (h : k < a.length) (h' : b.length ≤ k) : cmpL c (a.drop k) (b.drop k) = 1 := by
  rw [List.drop_eq_getElem_cons h, List.drop_of_length_le h']; rfl
theorem cmpL_end {α : Type} {c : α → α → Int} {a b : List α} (h : a.length ≤ b.length) : cmpL c (a.drop a.length) (b.drop a.length) = if a.length < b.length then -1 else 0 := by
  rw [List.drop_length]
  split
  · rename_i h1; rw [List.drop_eq_getElem_cons h1]; rfl
  · rw [List.drop_of_length_le (by omega)]; rfl
theorem compareFunc_ok (a b : List Prt) (ha : a.length < 2^62) (hb : b.length < 2^62) : PureR Tryz.prog 84 [partsD a, partsD b, .fn 85 []] (int (cmpL cmpP a b)) := by
  refine pure_of_body mixed Tryz.func84 rfl call_84 ?_
  simp [Tryz.f84, partsD]
  refine loop_rule mixed (fun k : Nat => { n := 39, next := 0, slots := [(0, .d (partsD a)), (1, .d (partsD b)), (2, .d (.fn 85 [])), (11, .d (partsD a)), (12, .d (.int .i64 a.length)), (13, .d (.int .i64 k))], own := [] })
    (fun k => k ≤ a.length ∧ k ≤ b.length ∧ cmpL cmpP a b = cmpL cmpP (a.drop k) (b.drop k)) (fun k => a.length - k) 0 (by simp) (by simp [partsD]) ?_
  intro k ⟨hk, hk', hp⟩
  by_cases hlt : k < a.length
  · have e1 : a[k]? = some a[k] := List.getElem?_eq_getElem hlt
    by_cases hlt' : k < b.length
    · have e2 : b[k]? = some b[k] := List.getElem?_eq_getElem hlt'
      rw [cmpL_drop hlt hlt'] at hp
      have hn : ¬ b.length ≤ k := by omega
      simp (decide := true) [partsD, Prt.row, int, e1, e2, hlt, hlt', hn, I64]
      refine ECall.pure (by rfl) (comparePart_ok a[k] b[k]) (by simp) ?_
      simp (decide := true) [int, I64, partsD]
      refine ⟨fun h => ?_, fun h => ⟨by omega, k + 1, ⟨hlt, hlt', ?_⟩, by omega, by omega⟩⟩
      · rw [hp, if_neg h]
      · rw [hp, if_pos h]
    · rw [cmpL_long hlt (by omega)] at hp
      have hn : b.length ≤ k := by omega
      simp (decide := true) [partsD, Prt.row, int, e1, hlt, hn, I64, hp]
  · have : k = a.length := by omega
    subst this
    rw [cmpL_end hk'] at hp
    simp (decide := true) [partsD, int, hp]
theorem cmpI_zero (a b : Int) : cmpI a b = 0 ↔ a = b := by
  unfold cmpI
  by_cases h1 : a < b
  · rw [if_pos h1]; omega
  · rw [if_neg h1]
    by_cases h2 : b < a
    · rw [if_pos h2]; omega
    · rw [if_neg h2]; omega
theorem cmpI_neg (a b : Int) : cmpI a b < 0 ↔ a < b := by
  unfold cmpI
  by_cases h1 : a < b
  · rw [if_pos h1]; omega
  · rw [if_neg h1]
    by_cases h2 : b < a
    · rw [if_pos h2]; omega
    · rw [if_neg h2]; omega
theorem cmpP_zero (a b : Prt) : cmpP a b = 0 ↔ a = b := by
  simp only [cmpP, orI]
  rw [prt_eq]
  by_cases h1 : cmpI a.entry b.entry = 0
  · rw [if_pos h1]
    by_cases h2 : cmpI a.alt b.alt = 0
    · rw [if_pos h2]
      by_cases h3 : cmpI a.sense b.sense = 0
      · rw [if_pos h3]; rw [cmpI_zero] at h1 h2 h3; simp [h1, h2, h3]
      · rw [if_neg h3]; exact ⟨fun h => absurd h h3, fun ⟨_, _, h⟩ => absurd ((cmpI_zero _ _).2 h) h3⟩
    · rw [if_neg h2]; exact ⟨fun h => absurd h h2, fun ⟨_, h, _⟩ => absurd ((cmpI_zero _ _).2 h) h2⟩
  · rw [if_neg h1]; exact ⟨fun h => absurd h h1, fun ⟨h, _, _⟩ => absurd ((cmpI_zero _ _).2 h) h1⟩
theorem cmpP_neg (a b : Prt) : cmpP a b < 0 ↔ lessP a b = true := by
  simp only [cmpP, orI, lessP, cmpI_zero]
  by_cases h1 : a.entry = b.entry
  · rw [if_pos h1, if_pos h1]
    by_cases h2 : a.alt = b.alt
    · rw [if_pos h2, if_pos h2]
      by_cases h3 : a.sense = b.sense
      · rw [if_pos h3]; simp [h3]
      · rw [if_neg h3, cmpI_neg]; simp
    · rw [if_neg h2, if_neg h2, cmpI_neg]; simp
  · rw [if_neg h1, if_neg h1, cmpI_neg]; simp
theorem cmpL_neg : ∀ (a b : List Prt), cmpL cmpP a b < 0 ↔ lessA a b = true
  | [], [] => by simp [cmpL, lessA]
  | [], _ :: _ => by simp [cmpL, lessA]
  | _ :: _, [] => by simp [cmpL, lessA]
  | a :: l, b :: m => by
    simp only [cmpL, lessA]
    by_cases h : a = b
    · rw [if_pos ((cmpP_zero a b).2 h), if_pos h]; exact cmpL_neg l m
    · rw [if_neg (fun e => h ((cmpP_zero a b).1 e)), if_neg h]
      exact cmpP_neg a b
theorem surfaceLess_ok (a b : List Prt) (ha : a.length < 2^62) (hb : b.length < 2^62) : PureR Tryz.prog 60 [anaD a, anaD b] (.bool (lessA a b)) := by
  refine pure_of_body mixed Tryz.func60 rfl call_60 ?_
  simp [Tryz.f60, anaD]
  refine ECall.pure (by rfl) (compareFunc_ok a b ha hb) (by simp) ?_
  have h := cmpL_neg a b
  cases hl : lessA a b <;> rw [hl] at h <;> simp [int] <;> simp at h <;> omega
end Go.V
