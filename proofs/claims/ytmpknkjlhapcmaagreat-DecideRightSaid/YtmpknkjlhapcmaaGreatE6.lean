/- Contracts: the decision that is picked; decisions without those about a note. -/
import Derived.Test.YtmpknkjlhapcmaaGreatE4
set_option linter.unusedSimpArgs false
set_option linter.unusedVariables false
set_option maxRecDepth 10000
namespace Go.V
open Go Go.Proofs

@[simp] theorem decRow_len (d : Dec) : d.row.length = 4 := rfl
def pickedL (l : List Dec) (r : Rf) : List Prt × Bool := match l.find? (fun d => decide (d.ref = r) && d.yes) with
  | some d => (d.pick, true)
  | none => ([], false)
theorem find_hit {α : Type} {p : α → Bool} {l : List α} {k : Nat} (h : k < l.length) (hp : ∀ e ∈ l.take k, p e = false) (he : p l[k] = true) : l.find? p = some l[k] := by
  rw [List.find?_eq_some_iff_getElem]
  refine ⟨he, k, h, rfl, fun j hj => ?_⟩
  have := hp l[j] (by rw [List.mem_take_iff_getElem]; exact ⟨j, by omega, rfl⟩)
  simpa using this
theorem find_miss {α : Type} {p : α → Bool} {l : List α} (hp : ∀ e ∈ l, p e = false) : l.find? p = none := by
  rw [List.find?_eq_none]; intro e he; simpa using hp e he
theorem picked_ok (l : List Dec) (r : Rf) (hl : l.length < 2^62) : PureR Tryz.prog 21 [decsD l, refD r] (.tup [anaD (pickedL l r).1, .bool (pickedL l r).2]) := by
  refine pure_of_body mixed Tryz.func21 rfl call_21 ?_
  simp [Tryz.f21, decsD, refD, Rf.row, int, Value.oneCell']
  refine loop_rule mixed (fun k : Nat => { n := 26, next := 2, slots := [(3, .bp 0 0), (4, .bp 1 0), (8, .d (decsD l)), (9, .d (.int .i64 l.length)), (10, .d (.int .i64 k))], own := [(0, .box 28 [.d (int r.rcd), .d (int r.note)]), (1, .box 31 [.nils])] })
    (fun k => k ≤ l.length ∧ ∀ e ∈ l.take k, (decide (e.ref = r) && e.yes) = false) (fun k => l.length - k) 0 (by simp) (by simp [decsD, int]) ?_
  intro k ⟨hk, hp⟩
  by_cases hlt : k < l.length
  · have e1 : l[k]? = some l[k] := List.getElem?_eq_getElem hlt
    have hgo : (decide (l[k].ref = r) && l[k].yes) = false → ∀ e ∈ l.take (k + 1), (decide (e.ref = r) && e.yes) = false := fun h => take_all hlt hp h
    by_cases g : l[k].ref = r
    · have g' := rf_eq.1 g
      cases y : l[k].yes
      · simp (decide := true) [decsD, Dec.row, int, e1, hlt, I64, g'.1, g'.2, y]
        exact ⟨by omega, k + 1, ⟨hlt, by simpa using hgo (by simp [y])⟩, by omega, by omega⟩
      · have hh := find_hit hlt hp (by simp [g, y])
        simp (decide := true) [decsD, Dec.row, int, e1, hlt, I64, g'.1, g'.2, y, pickedL, hh, anaD]
    · have g' : l[k].ref.rcd = r.rcd → ¬ l[k].ref.note = r.note := fun a b => g (rf_eq.2 ⟨a, b⟩)
      by_cases g1 : l[k].ref.rcd = r.rcd
      · have g2 := g' g1
        simp (decide := true) [decsD, Dec.row, int, e1, hlt, I64, g1, g2]
        exact ⟨by omega, k + 1, ⟨hlt, by simpa using hgo (by simp [g])⟩, by omega, by omega⟩
      · simp (decide := true) [decsD, Dec.row, int, e1, hlt, I64, g1]
        exact ⟨by omega, k + 1, ⟨hlt, by simpa using hgo (by simp [g])⟩, by omega, by omega⟩
  · have : k = l.length := by omega
    subst this
    rw [List.take_length] at hp
    have hh := find_miss hp
    simp (decide := true) [decsD, int, pickedL, hh, anaD, partsD]
theorem refPicked_ok (l : List Dec) (r : Rf) (hl : l.length < 2^62) : PureR Tryz.prog 22 [decsD l, refD r] (.tup [anaD (pickedL l r).1, .bool (pickedL l r).2]) := by
  refine pure_of_body mixed Tryz.func22 rfl call_22 ?_
  simp [Tryz.f22, decsD, refD, Rf.row, int, Value.oneCell']
  refine loop_rule mixed (fun k : Nat => { n := 33, next := 2, slots := [(0, .d (decsD l)), (3, .bp 0 0), (4, .bp 1 0), (7, .d (decsD l)), (8, .d (.int .i64 l.length)), (9, .d (.int .i64 k))], own := [(0, .box 28 [.d (int r.rcd), .d (int r.note)]), (1, .box 31 [.nils])] })
    (fun k => k ≤ l.length ∧ ∀ e ∈ l.take k, (decide (e.ref = r) && e.yes) = false) (fun k => l.length - k) 0 (by simp) (by simp [decsD, int]) ?_
  intro k ⟨hk, hp⟩
  by_cases hlt : k < l.length
  · have e1 : l[k]? = some l[k] := List.getElem?_eq_getElem hlt
    have hgo : (decide (l[k].ref = r) && l[k].yes) = false → ∀ e ∈ l.take (k + 1), (decide (e.ref = r) && e.yes) = false := fun h => take_all hlt hp h
    by_cases g : l[k].ref = r
    · have g' := rf_eq.1 g
      cases y : l[k].yes
      · simp (decide := true) [decsD, Dec.row, int, e1, hlt, I64, g'.1, g'.2, y]
        exact ⟨by omega, k + 1, ⟨hlt, by simpa using hgo (by simp [y])⟩, by omega, by omega⟩
      · have hh := find_hit hlt hp (by simp [g, y])
        simp (decide := true) [decsD, Dec.row, int, e1, hlt, I64, g'.1, g'.2, y, pickedL, hh, anaD]
    · have g' : l[k].ref.rcd = r.rcd → ¬ l[k].ref.note = r.note := fun a b => g (rf_eq.2 ⟨a, b⟩)
      by_cases g1 : l[k].ref.rcd = r.rcd
      · have g2 := g' g1
        simp (decide := true) [decsD, Dec.row, int, e1, hlt, I64, g1, g2]
        exact ⟨by omega, k + 1, ⟨hlt, by simpa using hgo (by simp [g])⟩, by omega, by omega⟩
      · simp (decide := true) [decsD, Dec.row, int, e1, hlt, I64, g1]
        exact ⟨by omega, k + 1, ⟨hlt, by simpa using hgo (by simp [g])⟩, by omega, by omega⟩
  · have : k = l.length := by omega
    subst this
    rw [List.take_length] at hp
    have hh := find_miss hp
    simp (decide := true) [decsD, int, pickedL, hh, anaD, partsD]
def dropL (l : List Dec) (r : Rf) : List Dec := l.filter fun d => !decide (d.ref = r)
theorem filter_snoc {α : Type} {p : α → Bool} {l : List α} {k : Nat} (h : k < l.length) : (l.take (k + 1)).filter p = (l.take k).filter p ++ (if p l[k] = true then [l[k]] else []) := by
  rw [take_snoc h, List.filter_append]
  congr 1
  simp [List.filter_cons]
theorem filter_len {α : Type} (p : α → Bool) (l : List α) (k : Nat) : ((l.take k).filter p).length ≤ l.length := by
  have h1 := List.length_filter_le p (l.take k)
  have h2 := List.length_take_le k l
  simp only [List.length_take] at h1
  omega
theorem refDrop_ok (l : List Dec) (r : Rf) (hl : l.length < 2^40) : PureR Tryz.prog 24 [decsD l, refD r] (decsD (dropL l r)) := by
  refine pure_of_body mixed Tryz.func24 rfl call_24 ?_
  simp [Tryz.f24, decsD, refD, Rf.row, int]
  refine loop_rule mixed (fun k : Nat => { n := 28, next := 3, slots := [(0, .d (decsD l)), (3, .bp 0 0), (5, .ar 2), (7, .d (decsD l)), (8, .d (.int .i64 l.length)), (9, .d (.int .i64 k))], own := [(0, .box 28 [.d (int r.rcd), .d (int r.note)]), (2, .arr 33 4 (((l.take k).filter fun d => !decide (d.ref = r)).map Dec.row))], moved := [2] })
    (fun k => k ≤ l.length) (fun k => l.length - k) 0 (by simp) (by simp [decsD, int]) ?_
  intro k hk
  by_cases hlt : k < l.length
  · have e1 : l[k]? = some l[k] := List.getElem?_eq_getElem hlt
    have hfs := filter_snoc (p := fun d : Dec => !decide (d.ref = r)) hlt
    have hln := filter_len (fun d : Dec => !decide (d.ref = r)) l k
    by_cases g : l[k].ref = r
    · have g' := rf_eq.1 g
      simp [g] at hfs
      simp (decide := true) [decsD, Dec.row, int, e1, hlt, I64, g'.1, g'.2]
      exact ⟨by omega, k + 1, hlt, by omega, by omega, by simp [hfs]⟩
    · have g' : l[k].ref.rcd = r.rcd → ¬ l[k].ref.note = r.note := fun a b => g (rf_eq.2 ⟨a, b⟩)
      simp [g] at hfs
      by_cases g1 : l[k].ref.rcd = r.rcd
      · have g2 := g' g1
        simp (decide := true) [decsD, Dec.row, int, e1, hlt, I64, g1, g2, maxLen]
        exact ⟨by omega, by omega, by omega, k + 1, hlt, by omega, by omega, by simp [hfs, Dec.row, int, g1]⟩
      · simp (decide := true) [decsD, Dec.row, int, e1, hlt, I64, g1, maxLen]
        exact ⟨by omega, by omega, by omega, k + 1, hlt, by omega, by omega, by simp [hfs, Dec.row, int]⟩
  · have : k = l.length := by omega
    subst this
    simp (decide := true) [decsD, int, dropL]
end Go.V
