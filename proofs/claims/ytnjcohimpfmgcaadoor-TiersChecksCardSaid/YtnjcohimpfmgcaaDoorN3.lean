/- Documents as plain data; contracts of Get, Copy, Same and of the comparisons. -/
import Derived.Test.YtnjcohimpfmgcaaDoorN1
import Derived.Test.YtnjcohimpfmgcaaDoorW1
set_option linter.unusedSimpArgs false
set_option linter.unusedVariables false
set_option maxRecDepth 10000
namespace Go.V
open Go Go.Proofs

structure Tir where
  name : ByteArray
  kind : Int
  role : Int
  par : Int
  deriving Inhabited, DecidableEq
def Tir.row (t : Tir) : List D := [.str t.name, int t.kind, int t.role, int t.par]
def tiersD (l : List Tir) : D := .sl (l.map Tir.row)
structure Dc where
  id : Int
  name : ByteArray
  len : Int
  day : Int
  spk : List Int
  tiers : List Tir
  notes : List Nt
  deriving DecidableEq
def Dc.row (d : Dc) : List D := [int d.id, .str d.name, int d.len, int d.day, ints d.spk, tiersD d.tiers, notesD d.notes]
def docD (d : Dc) : D := .agg d.row
theorem take_snoc' {α : Type} {l : List α} {k : Nat} (h : k < l.length) : l.take (k + 1) = l.take k ++ [l[k]] := by rw [List.take_succ_eq_append_getElem h]
theorem take_all' {α : Type} {p : α → Prop} {l : List α} {k : Nat} (h : k < l.length) (hp : ∀ e ∈ l.take k, p e) (he : p l[k]) : ∀ e ∈ l.take (k + 1), p e := by
  rw [take_snoc' h]
  intro e hm
  rcases List.mem_append.1 hm with hm | hm
  · exact hp e hm
  · simp at hm; rw [hm]; exact he

@[simp] theorem bytes_toList {a b : ByteArray} : a.toList = b.toList ↔ a = b := by
  rw [← MapKept.bytes_beq, beq_toListBytes, beq_iff_eq]

/-! ### some -/
def someD (d : Dc) : Bool := decide (d.notes.length ≤ 310) && decide (d.tiers.length ≤ 20) && decide (d.spk.length ≤ 100)
theorem some_ok (d : Dc) : PureR Tryd.prog 16 [docD d] (.bool (someD d)) := by
  refine pure_of_body mixed Tryd.func16 rfl call_16 ?_
  by_cases h1 : d.notes.length ≤ 310
  · have g1 : (d.notes.length : Int) ≤ 310 := by omega
    by_cases h2 : d.tiers.length ≤ 20
    · have g2 : (d.tiers.length : Int) ≤ 20 := by omega
      simp (decide := true) [Tryd.f16, docD, Dc.row, notesD, tiersD, ints, int, someD, h1, h2, g1, g2]
      omega
    · have g2 : ¬ (d.tiers.length : Int) ≤ 20 := by omega
      simp (decide := true) [Tryd.f16, docD, Dc.row, notesD, tiersD, ints, int, someD, h1, h2, g1, g2]
  · have g1 : ¬ (d.notes.length : Int) ≤ 310 := by omega
    simp (decide := true) [Tryd.f16, docD, Dc.row, notesD, tiersD, ints, int, someD, h1, g1]
structure Dc.fit (d : Dc) : Prop where
  notes : d.notes.length ≤ 320
  tiers : d.tiers.length ≤ 20
  spk : d.spk.length ≤ 100
theorem someD_fit {d : Dc} (h : someD d = true) : d.fit := by
  simp only [someD, Bool.and_eq_true, decide_eq_true_eq] at h
  exact ⟨by omega, by omega, by omega⟩

/-! ### Copy -/
theorem copy_ok (d : Dc) (h : d.fit) : PureR Tryd.prog 18 [docD d] (docD d) := by
  obtain ⟨h1, h2, h3⟩ := h
  refine pure_of_body_frz mixed Tryd.func18 rfl call_18 [2, 3, 4] ?_
  simp (decide := true) [Tryd.f18, docD, Dc.row, notesD, tiersD, ints, int]
  unfold maxLen
  exact ⟨by omega, by omega, fun _ _ => rfl, by omega, by omega, fun _ _ => rfl, by omega, by omega⟩

/-! ### Get -/
def Nt.zero : Nt := ⟨0, 0, 0, 0, 0, 0, ⟨#[]⟩⟩
/-- The note of an Id. -/
def getN (l : List Nt) (id : Int) : Nt × Bool := match l.find? (fun n => decide (n.id = id)) with
  | some n => (n, true)
  | none => (Nt.zero, false)
def getD' (r : Nt × Bool) : D := .tup [.agg r.1.row, .bool r.2]
theorem getN_hit {l : List Nt} {id : Int} {k : Nat} (h : k < l.length) (hp : ∀ e ∈ l.take k, e.id ≠ id) (he : l[k].id = id) : getN l id = (l[k], true) := by
  have : l.find? (fun n => decide (n.id = id)) = some l[k] := by
    rw [List.find?_eq_some_iff_append]
    refine ⟨by simpa using he, l.take k, l.drop (k + 1), by rw [List.getElem_cons_drop, List.take_append_drop], fun e hm => by simpa using hp e hm⟩
  simp [getN, this]
theorem getN_miss {l : List Nt} {id : Int} (hp : ∀ e ∈ l, e.id ≠ id) : getN l id = (Nt.zero, false) := by
  have : l.find? (fun n => decide (n.id = id)) = none := by rw [List.find?_eq_none]; intro e he; simpa using hp e he
  simp [getN, this]
abbrev docCells (d : Dc) : List Sym := [.d (int d.id), .d (.str d.name), .d (int d.len), .d (int d.day), .d (ints d.spk), .d (tiersD d.tiers), .d (notesD d.notes)]
abbrev noteCells (n : Nt) : List Sym := [.d (int n.id), .d (int n.tier), .d (int n.par), .d (int n.fr), .d (int n.tO), .d (int n.rank), .d (.str n.text)]
theorem get_ok (d : Dc) (id : Int) (hl : d.notes.length < 2^62) : PureR Tryd.prog 20 [docD d, int id] (getD' (getN d.notes id)) := by
  refine pure_of_body mixed Tryd.func20 rfl call_20 ?_
  simp (decide := true) [Tryd.f20, docD, Dc.row, notesD, tiersD, ints, int]
  refine loop_rule mixed (fun k : Nat => { n := 22, next := 2, slots := [(1, .d (int id)), (2, .bp 0 0), (4, .bp 1 0), (5, .d (.bool false)), (9, .d (notesD d.notes)), (10, .d (.int .i64 d.notes.length)), (11, .d (.int .i64 k))], own := [(0, .box 32 (docCells d)), (1, .box 39 (noteCells Nt.zero))] })
    (fun k => k ≤ d.notes.length ∧ ∀ e ∈ d.notes.take k, e.id ≠ id) (fun k => d.notes.length - k) 0 (by simp) (by simp (decide := true) [notesD, tiersD, ints, int, Nt.zero]) ?_
  intro k ⟨hk, hp⟩
  by_cases hlt : k < d.notes.length
  · have e1 : d.notes[k]? = some d.notes[k] := List.getElem?_eq_getElem hlt
    simp (decide := true) [notesD, tiersD, ints, int, Nt.row, Nt.zero, e1, hlt, I64]
    refine ⟨fun h => ?_, fun h => ⟨by omega, k + 1, ⟨hlt, take_all' hlt hp h⟩, by omega, by omega⟩⟩
    simp [getD', getN_hit hlt hp h, Nt.row, int]
  · have : k = d.notes.length := by omega
    subst this
    rw [List.take_length] at hp
    simp (decide := true) [notesD, tiersD, ints, int, getN_miss hp, getD', Nt.row, Nt.zero]
theorem refGet_ok (d : Dc) (id : Int) (hl : d.notes.length < 2^62) : PureR Tryd.prog 21 [docD d, int id] (getD' (getN d.notes id)) := by
  refine pure_of_body mixed Tryd.func21 rfl call_21 ?_
  simp (decide := true) [Tryd.f21, docD, Dc.row, notesD, tiersD, ints, int]
  refine loop_rule mixed (fun k : Nat => { n := 28, next := 2, slots := [(1, .d (int id)), (2, .bp 0 0), (4, .bp 1 0), (5, .d (.bool false)), (6, .d (.int .i64 k))], own := [(0, .box 32 (docCells d)), (1, .box 39 (noteCells Nt.zero))] })
    (fun k => k ≤ d.notes.length ∧ ∀ e ∈ d.notes.take k, e.id ≠ id) (fun k => d.notes.length - k) 0 (by simp) (by simp (decide := true) [notesD, tiersD, ints, int, Nt.zero]) ?_
  intro k ⟨hk, hp⟩
  by_cases hlt : k < d.notes.length
  · have e1 : d.notes[k]? = some d.notes[k] := List.getElem?_eq_getElem hlt
    simp (decide := true) [notesD, tiersD, ints, int, Nt.row, Nt.zero, e1, hlt, I64]
    refine ⟨fun h => ?_, fun h => ⟨by omega, k + 1, ⟨hlt, take_all' hlt hp h⟩, by omega, by omega⟩⟩
    simp [getD', getN_hit hlt hp h, Nt.row, int]
  · have : k = d.notes.length := by omega
    subst this
    rw [List.take_length] at hp
    simp (decide := true) [notesD, tiersD, ints, int, getN_miss hp, getD', Nt.row, Nt.zero]

/-! ### lists held against each other -/
theorem ints_ok (a b : List Int) (hb : b.length < 2^62) : PureR Tryd.prog 23 [ints a, ints b] (.bool (decide (a = b))) := by
  refine pure_of_body mixed Tryd.func23 rfl call_23 ?_
  simp [Tryd.f23, ints]
  refine ⟨fun h e => h (by rw [e]), fun h => ?_⟩
  refine loop_rule mixed (fun k : Nat => { n := 26, next := 0, slots := [(0, .d (ints a)), (1, .d (ints b)), (5, .d (.int .i64 k))], own := [] })
    (fun k => k ≤ a.length ∧ a.take k = b.take k) (fun k => a.length - k) 0 (by simp) (by simp [ints]) ?_
  intro k ⟨hk, hp⟩
  have h : a.length = b.length := by omega
  by_cases hlt : k < a.length
  · have e1 : a[k]? = some a[k] := List.getElem?_eq_getElem hlt
    have e2 : b[k]? = some (b[k]'(by omega)) := List.getElem?_eq_getElem (by omega)
    have hlt' : k < b.length := by omega
    simp (decide := true) [ints, int, e1, e2, hlt, hlt', I64]
    refine ⟨fun hne e => by subst e; simp at hne, fun he => ⟨by omega, k + 1, ⟨hlt, ?_⟩, by omega, by omega⟩⟩
    rw [take_snoc' hlt, take_snoc' hlt', hp, he]
  · have : k = a.length := by omega
    subst this
    simp (decide := true) [ints]
    rw [List.take_length, h, List.take_length] at hp
    exact hp
theorem eqInts_ok (a b : List Int) (hb : b.length < 2^62) : PureR Tryd.prog 45 [ints a, ints b] (.bool (decide (a = b))) := by
  refine pure_of_body mixed Tryd.func45 rfl call_45 ?_
  simp [Tryd.f45, ints]
  refine ⟨fun h e => h (by rw [e]), fun h => ?_⟩
  refine loop_rule mixed (fun k : Nat => { n := 26, next := 0, slots := [(0, .d (ints a)), (1, .d (ints b)), (12, .d (.int .i64 a.length)), (13, .d (.int .i64 k))], own := [] })
    (fun k => k ≤ a.length ∧ a.take k = b.take k) (fun k => a.length - k) 0 (by simp) (by simp [ints]) ?_
  intro k ⟨hk, hp⟩
  have h : a.length = b.length := by omega
  by_cases hlt : k < a.length
  · have e1 : a[k]? = some a[k] := List.getElem?_eq_getElem hlt
    have e2 : b[k]? = some (b[k]'(by omega)) := List.getElem?_eq_getElem (by omega)
    have hlt' : k < b.length := by omega
    simp (decide := true) [ints, int, e1, e2, hlt, hlt', I64]
    refine ⟨fun hne e => by subst e; simp at hne, fun he => ⟨by omega, k + 1, ⟨hlt, ?_⟩, by omega, by omega⟩⟩
    rw [take_snoc' hlt, take_snoc' hlt', hp, he]
  · have : k = a.length := by omega
    subst this
    simp (decide := true) [ints]
    rw [List.take_length, h, List.take_length] at hp
    exact hp
theorem eqTiers_ok (a b : List Tir) (hb : b.length < 2^62) : PureR Tryd.prog 46 [tiersD a, tiersD b] (.bool (decide (a = b))) := by
  refine pure_of_body mixed Tryd.func46 rfl call_46 ?_
  simp [Tryd.f46, tiersD]
  refine ⟨fun h e => h (by rw [e]), fun h => ?_⟩
  refine loop_rule mixed (fun k : Nat => { n := 26, next := 0, slots := [(0, .d (tiersD a)), (1, .d (tiersD b)), (12, .d (.int .i64 a.length)), (13, .d (.int .i64 k))], own := [] })
    (fun k => k ≤ a.length ∧ a.take k = b.take k) (fun k => a.length - k) 0 (by simp) (by simp [tiersD]) ?_
  intro k ⟨hk, hp⟩
  have h : a.length = b.length := by omega
  by_cases hlt : k < a.length
  · have e1 : a[k]? = some a[k] := List.getElem?_eq_getElem hlt
    have e2 : b[k]? = some (b[k]'(by omega)) := List.getElem?_eq_getElem (by omega)
    have hlt' : k < b.length := by omega
    simp (decide := true) [tiersD, Tir.row, int, e1, e2, hlt, hlt', I64]
    refine ⟨fun hne e => by subst e; simp at hne, fun h1 h2 h3 h4 => ⟨by omega, k + 1, ⟨hlt, ?_⟩, by omega, by omega⟩⟩
    have he : a[k] = b[k] := by
      rcases hA : a[k] with ⟨x1, x2, x3, x4⟩
      rcases hB : b[k] with ⟨y1, y2, y3, y4⟩
      rw [hA, hB] at h1 h2 h3 h4
      simp only at h1 h2 h3 h4
      rw [h1, h2, h3, h4]
    rw [take_snoc' hlt, take_snoc' hlt', hp, he]
  · have : k = a.length := by omega
    subst this
    simp (decide := true) [tiersD]
    rw [List.take_length, h, List.take_length] at hp
    exact hp
theorem eqNotes_ok (a b : List Nt) (hb : b.length < 2^62) : PureR Tryd.prog 47 [notesD a, notesD b] (.bool (decide (a = b))) := by
  refine pure_of_body mixed Tryd.func47 rfl call_47 ?_
  simp [Tryd.f47, notesD]
  refine ⟨fun h e => h (by rw [e]), fun h => ?_⟩
  refine loop_rule mixed (fun k : Nat => { n := 26, next := 0, slots := [(0, .d (notesD a)), (1, .d (notesD b)), (12, .d (.int .i64 a.length)), (13, .d (.int .i64 k))], own := [] })
    (fun k => k ≤ a.length ∧ a.take k = b.take k) (fun k => a.length - k) 0 (by simp) (by simp [notesD]) ?_
  intro k ⟨hk, hp⟩
  have h : a.length = b.length := by omega
  by_cases hlt : k < a.length
  · have e1 : a[k]? = some a[k] := List.getElem?_eq_getElem hlt
    have e2 : b[k]? = some (b[k]'(by omega)) := List.getElem?_eq_getElem (by omega)
    have hlt' : k < b.length := by omega
    simp (decide := true) [notesD, Nt.row, int, e1, e2, hlt, hlt', I64]
    refine ⟨fun hne e => by subst e; simp at hne, fun h1 h2 h3 h4 h5 h6 h7 => ⟨by omega, k + 1, ⟨hlt, ?_⟩, by omega, by omega⟩⟩
    have he : a[k] = b[k] := by
      rcases hA : a[k] with ⟨x1, x2, x3, x4, x5, x6, x7⟩
      rcases hB : b[k] with ⟨y1, y2, y3, y4, y5, y6, y7⟩
      rw [hA, hB] at h1 h2 h3 h4 h5 h6 h7
      simp only at h1 h2 h3 h4 h5 h6 h7
      rw [h1, h2, h3, h4, h5, h6, h7]
    rw [take_snoc' hlt, take_snoc' hlt', hp, he]
  · have : k = a.length := by omega
    subst this
    simp (decide := true) [notesD]
    rw [List.take_length, h, List.take_length] at hp
    exact hp
end Go.V
