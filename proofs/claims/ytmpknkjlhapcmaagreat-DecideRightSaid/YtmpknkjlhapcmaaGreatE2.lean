/- Contracts: decisions compared, checked; by the program and by the reference. -/
import Derived.Test.YtmpknkjlhapcmaaGreatE1
set_option linter.unusedSimpArgs false
set_option linter.unusedVariables false
set_option maxRecDepth 10000
namespace Go.V
open Go Go.Proofs

def rivalsD (d x : Dec) : Bool := d.yes && (x.yes && decide (d.ref = x.ref))
theorem rf_eq {a b : Rf} : a = b ↔ a.rcd = b.rcd ∧ a.note = b.note := by cases a; cases b; simp
theorem rivals_ok (d x : Dec) : PureR Tryz.prog 40 [.agg d.row, .agg x.row] (.bool (rivalsD d x)) := by
  refine pure_of_body mixed Tryz.func40 rfl call_40 ?_
  simp (decide := true) [Tryz.f40, Dec.row, int, rivalsD, rf_eq]
  cases d.yes <;> cases x.yes <;> simp
def lessD (a b : Dec) : Bool := if a.ref.rcd = b.ref.rcd then (if a.ref.note = b.ref.note then lessA a.pick b.pick else decide (a.ref.note < b.ref.note)) else decide (a.ref.rcd < b.ref.rcd)
def Dec.fit (d : Dec) : Prop := d.pick.length < 2^62
theorem less31_ok (a b : Dec) (ha : a.fit) (hb : b.fit) : PureR Tryz.prog 42 [.agg a.row, .agg b.row] (.bool (lessD a b)) := by
  refine pure_of_body mixed Tryz.func42 rfl call_42 ?_
  simp (decide := true) [Tryz.f42, Dec.row, int, lessD]
  refine ⟨fun h h' => absurd h' h, fun h => ⟨fun h2 => ?_, fun h2 => ?_⟩⟩
  · rw [if_pos h, if_neg h2]
  · refine ECall.pure (by rfl) (less29_ok a.pick b.pick ha hb) (by simp) ?_
    simp [if_pos h, if_pos h2]
def cmpD (a b : Dec) : Int := if cmpRf a.ref b.ref = 0 then (if lessA a.pick b.pick = true then -1 else if lessA b.pick a.pick = true then 1 else 0) else cmpRf a.ref b.ref
theorem compareD_ok (a b : Dec) (ha : a.fit) (hb : b.fit) : PureR Tryz.prog 37 [.agg a.row, .agg b.row] (int (cmpD a b)) := by
  refine pure_of_body mixed Tryz.func37 rfl call_37 ?_
  simp (decide := true) [Tryz.f37, Dec.row, int]
  refine ECall.pure (by rfl) (byRef_ok a.ref b.ref) (by simp) ?_
  simp (decide := true) [int]
  refine ⟨fun h => ?_, fun h => ?_⟩
  · rw [cmpD, if_neg h]
  · refine ECall.pure (by rfl) (surfaceLess_ok a.pick b.pick ha hb) (by simp) ?_
    simp (decide := true) [int]
    refine ⟨fun h2 => ?_, fun h2 => ?_⟩
    · rw [cmpD, if_pos h, if_pos h2]
    · refine ECall.pure (by rfl) (surfaceLess_ok b.pick a.pick hb ha) (by simp) ?_
      simp (decide := true) [int]
      refine ⟨fun h3 => ?_, fun h3 => ?_⟩
      · rw [cmpD, if_pos h, if_neg (by simp [h2]), if_pos h3]
      · rw [cmpD, if_pos h, if_neg (by simp [h2]), if_neg (by simp [h3])]
theorem cmpRf_zero (a b : Rf) : cmpRf a b = 0 ↔ a = b := by
  simp only [cmpRf, orI, rf_eq]
  by_cases h1 : cmpI a.rcd b.rcd = 0
  · rw [if_pos h1]
    by_cases h2 : cmpI a.note b.note = 0
    · rw [if_pos h2]; rw [cmpI_zero] at h1 h2; simp [h1, h2]
    · rw [if_neg h2]; exact ⟨fun h => absurd h h2, fun ⟨_, h⟩ => absurd ((cmpI_zero _ _).2 h) h2⟩
  · rw [if_neg h1]; exact ⟨fun h => absurd h h1, fun ⟨h, _⟩ => absurd ((cmpI_zero _ _).2 h) h1⟩
theorem cmpD_neg (a b : Dec) : cmpD a b < 0 ↔ lessD a b = true := by
  unfold cmpD lessD
  by_cases h : cmpRf a.ref b.ref = 0
  · rw [if_pos h]
    have h' := (cmpRf_zero _ _).1 h
    rw [rf_eq] at h'
    rw [if_pos h'.1, if_pos h'.2]
    by_cases h2 : lessA a.pick b.pick = true
    · rw [if_pos h2]; simp [h2]
    · rw [if_neg h2]
      have : ∀ p : Prop, [Decidable p] → ¬ ((if p then (1 : Int) else 0) < 0) := by intro p _; split <;> omega
      exact ⟨fun h3 => absurd h3 (this _), fun h3 => absurd h3 h2⟩
  · rw [if_neg h]
    simp only [cmpRf, orI] at h ⊢
    by_cases h1 : cmpI a.ref.rcd b.ref.rcd = 0
    · rw [if_pos h1] at h ⊢
      rw [if_pos ((cmpI_zero _ _).1 h1)]
      by_cases h2 : cmpI a.ref.note b.ref.note = 0
      · rw [if_pos h2] at h; exact absurd rfl h
      · rw [if_neg h2, if_neg (fun e => h2 ((cmpI_zero _ _).2 e)), cmpI_neg]; simp
    · rw [if_neg h1, if_neg (fun e => h1 ((cmpI_zero _ _).2 e)), cmpI_neg]; simp
theorem cmpD_zero (a b : Dec) : cmpD a b = 0 ↔ a.ref = b.ref ∧ a.pick = b.pick := by
  unfold cmpD
  by_cases h : cmpRf a.ref b.ref = 0
  · rw [if_pos h]
    have h' := (cmpRf_zero _ _).1 h
    have hs := lessA_same a.pick b.pick
    cases h1 : lessA a.pick b.pick <;> cases h2 : lessA b.pick a.pick <;> rw [h1, h2] at hs <;> simp at hs <;> simp [h', hs]
  · rw [if_neg h]
    exact ⟨fun e => absurd e h, fun e => absurd ((cmpRf_zero _ _).2 e.1) h⟩
def isId (n : Int) : Bool := decide (1 ≤ n) && decide (n ≤ 1099511627776)
theorem identifier_ok (n : Int) : PureR Tryz.prog 38 [int n] (.bool (isId n)) := by
  refine pure_of_body mixed Tryz.func38 rfl call_38 ?_
  simp (decide := true) [Tryz.f38, int, isId]
  omega
theorem refIdentifier_ok (n : Int) : PureR Tryz.prog 41 [int n] (.bool (isId n)) := by
  refine pure_of_body mixed Tryz.func41 rfl call_41 ?_
  simp (decide := true) [Tryz.f41, int, isId]
  omega
/-- The index of the first element of a kind; -1 if there is none. -/
def idxI {α : Type} (p : α → Bool) (l : List α) : Int := match l.findIdx? p with
  | some k => k
  | none => -1
theorem idxI_hit {α : Type} {p : α → Bool} {l : List α} {k : Nat} (h : k < l.length) (hp : ∀ e ∈ l.take k, p e = false) (he : p l[k] = true) : l.findIdx? p = some k := by
  rw [List.findIdx?_eq_some_iff_getElem]
  refine ⟨h, he, fun j hj => ?_⟩
  have := hp l[j] (by rw [List.mem_take_iff_getElem]; exact ⟨j, by omega, rfl⟩)
  simpa using this
theorem idxI_miss {α : Type} {p : α → Bool} {l : List α} (hp : ∀ e ∈ l, p e = false) : l.findIdx? p = none := by
  rw [List.findIdx?_eq_none_iff]; exact hp
theorem indexD_ok (l : List Dec) (hl : l.length < 2^62) (f : Nat) (caps : List D) (p : Dec → Bool) (hf : ∀ x ∈ l, PureR Tryz.prog f (.agg x.row :: caps) (.bool (p x))) :
    PureR Tryz.prog 65 [decsD l, .fn f caps] (int (idxI p l)) := by
  refine pure_of_body mixed Tryz.func65 rfl call_65 ?_
  simp [Tryz.f65, decsD]
  refine loop_rule mixed (fun k : Nat => { n := 19, next := 0, slots := [(0, .d (decsD l)), (1, .d (.fn f caps)), (6, .d (decsD l)), (7, .d (.int .i64 l.length)), (8, .d (.int .i64 k))], own := [] })
    (fun k => k ≤ l.length ∧ ∀ e ∈ l.take k, p e = false) (fun k => l.length - k) 0 (by simp) (by simp [decsD]) ?_
  intro k ⟨hk, hp⟩
  by_cases hlt : k < l.length
  · have e1 : l[k]? = some l[k] := List.getElem?_eq_getElem hlt
    simp (decide := true) [decsD, Dec.row, int, e1, hlt, I64]
    refine ECall.pure (lent := false) (by simp [lendsArgs, lends_ds]; rfl) (hf l[k] (List.getElem_mem hlt)) (by simp) ?_
    simp (decide := true) [decsD, I64]
    refine ⟨fun h => ?_, fun h => ⟨by omega, k + 1, ⟨hlt, take_all hlt hp h⟩, by omega, by omega⟩⟩
    simp [idxI, idxI_hit hlt hp h, int]
  · have : k = l.length := by omega
    subst this
    simp (decide := true) [decsD, int]
    simp [idxI, idxI_miss (by simpa using hp)]
theorem idxI_any {α : Type} (p : α → Bool) (l : List α) : decide (0 ≤ idxI p l) = l.any p := by
  unfold idxI
  cases h : l.findIdx? p with
  | none =>
    rw [List.findIdx?_eq_none_iff] at h
    have : l.any p = false := by rw [List.any_eq_false]; intro x hx; rw [h x hx]; simp
    rw [this]; rfl
  | some k =>
    rw [List.findIdx?_eq_some_iff_getElem] at h
    obtain ⟨h1, h2, _⟩ := h
    rw [List.any_eq_true.2 ⟨_, List.getElem_mem h1, h2⟩]
    simp
theorem containsD_ok (l : List Dec) (hl : l.length < 2^62) (f : Nat) (caps : List D) (p : Dec → Bool) (hf : ∀ x ∈ l, PureR Tryz.prog f (.agg x.row :: caps) (.bool (p x))) :
    PureR Tryz.prog 61 [decsD l, .fn f caps] (.bool (l.any p)) := by
  refine pure_of_body mixed Tryz.func61 rfl call_61 ?_
  simp [Tryz.f61, decsD]
  refine ECall.pure (by rfl) (indexD_ok l hl f caps p hf) (by simp) ?_
  simp [int, ← idxI_any]
theorem meets1_ok (d x : Dec) : PureR Tryz.prog 62 [.agg x.row, .ptr [.fn 40 []], .ptr d.row] (.bool (rivalsD d x)) := by
  refine pure_of_body mixed Tryz.func62 rfl call_62 ?_
  simp (decide := true) [Tryz.f62, Dec.row, int]
  refine ECall.pure (by rfl) (rivals_ok d x) (by simp) ?_
  simp
theorem meets_ok (l : List Dec) (hl : l.length < 2^62) (d : Dec) : PureR Tryz.prog 39 [decsD l, .agg d.row, .fn 40 []] (.bool (l.any (rivalsD d))) := by
  refine pure_of_body mixed Tryz.func39 rfl call_39 ?_
  simp (decide := true) [Tryz.f39, Dec.row, int]
  refine ECall.pure (by rfl) (containsD_ok l hl _ _ (rivalsD d) (fun x _ => meets1_ok d x)) (fun _ => rfl) ?_
  simp
end Go.V
