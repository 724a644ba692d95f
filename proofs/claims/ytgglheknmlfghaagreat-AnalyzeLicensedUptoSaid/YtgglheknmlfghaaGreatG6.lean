/- Contracts of chapter 22: where a rule applies, what it makes of a word, and what all rules make, by the program. -/
import Derived.Test.YtgglheknmlfghaaGreatG5
set_option linter.unusedSimpArgs false
set_option linter.unusedVariables false
set_option maxRecDepth 10000
namespace Go.V
open Go Go.Proofs

def idxL (l : List Int) (x : Int) : Int := match l.findIdx? (· = x) with
  | some k => k
  | none => -1
theorem idxL_mem (l : List Int) (x : Int) : (0 ≤ idxL l x ↔ x ∈ l) := by
  unfold idxL
  cases h : l.findIdx? (· = x) with
  | none =>
    rw [List.findIdx?_eq_none_iff] at h
    constructor
    · intro e; change (0 : Int) ≤ -1 at e; omega
    · intro e; have := h x e; simp at this
  | some k =>
    rw [List.findIdx?_eq_some_iff_getElem] at h
    obtain ⟨h1, h2, _⟩ := h
    constructor
    · intro _; have h3 : l[k] = x := by simpa using h2
      rw [← h3]; exact List.getElem_mem h1
    · intro _; exact Int.natCast_nonneg k
theorem index_ok (l : List Int) (x : Int) (hl : l.length < 2^62) : PureR Tryz.prog 148 [ints l, int x] (int (idxL l x)) := by
  refine pure_of_body mixed Tryz.func148 rfl call_148 ?_
  simp [Tryz.f148, ints]
  refine loop_rule mixed (fun k : Nat => { n := 19, next := 0, slots := [(0, .d (ints l)), (1, .d (int x)), (6, .d (ints l)), (7, .d (.int .i64 l.length)), (8, .d (.int .i64 k))], own := [] })
    (fun k => k ≤ l.length ∧ ∀ y ∈ l.take k, y ≠ x) (fun k => l.length - k) 0 (by simp) (by simp [ints, int]) ?_
  intro k ⟨hk, hp⟩
  by_cases hlt : k < l.length
  · have hlt' : (k : Int) < l.length := by omega
    obtain ⟨c, ec⟩ : ∃ c, l[k] = c := ⟨_, rfl⟩
    have e1 : l[k]? = some c := by rw [List.getElem?_eq_getElem hlt, ec]
    by_cases hx : c = x
    · have hf : l.findIdx? (· = x) = some k := by
        rw [List.findIdx?_eq_some_iff_getElem]
        refine ⟨hlt, by simpa [ec] using hx, fun j hj => ?_⟩
        have := hp l[j] (by rw [List.mem_take_iff_getElem]; exact ⟨j, by omega, rfl⟩)
        simpa using this
      subst hx
      simp (decide := true) [ints, int, e1, ec, hlt, hlt', I64, idxL, hf]
    · have hx' : ¬ x = c := fun e => hx e.symm
      simp (decide := true) [ints, int, e1, ec, hlt, hlt', hx, hx', I64]
      exact ⟨⟨by omega, by omega⟩, k + 1, ⟨hlt, take_all hlt hp (by rw [ec]; exact hx)⟩, by omega, by omega⟩
  · have : k = l.length := by omega
    subst this
    have hf : l.findIdx? (· = x) = none := by
      rw [List.findIdx?_eq_none_iff]; intro y hy; have := hp y (by rwa [List.take_length]); simpa using this
    simp (decide := true) [ints, int, idxL, hf]
theorem containsI_ok (l : List Int) (x : Int) (hl : l.length < 2^62) : PureR Tryz.prog 180 [ints l, int x] (.bool (decide (x ∈ l))) := by
  refine pure_of_body mixed Tryz.func180 rfl call_180 ?_
  simp (decide := true) [Tryz.f180, int, ints]
  refine ECall.pure (by rfl) (index_ok l x hl) (fun _ => rfl) ?_
  have := idxL_mem l x
  simp (decide := true) [int, this]
theorem numHas_ok (l : List Int) (x : Int) (hl : l.length < 2^62) : PureR Tryz.prog 167 [ints l, int x] (.bool (decide (x ∈ l))) := by
  refine pure_of_body mixed Tryz.func167 rfl call_167 ?_
  simp (decide := true) [Tryz.f167, int, ints]
  refine ECall.pure (by rfl) (containsI_ok l x hl) (by simp) ?_
  simp (decide := true) [int]
def ctxD (inv : List Phon) (cs : List Cls) : D := .agg [invD inv, clsD cs]
theorem ctxIn_ok (inv : List Phon) (cs : List Cls) (k : Nat) (hk : k < cs.length) (n : Int) (hl : inv.length < 2^62) : PureR Tryz.prog 169 [ctxD inv cs, int k, int n] (.bool (inCls inv n cs[k])) := by
  have hk' : (k : Int) < cs.length := by omega
  obtain ⟨c, ec⟩ : ∃ c, cs[k] = c := ⟨_, rfl⟩
  have e1 : cs[k]? = some c := by rw [List.getElem?_eq_getElem hk, ec]
  rw [ec]
  refine pure_of_body mixed Tryz.func169 rfl call_169 ?_
  simp (decide := true) [Tryz.f169, int, ctxD, clsD, Cls.row, hk, hk', e1, ec]
  refine scall_pure (by rfl) (by rfl) (in_ok inv n c hl) (by simp [int, Cls.row]) ?_
  simp (decide := true) [int]
/-- Segments, as many as there are classes, are in the classes. -/
def fitsE (inv : List Phon) (cs : List Cls) (ws : List Int) : Bool := (ws.zip cs).all fun x => inCls inv x.1 x.2
theorem zip_snoc {α β : Type} {a : List α} {b : List β} {k : Nat} (h : k < a.length) (h' : k < b.length) : (a.take (k + 1)).zip (b.take (k + 1)) = (a.take k).zip (b.take k) ++ [(a[k], b[k])] := by
  rw [take_snocG h, take_snocG h', List.zip_append (by rw [List.length_take, List.length_take]; omega)]; rfl
theorem fits_ok (inv : List Phon) (cs : List Cls) (ws : List Int) (hw : ws.length = cs.length) (hl : inv.length < 2^62) (hc : cs.length < 2^62) :
    PureR Tryz.prog 168 [.fn 169 [], ctxD inv cs, ints ws] (.bool (fitsE inv cs ws)) := by
  refine pure_of_body mixed Tryz.func168 rfl call_168 ?_
  simp (decide := true) [Tryz.f168, int, ctxD, ints]
  refine loop_rule mixed (fun k : Nat => { n := 23, next := 1, slots := [(0, .d (.fn 169 [])), (4, .bp 0 0), (9, .d (ints ws)), (10, .d (.int .i64 ws.length)), (11, .d (.int .i64 k))], own := [(0, .box 212 [.d (invD inv), .d (clsD cs)])] })
    (fun k => k ≤ ws.length ∧ ((ws.take k).zip (cs.take k)).all (fun x => inCls inv x.1 x.2) = true) (fun k => ws.length - k) 0 (by simp) (by simp [ints, int]) ?_
  intro k ⟨hk, hp⟩
  by_cases hlt : k < ws.length
  · have hlt' : (k : Int) < ws.length := by omega
    have hlc : k < cs.length := by omega
    have hI := ctxIn_ok inv cs k hlc ws[k] hl
    have hsn := zip_snoc hlt hlc
    obtain ⟨c, ec⟩ : ∃ c, ws[k] = c := ⟨_, rfl⟩
    have e1 : ws[k]? = some c := by rw [List.getElem?_eq_getElem hlt, ec]
    rw [ec] at hI hsn
    simp (decide := true) [ints, int, e1, ec, hlt, hlt', I64]
    refine ECall.pure (by rfl) hI (by simp [ctxD, int]) ?_
    cases hb : inCls inv c cs[k] with
    | true =>
      simp (decide := true) [ints, int, I64]
      refine ⟨⟨by omega, by omega⟩, k + 1, ⟨hlt, ?_⟩, by omega, by omega⟩
      intro x y hxy
      have hall : ((ws.take (k + 1)).zip (cs.take (k + 1))).all (fun x => inCls inv x.1 x.2) = true := by rw [hsn, List.all_append, hp, Bool.true_and]; simp [hb]
      exact List.all_eq_true.1 hall (x, y) hxy
    | false =>
      have hf : fitsE inv cs ws = false := by
        unfold fitsE
        rw [List.all_eq_false]
        refine ⟨(c, cs[k]), ?_, by rw [hb]; decide⟩
        rw [List.mem_iff_getElem]
        exact ⟨k, by rw [List.length_zip]; omega, by rw [List.getElem_zip, ec]⟩
      simp (decide := true) [ints, int, I64, hf]
  · have : k = ws.length := by omega
    subst this
    rw [List.take_length, hw, List.take_length] at hp
    have hf : fitsE inv cs ws = true := hp
    simp (decide := true) [ints, int, hf]
end Go.V
