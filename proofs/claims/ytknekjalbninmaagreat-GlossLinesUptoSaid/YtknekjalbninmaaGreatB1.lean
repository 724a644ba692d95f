/- A program logic of my own over the kit: part B1. It needs no conditions. -/
import Derived.Test.YtknekjalbninmaaGreatX9
import Derived.Carry
import Derived.ChangeArms
import Derived.WideShapes
import Derived.ChangeOld
import Derived.OpenShut
set_option linter.unusedVariables false
set_option linter.unusedSimpArgs false
set_option linter.unusedSectionVars false
namespace Go.V
variable [Dr] [Ov]
open Go.RowKit Go.WideShapes
inductive Sh where
  | int (k : IntKind)
  | bool
  | str
  | sl (l : List Sh)
  deriving Inhabited
mutual
def FitD : D → Sh → Prop
  | .int k n, s => s = .int k ∧ (Lit.int k n).wf = true
  | .bool _, s => s = .bool
  | .str b, s => s = .str ∧ b.size ≤ maxLen
  | .sl l, s => ∃ shs, s = .sl shs ∧ l.length ≤ maxLen ∧ FitDR l shs
  | _, _ => False
def FitDR : List (List D) → List Sh → Prop
  | [], _ => True
  | r :: rs, shs => FitDs r shs ∧ FitDR rs shs
def FitDs : List D → List Sh → Prop
  | [], shs => shs = []
  | d :: ds, shs => ∃ s r, shs = s :: r ∧ FitD d s ∧ FitDs ds r
end
def shapesF (g : Nat → Option (List Sh)) (P : Program) : List Field → Nat → Option (List Sh)
  | [], _ => some []
  | f :: r, off => if f.offset = off then (match g f.type with
    | some l => if l.length = P.cellsOf f.type then (match shapesF g P r (off + l.length) with
      | some m => some (l ++ m)
      | none => none) else none
    | none => none) else none
def shapes (P : Program) : Nat → Nat → Option (List Sh)
  | 0, _ => none
  | n + 1, t => match P.underlying t with
    | some (.int k) => some [.int k]
    | some .bool => some [.bool]
    | some .string => some [.str]
    | some (.slice e) => (match shapes P n e with
      | some l => if l.length = P.cellsOf e ∧ 0 < l.length then some [.sl l] else none
      | none => none)
    | some (.struct fs) => (match shapesF (shapes P n) P fs.toList 0 with
      | some l => if l.length = P.cellsOf t then some l else none
      | none => none)
    | _ => none
theorem FitDs.len : ∀ {ds : List D} {shs : List Sh}, FitDs ds shs → ds.length = shs.length
  | [], shs, h => by simp only [FitDs] at h; subst h; rfl
  | d :: ds, shs, h => by
    simp only [FitDs] at h
    obtain ⟨s, r, rfl, _, h2⟩ := h
    simp [FitDs.len h2]
theorem FitDs.app : ∀ {ds : List D} {shs : List Sh} {ds' : List D} {shs' : List Sh}, FitDs ds shs → FitDs ds' shs' → FitDs (ds ++ ds') (shs ++ shs')
  | [], shs, ds', shs', h, h' => by simp only [FitDs] at h; subst h; simpa using h'
  | d :: ds, shs, ds', shs', h, h' => by
    simp only [FitDs] at h
    obtain ⟨s, r, rfl, h1, h2⟩ := h
    simp only [List.cons_append, FitDs]
    exact ⟨s, r ++ shs', rfl, h1, FitDs.app h2 h'⟩
section
variable {H : Type} {enc : TypeId × Value → H} {P : Program} {w : World} {base : Nat} {spare : Nat → Bool} {held : Bool}
abbrev Ez : Nat → Prop := fun _ => False
theorem Rcells.app : ∀ {ds : List D} {vs : List Value} {ds' : List D} {vs' : List Value}, Rcells w Ez ds vs → Rcells w Ez ds' vs' → Rcells w Ez (ds ++ ds') (vs ++ vs')
  | [], vs, ds', vs', h, h' => by simp only [Rcells] at h; subst h; simpa using h'
  | d :: ds, vs, ds', vs', h, h' => by
    simp only [Rcells] at h
    obtain ⟨v, us, rfl, h1, h2, h3⟩ := h
    simp only [List.cons_append, Rcells]
    exact ⟨v, us ++ vs', rfl, h1, h2, Rcells.app h3 h'⟩
theorem Rcells.len : ∀ {ds : List D} {vs : List Value}, Rcells w Ez ds vs → ds.length = vs.length
  | [], vs, h => by simp only [Rcells] at h; subst h; rfl
  | d :: ds, vs, h => by
    simp only [Rcells] at h
    obtain ⟨v, us, rfl, h1, h2, h3⟩ := h
    simp [Rcells.len h3]
theorem Rrow_of_cells {b : Nat} : ∀ {ds : List D} {vs : List Value} {off : Nat}, Rcells w Ez ds vs → (∀ i, i < ds.length → w.cell? ⟨b, off + i, none⟩ = vs[i]?) → Rrow w Ez b ds off
  | [], vs, off, _, _ => by simp [Rrow]
  | d :: ds, vs, off, h, hc => by
    simp only [Rcells] at h
    obtain ⟨v, us, rfl, h1, h2, h3⟩ := h
    simp only [Rrow]
    refine ⟨⟨v, by simpa using hc 0 (by simp), h1, h2⟩, Rrow_of_cells h3 fun i hi => ?_⟩
    have := hc (i + 1) (by simp; omega)
    simpa [Nat.add_assoc, Nat.add_comm 1 i] using this
theorem Rrows_of {b sz : Nat} : ∀ {l : List (List D)} {off : Nat}, (∀ i (h : i < l.length), l[i].length = sz ∧ Rrow w Ez b l[i] (off + i * sz)) → Rrows w Ez b sz l off
  | [], off, _ => by simp [Rrows]
  | r :: rs, off, h => by
    simp only [Rrows]
    have h0 := h 0 (by simp)
    simp at h0
    refine ⟨h0.1, h0.2, Rrows_of fun i hi => ?_⟩
    have := h (i + 1) (by simp; omega)
    simp only [List.getElem_cons_succ] at this
    refine ⟨this.1, ?_⟩
    have e : off + (i + 1) * sz = off + sz + i * sz := by rw [Nat.add_mul, Nat.one_mul]; omega
    rw [← e]; exact this.2
theorem FitDR_of : ∀ {l : List (List D)} {shs : List Sh}, (∀ i (h : i < l.length), FitDs l[i] shs) → FitDR l shs
  | [], shs, _ => by simp [FitDR]
  | r :: rs, shs, h => by
    simp only [FitDR]
    exact ⟨h 0 (by simp), FitDR_of fun i hi => h (i + 1) (by simp; omega)⟩
theorem list_of {α : Type} {Q : Nat → α → Prop} : ∀ (n : Nat), (∀ i, i < n → ∃ a, Q i a) → ∃ l : List α, l.length = n ∧ ∀ i (h : i < l.length), Q i l[i]
  | 0, _ => ⟨[], rfl, fun i h => by simp at h⟩
  | n + 1, h => by
    obtain ⟨l, hl, hq⟩ := list_of n fun i hi => h i (by omega)
    obtain ⟨a, ha⟩ := h n (by omega)
    refine ⟨l ++ [a], by simp [hl], fun i hi => ?_⟩
    by_cases e : i < l.length
    · rw [List.getElem_append_left e]; exact hq i e
    · have : i = l.length := by simp at hi; omega
      subst this
      simp [hl, ha]
theorem cell_lt {a : Addr} {v : Value} (h : w.cell? a = some v) : a.block < w.heap.size := by
  unfold World.cell? at h
  split at h
  · rename_i hh
    exact (Array.getElem?_eq_some_iff.1 hh).1
  · simp at h
def FitT (P : Program) (n t : Nat) (d : D) : Prop :=
  match P.underlying t with
  | some (.struct _) => ∃ l shs, d = .agg l ∧ shapes P n t = some shs ∧ FitDs l shs
  | _ => ∃ s, shapes P n t = some [s] ∧ FitD d s
def FitArgs (P : Program) (n : Nat) : List Nat → List D → Prop
  | [], ds => ds = []
  | t :: ts, ds => ∃ d r, ds = d :: r ∧ FitT P n t d ∧ FitArgs P n ts r
theorem trodAll_below (hl : laidOutB P = true) {w' : World} (hb : Below w.heap.size w w') : ∀ {ts : List Nat} {vs : List Value} {ds : List (DataW H)} {ps : List MemPlace},
    (∀ t ∈ ts, P.readableRec t = true ∧ t < P.types.size) → DataW.TrodAll enc P w 0 (fun _ => true) true ts vs ds ps → DataW.TrodAll enc P w' 0 (fun b => decide (b < w.heap.size)) true ts vs ds ps
  | [], vs, ds, ps, _, h => by
    cases vs <;> cases ds <;> simp [DataW.TrodAll] at h ⊢
    exact h
  | t :: ts, vs, ds, ps, hr, h => by
    cases vs with
    | nil => cases ds <;> simp [DataW.TrodAll] at h
    | cons v vs =>
      cases ds with
      | nil => simp [DataW.TrodAll] at h
      | cons d ds =>
        simp only [DataW.TrodAll] at h ⊢
        obtain ⟨p, q, h1, h2, h3⟩ := h
        refine ⟨p, q, Below.trod hl (hr t (by simp)).1 (hr t (by simp)).2 h1 hb.toBelow ?_, trodAll_below hl hb (fun t ht => hr t (by simp [ht])) h2, h3⟩
        obtain ⟨m, hm⟩ := h1
        exact fun x hx => DataW.trod_lt m _ _ _ hm x hx
end
theorem FitDR.decode {α : Type} {row : α → List D} {shs : List Sh} {good : α → Prop} (h : ∀ r, FitDs r shs → ∃ x, r = row x ∧ good x) : ∀ {l : List (List D)}, FitDR l shs → ∃ xs : List α, l = xs.map row ∧ ∀ x ∈ xs, good x
  | [], _ => ⟨[], rfl, by simp⟩
  | r :: rs, hf => by
    simp only [FitDR] at hf
    obtain ⟨x, rfl, hx⟩ := h r hf.1
    obtain ⟨xs, rfl, hxs⟩ := FitDR.decode h hf.2
    exact ⟨x :: xs, rfl, by simpa using ⟨hx, hxs⟩⟩
theorem FitD.sl_decode {α : Type} {row : α → List D} {shs : List Sh} {good : α → Prop} (h : ∀ r, FitDs r shs → ∃ x, r = row x ∧ good x) {d : D} (hf : FitD d (.sl shs)) : ∃ xs : List α, d = .sl (xs.map row) ∧ xs.length ≤ maxLen ∧ ∀ x ∈ xs, good x := by
  cases d <;> simp [FitD] at hf
  obtain ⟨hl, hr⟩ := hf
  obtain ⟨xs, rfl, hx⟩ := FitDR.decode h hr
  exact ⟨xs, rfl, by simpa using hl, hx⟩
theorem FitD.int_decode {d : D} {k : IntKind} (hf : FitD d (.int k)) : ∃ n, d = .int k n ∧ (Lit.int k n).wf = true := by
  cases d <;> simp [FitD] at hf
  obtain ⟨rfl, h⟩ := hf
  exact ⟨_, rfl, h⟩
theorem FitD.bool_decode {d : D} (hf : FitD d .bool) : ∃ b, d = .bool b := by
  cases d <;> simp [FitD] at hf
  exact ⟨_, rfl⟩
theorem FitD.str_decode {d : D} (hf : FitD d .str) : ∃ s, d = .str s ∧ s.size ≤ maxLen := by
  cases d <;> simp [FitD] at hf
  exact ⟨_, rfl, hf⟩
theorem FitDs.cons_decode {ds : List D} {s : Sh} {shs : List Sh} (h : FitDs ds (s :: shs)) : ∃ d r, ds = d :: r ∧ FitD d s ∧ FitDs r shs := by
  cases ds with
  | nil => simp [FitDs] at h
  | cons d r =>
    simp only [FitDs] at h
    obtain ⟨s', r', e, h1, h2⟩ := h
    cases e
    exact ⟨d, r, rfl, h1, h2⟩
theorem FitDs.nil_decode {ds : List D} (h : FitDs ds []) : ds = [] := by
  cases ds with
  | nil => rfl
  | cons d r =>
    simp only [FitDs] at h
    obtain ⟨s', r', e, _⟩ := h
    cases e
end Go.V
