/- A program logic of my own over the kit: part B1. It needs no conditions. -/
import Derived.Test.YtknekjalbninmaaGreatX9
import Derived.Carry
import Derived.ChangeArms
import Derived.WideShapes
import Derived.ChangeOld
import Derived.OpenShut
set_option linter.unusedVariables false
set_option linter.unusedSimpArgs false
set_option linter.unusedSectionVars false
namespace Go.V
variable [Dr] [Ov]
open Go.RowKit Go.WideShapes
inductive Sh where
  | int (k : IntKind)
  | bool
  | str
  | sl (l : List Sh)
  deriving Inhabited
mutual
def FitD : D → Sh → Prop
  | .int k n, s => s = .int k ∧ (Lit.int k n).wf = true
  | .bool _, s => s = .bool
  | .str b, s => s = .str ∧ b.size ≤ maxLen
  | .sl l, s => ∃ shs, s = .sl shs ∧ l.length ≤ maxLen ∧ FitDR l shs
  | _, _ => False
def FitDR : List (List D) → List Sh → Prop
  | [], _ => True
  | r :: rs, shs => FitDs r shs ∧ FitDR rs shs
def FitDs : List D → List Sh → Prop
  | [], shs => shs = []
  | d :: ds, shs => ∃ s r, shs = s :: r ∧ FitD d s ∧ FitDs ds r
end
def shapesF (g : Nat → Option (List Sh)) (P : Program) : List Field → Nat → Option (List Sh)
  | [], _ => some []
  | f :: r, off => if f.offset = off then (match g f.type with
    | some l => if l.length = P.cellsOf f.type then (match shapesF g P r (off + l.length) with
      | some m => some (l ++ m)
      | none => none) else none
    | none => none) else none
def shapes (P : Program) : Nat → Nat → Option (List Sh)
  | 0, _ => none
  | n + 1, t => match P.underlying t with
    | some (.int k) => some [.int k]
    | some .bool => some [.bool]
    | some .string => some [.str]
    | some (.slice e) => (match shapes P n e with
      | some l => if l.length = P.cellsOf e ∧ 0 < l.length then some [.sl l] else none
      | none => none)
    | some (.struct fs) => (match shapesF (shapes P n) P fs.toList 0 with
      | some l => if l.length = P.cellsOf t then some l else none
      | none => none)
    | _ => none
theorem FitDs.len : ∀ {ds : List D} {shs : List Sh}, FitDs ds shs → ds.length = shs.length
  | [], shs, h => by simp only [FitDs] at h; subst h; rfl
  | d :: ds, shs, h => by
    simp only [FitDs] at h
    obtain ⟨s, r, rfl, _, h2⟩ := h
    simp [FitDs.len h2]
theorem FitDs.app : ∀ {ds : List D} {shs : List Sh} {ds' : List D} {shs' : List Sh}, FitDs ds shs → FitDs ds' shs' → FitDs (ds ++ ds') (shs ++ shs')
  | [], shs, ds', shs', h, h' => by simp only [FitDs] at h; subst h; simpa using h'
  | d :: ds, shs, ds', shs', h, h' => by
    simp only [FitDs] at h
    obtain ⟨s, r, rfl, h1, h2⟩ := h
    simp only [List.cons_append, FitDs]
    exact ⟨s, r ++ shs', rfl, h1, FitDs.app h2 h'⟩
section
variable {H : Type} {enc : TypeId × Value → H} {P : Program} {w : World} {base : Nat} {spare : Nat → Bool} {held : Bool}
abbrev Ez : Nat → Prop := fun _ => False
theorem Rcells.app : ∀ {ds : List D} {vs : List Value} {ds' : List D} {vs' : List Value}, Rcells w Ez ds vs → Rcells w Ez ds' vs' → Rcells w Ez (ds ++ ds') (vs ++ vs')
  | [], vs, ds', vs', h, h' => by simp only [Rcells] at h; subst h; simpa using h'
  | d :: ds, vs, ds', vs', h, h' => by
    simp only [Rcells] at h
    obtain ⟨v, us, rfl, h1, h2, h3⟩ := h
    simp only [List.cons_append, Rcells]
    exact ⟨v, us ++ vs', rfl, h1, h2, Rcells.app h3 h'⟩
theorem Rcells.len : ∀ {ds : List D} {vs : List Value}, Rcells w Ez ds vs → ds.length = vs.length
  | [], vs, h => by simp only [Rcells] at h; subst h; rfl
  | d :: ds, vs, h => by
    simp only [Rcells] at h
    obtain ⟨v, us, rfl, h1, h2, h3⟩ := h
    simp [Rcells.len h3]
theorem Rrow_of_cells {b : Nat} : ∀ {ds : List D} {vs : List Value} {off : Nat}, Rcells w Ez ds vs → (∀ i, i < ds.length → w.cell? ⟨b, off + i, none⟩ = vs[i]?) → Rrow w Ez b ds off
  | [], vs, off, _, _ => by simp [Rrow]
  | d :: ds, vs, off, h, hc => by
    simp only [Rcells] at h
    obtain ⟨v, us, rfl, h1, h2, h3⟩ := h
    simp only [Rrow]
    refine ⟨⟨v, by simpa using hc 0 (by simp), h1, h2⟩, Rrow_of_cells h3 fun i hi => ?_⟩
    have := hc (i + 1) (by simp; omega)
    simpa [Nat.add_assoc, Nat.add_comm 1 i] using this
theorem Rrows_of {b sz : Nat} : ∀ {l : List (List D)} {off : Nat}, (∀ i (h : i < l.length), l[i].length = sz ∧ Rrow w Ez b l[i] (off + i * sz)) → Rrows w Ez b sz l off
  | [], off, _ => by simp [Rrows]
  | r :: rs, off, h => by
    simp only [Rrows]
    have h0 := h 0 (by simp)
    simp at h0
    refine ⟨h0.1, h0.2, Rrows_of fun i hi => ?_⟩
    have := h (i + 1) (by simp; omega)
    simp only [List.getElem_cons_succ] at this
    refine ⟨this.1, ?_⟩
    have e : off + (i + 1) * sz = off + sz + i * sz := by rw [Nat.add_mul, Nat.one_mul]; omega
    rw [← e]; exact this.2
theorem FitDR_of : ∀ {l : List (List D)} {shs : List Sh}, (∀ i (h : i < l.length), FitDs l[i] shs) → FitDR l shs
  | [], shs, _ => by simp [FitDR]
  | r :: rs, shs, h => by
    simp only [FitDR]
    exact ⟨h 0 (by simp), FitDR_of fun i hi => h (i + 1) (by simp; omega)⟩
theorem list_of {α : Type} {Q : Nat → α → Prop} : ∀ (n : Nat), (∀ i, i < n → ∃ a, Q i a) → ∃ l : List α, l.length = n ∧ ∀ i (h : i < l.length), Q i l[i]
  | 0, _ => ⟨[], rfl, fun i h => by simp at h⟩
  | n + 1, h => by
    obtain ⟨l, hl, hq⟩ := list_of n fun i hi => h i (by omega)
    obtain ⟨a, ha⟩ := h n (by omega)
    refine ⟨l ++ [a], by simp [hl], fun i hi => ?_⟩
    by_cases e : i < l.length
    · rw [List.getElem_append_left e]; exact hq i e
    · have : i = l.length := by simp at hi; omega
      subst this
      simp [hl, ha]
theorem fields_cells {g : Nat → Option (List Sh)} {m : Nat} {cs : List Value} {Q : Field → Option (DataW H × List MemPlace)}
    (hg : ∀ (f : Field) (l : List Sh), g f.type = some l → ∀ x, DataW.trod enc P w base spare held m f.type ((cs.drop f.offset).take (P.cellsOf f.type)) = some x → ∃ ds, FitDs ds l ∧ Rcells w Ez ds ((cs.drop f.offset).take (P.cellsOf f.type))) :
    ∀ (fs : List Field) (off : Nat) (shs : List Sh), shapesF g P fs off = some shs → off + shs.length = cs.length →
      (∀ f ∈ fs, ∃ x, DataW.trod enc P w base spare held m f.type ((cs.drop f.offset).take (P.cellsOf f.type)) = some x) → ∃ ds, FitDs ds shs ∧ Rcells w Ez ds (cs.drop off)
  | [], off, shs, h, hl, _ => by
    simp only [shapesF, Option.some.injEq] at h
    subst h
    simp at hl
    exact ⟨[], by simp [FitDs], by simp [Rcells, List.drop_eq_nil_of_le, hl]⟩
  | f :: r, off, shs, h, hl, ht => by
    simp only [shapesF] at h
    split at h
    · rename_i ho
      split at h
      · rename_i l hgl
        split at h
        · rename_i hlen
          split at h
          · rename_i m' hm
            cases h
            obtain ⟨x, hx⟩ := ht f (by simp)
            obtain ⟨ds, hd1, hd2⟩ := hg f l hgl x hx
            obtain ⟨ds', hd1', hd2'⟩ := fields_cells (Q := Q) hg r (off + l.length) m' hm (by simp at hl; omega) fun f' hf' => ht f' (by simp [hf'])
            refine ⟨ds ++ ds', hd1.app hd1', ?_⟩
            have e : cs.drop off = (cs.drop off).take (P.cellsOf f.type) ++ cs.drop (off + l.length) := by
              rw [hlen, ← List.drop_drop, List.take_append_drop]
            rw [e]
            subst ho
            exact hd2.app hd2'
          · cases h
        · cases h
      · cases h
    · cases h
theorem cell_lt {a : Addr} {v : Value} (h : w.cell? a = some v) : a.block < w.heap.size := by
  unfold World.cell? at h
  split at h
  · rename_i hh
    exact (Array.getElem?_eq_some_iff.1 hh).1
  · simp at h
theorem trod_cells : ∀ (fuel n t : Nat) (shs : List Sh) (cs : List Value) (x : DataW H × List MemPlace), shapes P n t = some shs → DataW.trod enc P w base spare held fuel t cs = some x →
    ∃ ds, FitDs ds shs ∧ Rcells w Ez ds cs
  | 0, _, _, _, _, _, _, h => by simp [DataW.trod] at h
  | fuel + 1, n, t, shs, cs, x, hs, h => by
    cases n with
    | zero => simp [shapes] at hs
    | succ n =>
    simp only [shapes] at hs
    split at hs
    · rename_i k ht
      cases hs
      obtain ⟨m, rfl, _, hw⟩ := DataW.trod_int ht h
      exact ⟨[.int k m], by simp [FitDs, FitD, hw], by simp only [Rcells, R]; exact ⟨_, _, rfl, rfl, rfl, rfl⟩⟩
    · rename_i ht
      cases hs
      obtain ⟨b, rfl, _⟩ := DataW.trod_bool ht h
      exact ⟨[.bool b], by simp [FitDs, FitD], by simp only [Rcells, R]; exact ⟨_, _, rfl, rfl, rfl, rfl⟩⟩
    · rename_i ht
      cases hs
      obtain ⟨s, rfl, _, hw⟩ := DataW.trod_string ht h
      exact ⟨[.str s], by simp [FitDs, FitD, hw], by simp only [Rcells, R]; exact ⟨_, _, rfl, rfl, rfl, rfl⟩⟩
    · rename_i e ht
      split at hs
      · rename_i l hl
        split at hs
        · rename_i hlen
          cases hs
          rcases DataW.trod_slice ht h with ⟨rfl, _⟩ | ⟨a, len, cap, elems, rest, m, hm, rfl, _, _, hlc, hcm, hel, helem, _⟩
          · exact ⟨[.sl []], by simp [FitDs, FitD, FitDR], by simp only [Rcells, R]; exact ⟨_, _, rfl, rfl, ⟨none, 0, rfl, by simp, by simp, fun _ => rfl, fun h => absurd rfl h⟩, rfl⟩⟩
          · cases hm
            have cellf : ∀ i, i < len → ∃ cs' x', w.cells? base (a.add (i * P.cellsOf e)) (P.cellsOf e) = some cs' ∧ DataW.trod enc P w base spare held fuel e cs' = some x' := by
              intro i hi
              have h1 := helem i hi
              have h2 : elems[i]? = some (elems[i]'(by omega)) := List.getElem?_eq_getElem (by omega)
              rw [h2, Option.bind_eq_some_iff] at h1
              obtain ⟨cs', hc1, hc2⟩ := h1
              exact ⟨cs', _, hc1, hc2⟩
            have hspot : 0 < len → a.spot = none ∧ a.block < w.heap.size := by
              intro hp
              obtain ⟨cs', _, hc1, _⟩ := cellf 0 hp
              obtain ⟨_, hcl, hcell⟩ := World.cells?_some hc1
              have c0 := hcell 0 (by omega)
              have : cs'[0]? = some (cs'[0]'(by omega)) := List.getElem?_eq_getElem (by omega)
              rw [this] at c0
              exact ⟨by simpa [Addr.add] using World.cell?_spot c0, by simpa [Addr.add] using cell_lt c0⟩
            have each : ∀ i, i < len → ∃ ds, FitDs ds l ∧ Rrow w Ez a.block ds (a.off + i * P.cellsOf e) := by
              intro i hi
              obtain ⟨q3, q4⟩ := hspot (by omega)
              obtain ⟨cs', x', hc1, hc2⟩ := cellf i hi
              obtain ⟨ds, hf, hr⟩ := trod_cells fuel n e l cs' _ hl hc2
              obtain ⟨_, hcl, hcell⟩ := World.cells?_some hc1
              refine ⟨ds, hf, Rrow_of_cells hr fun j hj => ?_⟩
              have := hcell j (by rw [hr.len] at hj; omega)
              rw [← this]
              obtain ⟨ab, ao, asp⟩ := a
              subst q3
              rw [add_plain, add_plain]
            obtain ⟨rows, hrl, hrow⟩ := list_of len each
            refine ⟨[.sl rows], by simp [FitDs, FitD, hrl, FitDR_of fun i hi => (hrow i hi).1]; omega, ?_⟩
            simp only [Rcells, R]
            refine ⟨_, _, rfl, rfl, ⟨some a, cap, by rw [hrl], by omega, hcm, fun h => by simp at h, fun hne => ?_⟩, rfl⟩
            have h0 : 0 < rows.length := List.length_pos_iff.2 hne
            obtain ⟨q1, q2⟩ := hrow 0 h0
            obtain ⟨q3, q4⟩ := hspot (by omega)
            have hsz : rowLen rows = P.cellsOf e := by
              cases hr : rows with
              | nil => exact absurd hr hne
              | cons r rs => 
                subst hr
                simp only [rowLen]
                have := q1.len
                simp at this
                omega
            refine ⟨a.block, a.off, ?_, fun h => h, q4, ?_⟩
            · obtain ⟨ab, ao, asp⟩ := a
              subst q3; rfl
            · rw [hsz]
              exact Rrows_of fun i hi => ⟨by rw [(hrow i hi).1.len]; exact hlen.1, (hrow i hi).2⟩
        · cases hs
      · cases hs
    · rename_i fs ht
      split at hs
      · rename_i l hl
        split at hs
        · rename_i hlen
          cases hs
          obtain ⟨xs, m, hm, _, hcl, hxl, hx⟩ := DataW.trod_struct ht h
          cases hm
          have := fields_cells (g := shapes P n) (m := fuel) (cs := cs) (Q := fun _ => none) (P := P) (w := w) (enc := enc) (base := base) (spare := spare) (held := held) (fun f l' hf x hx => trod_cells fuel n f.type l' _ x hf hx) fs.toList 0 shs hl (by omega) ?_
          · simpa using this
          · intro f hf
            obtain ⟨i, hi, rfl⟩ := List.getElem_of_mem hf
            have h1 := hx i fs[i] (by simp at hi; simp [hi])
            rw [List.getElem?_eq_getElem (by simp at hi; omega)] at h1
            exact ⟨_, by simpa using h1⟩
        · cases hs
      · cases hs
    · cases hs
def FitT (P : Program) (n t : Nat) (d : D) : Prop :=
  match P.underlying t with
  | some (.struct _) => ∃ l shs, d = .agg l ∧ shapes P n t = some shs ∧ FitDs l shs
  | _ => ∃ s, shapes P n t = some [s] ∧ FitD d s
def FitArgs (P : Program) (n : Nat) : List Nat → List D → Prop
  | [], ds => ds = []
  | t :: ts, ds => ∃ d r, ds = d :: r ∧ FitT P n t d ∧ FitArgs P n ts r
theorem trod_val {n t : Nat} {v : Value} {d : DataW H} {ps : List MemPlace} {r : Reach} {b0 : Nat} (hs : (shapes P n t).isSome = true) (hv : Value.okWide P w r b0 t v) (h : DataW.Trod enc P w base spare held t v d ps) :
    ∃ x, FitT P n t x ∧ R w Ez x v := by
  obtain ⟨fuel, hf⟩ := h
  cases hq : shapes P n t with
  | none => simp [hq] at hs
  | some shs =>
  obtain ⟨ds, h1, h2⟩ := trod_cells fuel n t shs _ _ hq hf
  unfold FitT
  cases n with
  | zero => simp [shapes] at hq
  | succ n =>
  have hq0 := hq
  simp only [shapes] at hq
  have scalar : ∀ s, shs = [s] → v.cells = #[v] → ∃ x, FitD x s ∧ R w Ez x v := by
    intro s e hc
    subst e
    rw [hc] at h2
    cases ds with
    | nil => simp [FitDs] at h1
    | cons d ds =>
      simp only [Rcells] at h2
      obtain ⟨u, us, e, _, hr, _⟩ := h2
      simp only [FitDs] at h1
      obtain ⟨s', r', e', hfit, _⟩ := h1
      cases e'
      simp at e
      obtain ⟨rfl, rfl⟩ := e
      exact ⟨d, hfit, hr⟩
  split at hq
  · rename_i k ht
    cases hq
    obtain ⟨m, rfl⟩ := okWide_int ht hv
    obtain ⟨x, hx⟩ := scalar _ rfl rfl
    exact ⟨x, by rw [ht]; exact ⟨_, hq0, hx.1⟩, hx.2⟩
  · rename_i ht
    cases hq
    obtain ⟨m, rfl⟩ := okWide_bool ht hv
    obtain ⟨x, hx⟩ := scalar _ rfl rfl
    exact ⟨x, by rw [ht]; exact ⟨_, hq0, hx.1⟩, hx.2⟩
  · rename_i ht
    cases hq
    obtain ⟨m, rfl⟩ := okWide_string ht hv
    obtain ⟨x, hx⟩ := scalar _ rfl rfl
    exact ⟨x, by rw [ht]; exact ⟨_, hq0, hx.1⟩, hx.2⟩
  · rename_i e ht
    split at hq
    · split at hq
      · cases hq
        obtain ⟨a, len, cap, rfl⟩ := okWide_slice ht hv
        obtain ⟨x, hx⟩ := scalar _ rfl rfl
        exact ⟨x, by rw [ht]; exact ⟨_, hq0, hx.1⟩, hx.2⟩
      · cases hq
    · cases hq
  · rename_i fs ht
    obtain ⟨cs, rfl, _⟩ := okWide_struct ht hv
    refine ⟨.agg ds, by rw [ht]; exact ⟨ds, shs, rfl, hq0, h1⟩, ?_⟩
    simp only [R]
    exact ⟨cs.toList, by simp, h2⟩
  · cases hq
theorem args_read {n : Nat} {r : Reach} {b0 : Nat} : ∀ {ts : List Nat} {vs : List Value} {ds : List (DataW H)} {ps : List MemPlace}, (∀ t ∈ ts, (shapes P n t).isSome = true) →
    (∀ (j : Nat) (t : Nat) (v : Value), ts[j]? = some t → vs[j]? = some v → Value.okWide P w r b0 t v) → DataW.TrodAll enc P w base spare held ts vs ds ps → ∃ xs, FitArgs P n ts xs ∧ Rvals w Ez xs vs
  | [], vs, ds, ps, _, _, h => by
    cases vs with
    | nil => exact ⟨[], by simp [FitArgs], by simp [Rvals]⟩
    | cons v vs => cases ds <;> simp [DataW.TrodAll] at h
  | t :: ts, vs, ds, ps, hs, hv, h => by
    cases vs with
    | nil => cases ds <;> simp [DataW.TrodAll] at h
    | cons v vs =>
      cases ds with
      | nil => simp [DataW.TrodAll] at h
      | cons d ds =>
        simp only [DataW.TrodAll] at h
        obtain ⟨p, q, h1, h2, _⟩ := h
        obtain ⟨x, hx1, hx2⟩ := trod_val (hs t (by simp)) (hv 0 t v rfl rfl) h1
        obtain ⟨xs, hy1, hy2⟩ := args_read (ts := ts) (fun t ht => hs t (by simp [ht])) (fun j t v h h' => hv (j + 1) t v (by simpa using h) (by simpa using h')) h2
        exact ⟨x :: xs, by simp only [FitArgs]; exact ⟨x, xs, rfl, hx1, hy1⟩, by simp only [Rvals]; exact ⟨v, vs, rfl, hx2, hy2⟩⟩
theorem trodAll_below (hl : laidOutB P = true) {w' : World} (hb : Below w.heap.size w w') : ∀ {ts : List Nat} {vs : List Value} {ds : List (DataW H)} {ps : List MemPlace},
    (∀ t ∈ ts, P.readableRec t = true ∧ t < P.types.size) → DataW.TrodAll enc P w 0 (fun _ => true) true ts vs ds ps → DataW.TrodAll enc P w' 0 (fun b => decide (b < w.heap.size)) true ts vs ds ps
  | [], vs, ds, ps, _, h => by
    cases vs <;> cases ds <;> simp [DataW.TrodAll] at h ⊢
    exact h
  | t :: ts, vs, ds, ps, hr, h => by
    cases vs with
    | nil => cases ds <;> simp [DataW.TrodAll] at h
    | cons v vs =>
      cases ds with
      | nil => simp [DataW.TrodAll] at h
      | cons d ds =>
        simp only [DataW.TrodAll] at h ⊢
        obtain ⟨p, q, h1, h2, h3⟩ := h
        refine ⟨p, q, Below.trod hl (hr t (by simp)).1 (hr t (by simp)).2 h1 hb.toBelow ?_, trodAll_below hl hb (fun t ht => hr t (by simp [ht])) h2, h3⟩
        obtain ⟨m, hm⟩ := h1
        exact fun x hx => DataW.trod_lt m _ _ _ hm x hx
end
theorem FitDR.decode {α : Type} {row : α → List D} {shs : List Sh} {good : α → Prop} (h : ∀ r, FitDs r shs → ∃ x, r = row x ∧ good x) : ∀ {l : List (List D)}, FitDR l shs → ∃ xs : List α, l = xs.map row ∧ ∀ x ∈ xs, good x
  | [], _ => ⟨[], rfl, by simp⟩
  | r :: rs, hf => by
    simp only [FitDR] at hf
    obtain ⟨x, rfl, hx⟩ := h r hf.1
    obtain ⟨xs, rfl, hxs⟩ := FitDR.decode h hf.2
    exact ⟨x :: xs, rfl, by simpa using ⟨hx, hxs⟩⟩
theorem FitD.sl_decode {α : Type} {row : α → List D} {shs : List Sh} {good : α → Prop} (h : ∀ r, FitDs r shs → ∃ x, r = row x ∧ good x) {d : D} (hf : FitD d (.sl shs)) : ∃ xs : List α, d = .sl (xs.map row) ∧ xs.length ≤ maxLen ∧ ∀ x ∈ xs, good x := by
  cases d <;> simp [FitD] at hf
  obtain ⟨hl, hr⟩ := hf
  obtain ⟨xs, rfl, hx⟩ := FitDR.decode h hr
  exact ⟨xs, rfl, by simpa using hl, hx⟩
theorem FitD.int_decode {d : D} {k : IntKind} (hf : FitD d (.int k)) : ∃ n, d = .int k n ∧ (Lit.int k n).wf = true := by
  cases d <;> simp [FitD] at hf
  obtain ⟨rfl, h⟩ := hf
  exact ⟨_, rfl, h⟩
theorem FitD.str_decode {d : D} (hf : FitD d .str) : ∃ s, d = .str s ∧ s.size ≤ maxLen := by
  cases d <;> simp [FitD] at hf
  exact ⟨_, rfl, hf⟩
theorem FitDs.cons_decode {ds : List D} {s : Sh} {shs : List Sh} (h : FitDs ds (s :: shs)) : ∃ d r, ds = d :: r ∧ FitD d s ∧ FitDs r shs := by
  cases ds with
  | nil => simp [FitDs] at h
  | cons d r =>
    simp only [FitDs] at h
    obtain ⟨s', r', e, h1, h2⟩ := h
    cases e
    exact ⟨d, r, rfl, h1, h2⟩
theorem FitDs.nil_decode {ds : List D} (h : FitDs ds []) : ds = [] := by
  cases ds with
  | nil => rfl
  | cons d r =>
    simp only [FitDs] at h
    obtain ⟨s', r', e, _⟩ := h
    cases e
end Go.V
