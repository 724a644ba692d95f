/- How large the parts of what a statement reads are, where its bulk is bounded. -/
import Derived.Test.YtgglheknmlfghaaGreatG16
import Derived.Test.YtgglheknmlfghaaGreatB1
set_option linter.unusedSimpArgs false
set_option linter.unusedVariables false
set_option maxRecDepth 10000
namespace Go.V
open Go Go.Proofs Go.RowKit Go.WideShapes

mutual
/-- A datum whose strings and lists are at most M long. -/
def Cap (M : Nat) : D → Prop
  | .str b => b.size ≤ M
  | .sl l => l.length ≤ M ∧ CapR M l
  | _ => True
def CapR (M : Nat) : List (List D) → Prop
  | [] => True
  | r :: rs => Caps M r ∧ CapR M rs
def Caps (M : Nat) : List D → Prop
  | [] => True
  | d :: ds => Cap M d ∧ Caps M ds
end
def CapT (M : Nat) : D → Prop
  | .agg l => Caps M l
  | d => Cap M d
theorem capT_of {M : Nat} {d : D} (h : Cap M d) : (∀ l, d ≠ .agg l) → CapT M d := by
  intro hn
  cases d <;> first | exact h | exact absurd rfl (hn _)
theorem Caps.app {M : Nat} : ∀ {a b : List D}, Caps M a → Caps M b → Caps M (a ++ b)
  | [], b, _, h => h
  | d :: a, b, h, h' => by
    simp only [Caps, List.cons_append] at h ⊢
    exact ⟨h.1, Caps.app h.2 h'⟩
theorem CapR_of {M : Nat} : ∀ {l : List (List D)}, (∀ i (h : i < l.length), Caps M l[i]) → CapR M l
  | [], _ => by simp [CapR]
  | r :: rs, h => by
    simp only [CapR]
    exact ⟨h 0 (by simp), CapR_of fun i hi => h (i + 1) (by simp; omega)⟩
/-- A bulk as the statement counts it. -/
structure BulkFn {H : Type} (bulk : DataW H → Nat) : Prop where
  str : ∀ bytes, bytes.length ≤ bulk (.lit (.string bytes))
  sl : ∀ es rest, es.length ≤ bulk (.slice es rest)
  el : ∀ es rest e, e ∈ es → bulk e ≤ bulk (.slice es rest)
  part : ∀ ps p, p ∈ ps → bulk p ≤ bulk (.agg ps)
section
variable {H : Type} {enc : TypeId × Value → H} {P : Program} {w : World} {base : Nat} {spare : Nat → Bool} {held : Bool} {bulk : DataW H → Nat}
theorem fields_cap {g : Nat → Option (List Sh)} {m : Nat} {cs : List Value} {M : Nat}
    (hg : ∀ (f : Field) (l : List Sh), g f.type = some l → ∀ x, DataW.trod enc P w base spare held m f.type ((cs.drop f.offset).take (P.cellsOf f.type)) = some x → bulk x.1 ≤ M → ∃ ds, FitDs ds l ∧ Caps M ds ∧ Rcells w Ez ds ((cs.drop f.offset).take (P.cellsOf f.type))) :
    ∀ (fs : List Field) (off : Nat) (shs : List Sh), shapesF g P fs off = some shs → off + shs.length = cs.length →
      (∀ f ∈ fs, ∃ x, DataW.trod enc P w base spare held m f.type ((cs.drop f.offset).take (P.cellsOf f.type)) = some x ∧ bulk x.1 ≤ M) → ∃ ds, FitDs ds shs ∧ Caps M ds ∧ Rcells w Ez ds (cs.drop off)
  | [], off, shs, h, hl, _ => by
    simp only [shapesF, Option.some.injEq] at h
    subst h
    simp at hl
    exact ⟨[], by simp [FitDs], by simp [Caps], by simp [Rcells, List.drop_eq_nil_of_le, hl]⟩
  | f :: r, off, shs, h, hl, ht => by
    simp only [shapesF] at h
    split at h
    · rename_i ho
      split at h
      · rename_i l hgl
        split at h
        · rename_i hlen
          split at h
          · rename_i m' hm
            cases h
            obtain ⟨x, hx, hxm⟩ := ht f (by simp)
            obtain ⟨ds, hd1, hdc, hd2⟩ := hg f l hgl x hx hxm
            obtain ⟨ds', hd1', hdc', hd2'⟩ := fields_cap hg r (off + l.length) m' hm (by simp at hl; omega) fun f' hf' => ht f' (by simp [hf'])
            refine ⟨ds ++ ds', hd1.app hd1', hdc.app hdc', ?_⟩
            have e : cs.drop off = (cs.drop off).take (P.cellsOf f.type) ++ cs.drop (off + l.length) := by
              rw [hlen, ← List.drop_drop, List.take_append_drop]
            rw [e]
            subst ho
            exact hd2.app hd2'
          · cases h
        · cases h
      · cases h
    · cases h
theorem trod_cap (hB : BulkFn bulk) {M : Nat} : ∀ (fuel n t : Nat) (shs : List Sh) (cs : List Value) (x : DataW H × List MemPlace), shapes P n t = some shs → DataW.trod enc P w base spare held fuel t cs = some x → bulk x.1 ≤ M →
    ∃ ds, FitDs ds shs ∧ Caps M ds ∧ Rcells w Ez ds cs
  | 0, _, _, _, _, _, _, h, _ => by simp [DataW.trod] at h
  | fuel + 1, n, t, shs, cs, x, hs, h, hM => by
    cases n with
    | zero => simp [shapes] at hs
    | succ n =>
    simp only [shapes] at hs
    split at hs
    · rename_i k ht
      cases hs
      obtain ⟨m, rfl, _, hw⟩ := DataW.trod_int ht h
      exact ⟨[.int k m], by simp [FitDs, FitD, hw], by simp [Caps, Cap], by simp only [Rcells, R]; exact ⟨_, _, rfl, rfl, rfl, rfl⟩⟩
    · rename_i ht
      cases hs
      obtain ⟨b, rfl, _⟩ := DataW.trod_bool ht h
      exact ⟨[.bool b], by simp [FitDs, FitD], by simp [Caps, Cap], by simp only [Rcells, R]; exact ⟨_, _, rfl, rfl, rfl, rfl⟩⟩
    · rename_i ht
      cases hs
      obtain ⟨s, rfl, rfl, hw⟩ := DataW.trod_string ht h
      have hsz := hB.str s.data.toList
      have e0 : s.data.toList.length = s.size := by rw [Array.length_toList]; rfl
      exact ⟨[.str s], by simp [FitDs, FitD, hw], by simp only [Caps, Cap, and_true]; simp only at hM; omega, by simp only [Rcells, R]; exact ⟨_, _, rfl, rfl, rfl, rfl⟩⟩
    · rename_i e ht
      split at hs
      · rename_i l hl
        split at hs
        · rename_i hlen
          cases hs
          rcases DataW.trod_slice ht h with ⟨rfl, _⟩ | ⟨a, len, cap, elems, rest, m, hm, rfl, rfl, _, hlc, hcm, hel, helem, _⟩
          · exact ⟨[.sl []], by simp [FitDs, FitD, FitDR], by simp [Caps, Cap, CapR], by simp only [Rcells, R]; exact ⟨_, _, rfl, rfl, ⟨none, 0, rfl, by simp, by simp, fun _ => rfl, fun h => absurd rfl h⟩, rfl⟩⟩
          · cases hm
            have cellf : ∀ i, i < len → ∃ cs' x', w.cells? base (a.add (i * P.cellsOf e)) (P.cellsOf e) = some cs' ∧ DataW.trod enc P w base spare held fuel e cs' = some x' ∧ bulk x'.1 ≤ M := by
              intro i hi
              have h1 := helem i hi
              have h2 : elems[i]? = some (elems[i]'(by omega)) := List.getElem?_eq_getElem (by omega)
              rw [h2, Option.bind_eq_some_iff] at h1
              obtain ⟨cs', hc1, hc2⟩ := h1
              exact ⟨cs', _, hc1, hc2, Nat.le_trans (hB.el _ _ _ (List.mem_map.mpr ⟨_, List.getElem_mem _, rfl⟩)) hM⟩
            have hspot : 0 < len → a.spot = none ∧ a.block < w.heap.size := by
              intro hp
              obtain ⟨cs', _, hc1, _, _⟩ := cellf 0 hp
              obtain ⟨_, hcl, hcell⟩ := World.cells?_some hc1
              have c0 := hcell 0 (by omega)
              have : cs'[0]? = some (cs'[0]'(by omega)) := List.getElem?_eq_getElem (by omega)
              rw [this] at c0
              exact ⟨by simpa [Addr.add] using World.cell?_spot c0, by simpa [Addr.add] using cell_lt c0⟩
            have each : ∀ i, i < len → ∃ ds, (FitDs ds l ∧ Caps M ds) ∧ Rrow w Ez a.block ds (a.off + i * P.cellsOf e) := by
              intro i hi
              obtain ⟨q3, q4⟩ := hspot (by omega)
              obtain ⟨cs', x', hc1, hc2, hxm⟩ := cellf i hi
              obtain ⟨ds, hf, hfc, hr⟩ := trod_cap hB fuel n e l cs' _ hl hc2 hxm
              obtain ⟨_, hcl, hcell⟩ := World.cells?_some hc1
              refine ⟨ds, ⟨hf, hfc⟩, Rrow_of_cells hr fun j hj => ?_⟩
              have := hcell j (by rw [hr.len] at hj; omega)
              rw [← this]
              obtain ⟨ab, ao, asp⟩ := a
              subst q3
              rw [add_plain, add_plain]
            obtain ⟨rows, hrl, hrow⟩ := list_of len each
            have hbl := hB.sl (elems.map (·.1)) (rest.map (·.1))
            rw [List.length_map] at hbl
            refine ⟨[.sl rows], by simp [FitDs, FitD, hrl, FitDR_of fun i hi => (hrow i hi).1.1]; omega, by simp only [Caps, Cap, and_true]; exact ⟨by simp only at hM; omega, CapR_of fun i hi => (hrow i hi).1.2⟩, ?_⟩
            simp only [Rcells, R]
            refine ⟨_, _, rfl, rfl, ⟨some a, cap, by rw [hrl], by omega, hcm, fun h => by simp at h, fun hne => ?_⟩, rfl⟩
            have h0 : 0 < rows.length := List.length_pos_iff.2 hne
            obtain ⟨q1, q2⟩ := hrow 0 h0
            obtain ⟨q3, q4⟩ := hspot (by omega)
            have hsz : rowLen rows = P.cellsOf e := by
              cases hr : rows with
              | nil => exact absurd hr hne
              | cons r rs => 
                subst hr
                simp only [rowLen]
                have := q1.1.len
                simp at this
                omega
            refine ⟨a.block, a.off, ?_, fun h => h, q4, ?_⟩
            · obtain ⟨ab, ao, asp⟩ := a
              subst q3; rfl
            · rw [hsz]
              exact Rrows_of fun i hi => ⟨by rw [(hrow i hi).1.1.len]; exact hlen.1, (hrow i hi).2⟩
        · cases hs
      · cases hs
    · rename_i fs ht
      split at hs
      · rename_i l hl
        split at hs
        · rename_i hlen
          cases hs
          obtain ⟨xs, m, hm, hxe, hcl, hxl, hx⟩ := DataW.trod_struct ht h
          cases hm
          have := fields_cap (bulk := bulk) (M := M) (g := shapes P n) (m := fuel) (cs := cs) (P := P) (w := w) (enc := enc) (base := base) (spare := spare) (held := held) (fun f l' hf x hx hxm => trod_cap hB fuel n f.type l' _ x hf hx hxm) fs.toList 0 shs hl (by omega) ?_
          · simpa using this
          · intro f hf
            obtain ⟨i, hi, rfl⟩ := List.getElem_of_mem hf
            have h1 := hx i fs[i] (by simp at hi; simp [hi])
            rw [List.getElem?_eq_getElem (by simp at hi; omega)] at h1
            refine ⟨_, by simpa using h1, Nat.le_trans (hB.part _ _ (List.mem_map.mpr ⟨_, List.getElem_mem _, rfl⟩)) (by rw [hxe] at hM; exact hM)⟩
        · cases hs
      · cases hs
    · cases hs

theorem val_cap (hB : BulkFn bulk) {M : Nat} {n t : Nat} {v : Value} {d : DataW H} {ps : List MemPlace} {r : Reach} {b0 : Nat} (hs : (shapes P n t).isSome = true) (hv : Value.okWide P w r b0 t v) (h : DataW.Trod enc P w base spare held t v d ps) (hM : bulk d ≤ M) :
    ∃ x, FitT P n t x ∧ CapT M x ∧ R w Ez x v := by
  obtain ⟨fuel, hf⟩ := h
  cases hq : shapes P n t with
  | none => simp [hq] at hs
  | some shs =>
  obtain ⟨ds, h1, hc, h2⟩ := trod_cap hB fuel n t shs _ _ hq hf hM
  unfold FitT
  cases n with
  | zero => simp [shapes] at hq
  | succ n =>
  have hq0 := hq
  simp only [shapes] at hq
  have scalar : ∀ s, shs = [s] → v.cells = #[v] → ∃ x, (FitD x s ∧ CapT M x) ∧ R w Ez x v := by
    intro s e hcc
    subst e
    rw [hcc] at h2
    cases ds with
    | nil => simp [FitDs] at h1
    | cons d ds =>
      simp only [Rcells] at h2
      obtain ⟨u, us, e, _, hr, _⟩ := h2
      simp only [FitDs] at h1
      obtain ⟨s', r', e', hfit, _⟩ := h1
      cases e'
      simp at e
      obtain ⟨rfl, rfl⟩ := e
      simp only [Caps] at hc
      exact ⟨d, ⟨hfit, capT_of hc.1 (by intro l e; subst e; simp [FitD] at hfit)⟩, hr⟩
  split at hq
  · rename_i k ht
    cases hq
    obtain ⟨m, rfl⟩ := okWide_int ht hv
    obtain ⟨x, hx⟩ := scalar _ rfl rfl
    exact ⟨x, by rw [ht]; exact ⟨_, hq0, hx.1.1⟩, hx.1.2, hx.2⟩
  · rename_i ht
    cases hq
    obtain ⟨m, rfl⟩ := okWide_bool ht hv
    obtain ⟨x, hx⟩ := scalar _ rfl rfl
    exact ⟨x, by rw [ht]; exact ⟨_, hq0, hx.1.1⟩, hx.1.2, hx.2⟩
  · rename_i ht
    cases hq
    obtain ⟨m, rfl⟩ := okWide_string ht hv
    obtain ⟨x, hx⟩ := scalar _ rfl rfl
    exact ⟨x, by rw [ht]; exact ⟨_, hq0, hx.1.1⟩, hx.1.2, hx.2⟩
  · rename_i e ht
    split at hq
    · split at hq
      · cases hq
        obtain ⟨a, len, cap, rfl⟩ := okWide_slice ht hv
        obtain ⟨x, hx⟩ := scalar _ rfl rfl
        exact ⟨x, by rw [ht]; exact ⟨_, hq0, hx.1.1⟩, hx.1.2, hx.2⟩
      · cases hq
    · cases hq
  · rename_i fs ht
    obtain ⟨cs, rfl, _⟩ := okWide_struct ht hv
    refine ⟨.agg ds, by rw [ht]; exact ⟨ds, shs, rfl, hq0, h1⟩, by simp only [CapT]; exact hc, ?_⟩
    simp only [R]
    exact ⟨cs.toList, by simp, h2⟩
  · cases hq
theorem args_cap (hB : BulkFn bulk) {M : Nat} {n : Nat} {r : Reach} {b0 : Nat} : ∀ {ts : List Nat} {vs : List Value} {ds : List (DataW H)} {ps : List MemPlace}, (∀ t ∈ ts, (shapes P n t).isSome = true) →
    (∀ (j : Nat) (t : Nat) (v : Value), ts[j]? = some t → vs[j]? = some v → Value.okWide P w r b0 t v) → DataW.TrodAll enc P w base spare held ts vs ds ps → (∀ d ∈ ds, bulk d ≤ M) → ∃ xs, FitArgs P n ts xs ∧ (∀ x ∈ xs, CapT M x) ∧ Rvals w Ez xs vs
  | [], vs, ds, ps, _, _, h, _ => by
    cases vs with
    | nil => exact ⟨[], by simp [FitArgs], by simp, by simp [Rvals]⟩
    | cons v vs => cases ds <;> simp [DataW.TrodAll] at h
  | t :: ts, vs, ds, ps, hs, hv, h, hM => by
    cases vs with
    | nil => cases ds <;> simp [DataW.TrodAll] at h
    | cons v vs =>
      cases ds with
      | nil => simp [DataW.TrodAll] at h
      | cons d ds =>
        simp only [DataW.TrodAll] at h
        obtain ⟨p, q, h1, h2, _⟩ := h
        obtain ⟨x, hx1, hxc, hx2⟩ := val_cap hB (hs t (by simp)) (hv 0 t v rfl rfl) h1 (hM d (by simp))
        obtain ⟨xs, hy1, hyc, hy2⟩ := args_cap hB (ts := ts) (fun t ht => hs t (by simp [ht])) (fun j t v h h' => hv (j + 1) t v (by simpa using h) (by simpa using h')) h2 (fun d hd => hM d (by simp [hd]))
        exact ⟨x :: xs, by simp only [FitArgs]; exact ⟨x, xs, rfl, hx1, hy1⟩, by intro z hz; rcases List.mem_cons.mp hz with e | e; rw [e]; exact hxc; exact hyc z e, by simp only [Rvals]; exact ⟨v, vs, rfl, hx2, hy2⟩⟩
end
end Go.V
