/- The package variables of unicode/utf8 as a call finds them: out of the row's own premise. -/
import Derived.Test.YtnjcohimpfmgcaaDoorW1
import Derived.Test.YtnjcohimpfmgcaaDoorC0
import Derived.Test.YtnjcohimpfmgcaaDoorRows
import Derived.Lib.LaidU8T
import Derived.PinnedBridge
import Derived.ProofKit
set_option maxRecDepth 100000
namespace Go.V
open Go Go.Proofs Go.Proofs.YtnjcohimpfmgcaaDoor Go.RowKit Go.Lib Go.Shelf

theorem glob_of_tabs {w : World} (h : Lib.Utf8Tabs 0 1 w) : Glob w Ez := by
  intro g l hm
  have hlt : ∀ {b i : Nat} {v : Value}, w.cell? ⟨b, i, none⟩ = some v → b < w.heap.size := by
    intro b i v hv
    unfold World.cell? at hv
    split at hv
    · rename_i hb
      exact (Array.getElem?_eq_some_iff.1 hb).1
    · cases hv
  simp only [GT, List.mem_cons, List.not_mem_nil, or_false, Prod.mk.injEq] at hm
  rcases hm with ⟨rfl, rfl⟩ | ⟨rfl, rfl⟩
  · simp only [R]
    refine ⟨0, 0, rfl, fun h => h, hlt (h.1 0 (by omega)), ?_⟩
    refine Rrow.of_cells (vs := (List.range 256).map fun c => Value.int .u8 (firstT c : Int)) ?_ ?_
    · unfold firstD
      generalize List.range 256 = m
      induction m with
      | nil => simp [Rcells]
      | cons x r ih => simp only [List.map_cons, Rcells]; exact ⟨_, _, rfl, rfl, by simp [R], ih⟩
    · intro j v hj
      rw [List.getElem?_map] at hj
      by_cases hl : j < 256
      · rw [List.getElem?_range hl] at hj
        simp at hj; subst hj
        rw [Nat.zero_add]; exact h.1 j hl
      · rw [List.getElem?_eq_none (by simp; omega)] at hj; cases hj
  · simp only [R]
    refine ⟨1, 0, rfl, fun h => h, hlt (h.2 0 (by omega)).1, ?_⟩
    refine Rrow.of_cells (vs := (List.range 16).flatMap fun i => [Value.int .u8 (accLo i : Int), Value.int .u8 (accHi i : Int)]) ?_ ?_
    · unfold accD
      generalize List.range 16 = m
      induction m with
      | nil => simp [Rcells]
      | cons x r ih => simp only [List.flatMap_cons, List.cons_append, List.nil_append, Rcells]; exact ⟨_, _, rfl, rfl, by simp [R], _, _, rfl, rfl, by simp [R], ih⟩
    · have key : ∀ (n k : Nat) (j : Nat) (v : Value), ((List.range' k n).flatMap fun i => [Value.int .u8 (accLo i : Int), Value.int .u8 (accHi i : Int)])[j]? = some v → k + n ≤ 16 → w.cell? ⟨1, 2 * k + j, none⟩ = some v := by
        intro n
        induction n with
        | zero => intro k j v hj; simp at hj
        | succ n ih =>
          intro k j v hj hk
          rw [List.range'_succ, List.flatMap_cons] at hj
          match j, hj with
          | 0, hj => simp at hj; subst hj; exact (h.2 k (by omega)).1
          | 1, hj => simp at hj; subst hj; exact (h.2 k (by omega)).2
          | j + 2, hj =>
            have := ih (k + 1) j v (by simpa using hj) (by omega)
            rw [← this]; congr 2; omega
      intro j v hj
      rw [List.range_eq_range'] at hj
      have := key 16 0 j v hj (by omega)
      simpa using this
def laidU : List (String × DataW Unit) := [("unicode/utf8.acceptRanges", Rows.laid_unicode_utf8_acceptRanges), ("unicode/utf8.first", Rows.laid_unicode_utf8_first)]
def renU : Ren := ⟨fun x => x, fun | 5 => 5 | 119 => 85 | 138 => 87 | 139 => 88 | x => x, fun | 3 => 0 | 4 => 1 | x => x⟩
theorem typesU : U8Types Tryd.prog renU := ⟨by kernel_rfl, by kernel_rfl, by kernel_rfl, by kernel_rfl⟩
theorem extraU : U8Extra Tryd.prog renU := ⟨by kernel_rfl, by kernel_rfl, by kernel_rfl, by kernel_rfl, by kernel_rfl, by kernel_rfl, by kernel_rfl⟩
theorem acc_eq : Rows.laid_unicode_utf8_acceptRanges (H := Unit) = acceptData := by kernel_rfl
theorem tabs_of_laid {w : World} (h : laidMet Tryd.prog laidU w) : Lib.Utf8Tabs 0 1 w :=
  utf8Tabs_of_readsT (ρ := renU) typesU extraU (Pinned.utf8First_eq ▸ laidMet.reads h (.tail _ (.head _))) (acc_eq ▸ laidMet.reads h (.head _))
theorem glob_of_laid {w : World} (h : laidMet Tryd.prog laidU w) : Glob w Ez := glob_of_tabs (tabs_of_laid h)
end Go.V
