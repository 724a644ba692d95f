/- Contracts: a copy; a slice without some of its elements, in place; decisions without those about a note. -/
import Derived.Test.YtmpknkjlhapcmaaGreatE6
set_option linter.unusedSimpArgs false
set_option linter.unusedVariables false
set_option maxRecDepth 10000
namespace Go.V
open Go Go.Proofs

theorem take_set_succ {α : Type} {l : List α} {i : Nat} (v : α) (h : i < l.length) : (l.set i v).take (i + 1) = l.take i ++ [v] := by
  have hl : i < (l.set i v).length := by simpa using h
  rw [take_snoc hl, List.getElem_set_self]
  congr 1
  apply List.ext_getElem?
  intro j
  simp only [List.getElem?_take, List.getElem?_set]
  by_cases hj : j < i
  · rw [if_pos hj, if_pos hj, if_neg (by omega)]
  · rw [if_neg hj, if_neg hj]
theorem drop_set_lt {α : Type} {l : List α} {i j : Nat} (v : α) (h : i < j) : (l.set i v).drop j = l.drop j := by
  apply List.ext_getElem?
  intro k
  simp only [List.getElem?_drop, List.getElem?_set]
  rw [if_neg (by omega)]
theorem cloneD_ok (l : List Dec) (hl : l.length < 2^40) : PureF Tryz.prog 45 [decsD l] 33 4 (l.map Dec.row) := by
  refine fresh_of_body mixed Tryz.func45 rfl call_45 (by simp) ?_
  simp [Tryz.f45, decsD, maxLen]
  omega
theorem deleteD_ok (l : List Dec) (hl : l.length < 2^62) (f T : Nat) (p : Dec → Bool) (r : Rf) (hf : ∀ x ∈ l, PureR Tryz.prog f [.agg x.row, .ptr [int r.rcd, int r.note]] (.bool (p x))) :
    CallC Tryz.prog 44 [.ar 0, .fn f [.bp 1 0]] [(0, .arr 33 4 (l.map Dec.row)), (1, .box T [.d (int r.rcd), .d (int r.note)])] 2
      (.d (.sl ((l.filter fun d => !p d).map Dec.row))) 2 [(1, .box T [.d (int r.rcd), .d (int r.note)])] [] := by
  refine callC_of_body_frz mixed Tryz.func44 rfl call_44 [0] (by simp) ?_
  simp [Tryz.f44]
  refine ECall.pure (by rfl) (indexD_ok l hl f [.ptr [int r.rcd, int r.note]] p hf) (fun _ => rfl) ?_
  cases hi : l.findIdx? p with
  | none =>
    rw [List.findIdx?_eq_none_iff] at hi
    have hno : (l.filter fun d => !p d) = l := by rw [List.filter_eq_self]; intro a ha; rw [hi a ha]; rfl
    have hidx : idxI p l = -1 := by simp [idxI, idxI_miss hi]
    simp (decide := true) [hidx, int, hno]
    done
  | some k =>
    have hidx : idxI p l = k := by simp [idxI, hi]
    rw [List.findIdx?_eq_some_iff_getElem] at hi
    obtain ⟨hk, hpk, hbef⟩ := hi
    have hn1 : ¬ (k : Int) = -1 := by omega
    simp (decide := true) [hidx, int, hn1, I64]
    refine ⟨by omega, ?_⟩
    have htk : (l.take (k + 1)).filter (fun d => !p d) = l.take k := by
      rw [filter_snoc hk, List.filter_eq_self.2]
      · simp [hpk]
      · intro a ha
        rw [List.mem_take_iff_getElem] at ha
        obtain ⟨j, hj, rfl⟩ := ha
        have := hbef j (by omega)
        simpa using this
    refine loop_rule mixed (fun x : Nat × Nat × List Dec => { n := 42, next := 2, base := 2, slots := [(0, .ar 0), (1, .fn f [.bp 1 0]), (5, .d (.int .i64 x.2.1)), (6, .d (.int .i64 x.1))], own := [(0, .arr 33 4 (x.2.2.map Dec.row)), (1, .box T [.d (int r.rcd), .d (int r.note)])] })
      (fun x => x.2.2.length = l.length ∧ x.2.1 < x.1 ∧ x.1 ≤ l.length ∧ x.2.2.take x.2.1 = (l.take x.1).filter (fun d => !p d) ∧ x.2.2.drop x.1 = l.drop x.1) (fun x => l.length - x.1) (k + 1, k, l) (by simp [htk]; omega) (by simp [int]) ?_
    rintro ⟨j, i, cur⟩ ⟨hcl, hij, hjl, htake, hdrop⟩
    simp only at hcl hij hjl htake hdrop
    by_cases hlt : j < l.length
    · have hcj : j < cur.length := by omega
      have hcur : cur[j] = l[j] := by
        have h1 : cur.drop j = cur[j] :: cur.drop (j + 1) := List.drop_eq_getElem_cons hcj
        have h2 : l.drop j = l[j] :: l.drop (j + 1) := List.drop_eq_getElem_cons hlt
        rw [h1, h2] at hdrop
        exact (List.cons.inj hdrop).1
      have hdrop' : cur.drop (j + 1) = l.drop (j + 1) := by
        have := congrArg (List.drop 1) hdrop
        rw [List.drop_drop, List.drop_drop] at this
        exact this
      have e1 : cur[j]? = some cur[j] := List.getElem?_eq_getElem hcj
      have hlt' : (j : Int) < cur.length := by omega
      have hfj : PureR Tryz.prog f [.agg cur[j].row, .ptr [int r.rcd, int r.note]] (.bool (p l[j])) := by rw [hcur]; exact hf l[j] (List.getElem_mem hlt)
      simp (decide := true) [hlt', hcj, e1, Dec.row, int, I64]
      refine ECall.pure (by rfl) hfj (fun _ => rfl) ?_
      cases hp : p l[j]
      · have hic : i < cur.length := by omega
        have e2 : cur[i]? = some cur[i] := List.getElem?_eq_getElem hic
        simp (decide := true) [hic, e2, Dec.row, int, I64]
        refine ⟨by omega, by omega, j + 1, i + 1, cur.set i cur[j], ⟨by simpa using hcl, by omega, hlt, ?_, ?_⟩, by omega, ⟨by omega, by omega⟩, by simp [List.map_set, Dec.row, int]⟩
        · rw [take_set_succ _ hic, filter_snoc hlt, htake, hcur]; simp [hp]
        · rw [drop_set_lt _ (by omega)]; exact hdrop'
      · simp (decide := true) [int, I64]
        refine ⟨by omega, j + 1, i, cur, ⟨hcl, by omega, hlt, ?_, hdrop'⟩, by omega, ⟨by omega, by omega⟩, rfl⟩
        rw [filter_snoc hlt, htake]; simp [hp]
    · have hj : j = l.length := by omega
      subst hj
      have hlt' : ¬ (l.length : Int) < cur.length := by omega
      have hin : ¬ (i : Int) = (cur.length : Int) := by omega
      have hfin : (cur.map Dec.row).take i = (l.filter fun d => !p d).map Dec.row := by
        rw [← List.map_take, htake, List.take_length]
      have hfl : ((l.filter fun d => !p d).map Dec.row).length = i := by rw [← hfin]; simp; omega
      by_cases hi0 : i = 0
      · subst hi0
        have hc0 : ¬ (0 : Int) = (cur.length : Int) := by omega
        simp (decide := true) [hlt', int, I64, hc0]
        have hnil : l.filter (fun d => !p d) = [] := List.eq_nil_of_length_eq_zero (by simpa using hfl)
        rw [List.filter_eq_nil_iff] at hnil
        intro a ha
        simpa using hnil a ha
      · have hi1 : ¬ (0 : Int) = (i : Int) := by omega
        simp (decide := true) [hlt', int, I64, hin, hi1]
        refine ⟨by omega, by omega, by omega, ?_⟩
        rw [hfin]
        rw [if_pos]
        · congr 2
          rw [List.take_append_of_le_length (by omega), List.take_of_length_le (by omega)]
        · refine ⟨by omega, ?_⟩
          cases hF : (l.filter fun d => !p d) with
          | nil => rw [hF] at hfl; simp at hfl; omega
          | cons c0 cs => rfl
theorem drop1_ok (d : Dec) (r : Rf) : PureR Tryz.prog 46 [.agg d.row, .ptr [int r.rcd, int r.note]] (.bool (decide (d.ref = r))) := by
  refine pure_of_body mixed Tryz.func46 rfl call_46 ?_
  simp (decide := true) [Tryz.f46, Dec.row, int, rf_eq]
theorem drop_ok (l : List Dec) (r : Rf) (hl : l.length < 2^40) : PureR Tryz.prog 23 [decsD l, refD r] (decsD (dropL l r)) := by
  refine pure_of_body mixed Tryz.func23 rfl call_23 ?_
  simp [Tryz.f23, decsD, refD, Rf.row, int]
  refine ECall.fresh (by rfl) (cloneD_ok l hl) (by simp) ?_
  simp
  refine ECall.mut [2, 0] [.ar 0, .fn 46 [.bp 1 0]] [(0, .arr 33 4 (l.map Dec.row)), (1, .box 28 [.d (int r.rcd), .d (int r.note)])] (by rfl) (by simp) (by simp) (by simp [int]; rfl) (deleteD_ok l (by omega) _ _ (fun d => decide (d.ref = r)) r (fun x _ => drop1_ok x r)) ?_
  simp [dropL]
end Go.V
