/- Contracts and plain laws of this seat: part MB. It needs no conditions. -/
import Derived.Test.YtnflnfmbgghbeaaGreatDoorMA
import Derived.Test.YtnflnfmbgghbeaaGreatDoorM7
set_option linter.unusedVariables false
set_option linter.unusedSimpArgs false
set_option linter.unusedSectionVars false
set_option maxRecDepth 100000
namespace Go.V
open Go Go.Proofs
theorem getN_at {l : List Nt} {id : Int} (h : (getN l id).2 = true) : ∃ k : Nat, ∃ hk : k < l.length, atI l id = k ∧ l[k] = (getN l id).1 := by
  unfold getN at h ⊢
  unfold atI idxI
  cases hf : l.find? fun n => decide (n.id = id) with
  | none => rw [hf] at h; cases h
  | some n =>
    rw [List.find?_eq_some_iff_getElem] at hf
    obtain ⟨h1, i, hi, h2, h3⟩ := hf
    have : l.findIdx? (fun n => decide (n.id = id)) = some i := by
      rw [List.findIdx?_eq_some_iff_getElem]
      refine ⟨hi, by rw [h2]; exact h1, fun j hj => by simpa using h3 j hj⟩
    rw [this]
    exact ⟨i, hi, rfl, h2⟩
theorem atI_map {f : Nt → Nt} (hf : ∀ n, (f n).id = n.id) (l : List Nt) (id : Int) : atI (l.map f) id = atI l id := by
  unfold atI idxI
  rw [List.findIdx?_map]
  have : ((fun n : Nt => decide (n.id = id)) ∘ f) = fun n => decide (n.id = id) := by funext n; simp [hf]
  rw [this]
end Go.V
namespace Go.V
open Go Go.Proofs
end Go.V
namespace Go.V
open Go Go.Proofs
def idxP (l : List Tir) (i : Int) (k : Nat) : List Int := ((List.range k).filter fun j => decide ((l[j]?.getD default).par = i)).map fun j : Nat => (j : Int)
def kidsT (l : List Tir) (i : Int) : List Int := if 0 ≤ i ∧ i < l.length then idxP l i l.length else []
theorem idxP_len (l : List Tir) (i : Int) (k : Nat) : (idxP l i k).length ≤ k := by
  unfold idxP; rw [List.length_map]; exact Nat.le_trans (List.length_filter_le _ _) (by simp)
theorem idxP_succ (l : List Tir) (i : Int) (k : Nat) : idxP l i (k + 1) = idxP l i k ++ (if (l[k]?.getD default).par = i then [(k : Int)] else []) := by
  unfold idxP
  rw [List.range_succ, List.filter_append, List.map_append]
  by_cases h : (l[k]?.getD default).par = i <;> simp [h]
theorem kidsT_len (l : List Tir) (i : Int) : (kidsT l i).length ≤ l.length := by
  unfold kidsT; split
  · exact idxP_len _ _ _
  · exact Nat.zero_le _
theorem kidsT_mem {l : List Tir} {i t : Int} (h : t ∈ kidsT l i) : 0 ≤ t ∧ t < l.length ∧ (l[t.toNat]?.getD default).par = i ∧ 0 ≤ i ∧ i < l.length := by
  unfold kidsT at h
  split at h
  · rename_i hi
    unfold idxP at h
    rw [List.mem_map] at h
    obtain ⟨j, hj, rfl⟩ := h
    rw [List.mem_filter, List.mem_range, decide_eq_true_eq] at hj
    exact ⟨by omega, by omega, by rw [Int.toNat_natCast]; exact hj.2, hi.1, hi.2⟩
  · cases h
theorem kidsT_ok (l : List Tir) (i : Int) (hl : l.length < 2^40) : PureR Tryz.prog 65 [tiersD l, int i] (ints (kidsT l i)) := by
  refine pure_of_body_frz mixed Tryz.func65 rfl call_65 [1] ?_
  by_cases h0 : i < 0
  · simp (decide := true) [Tryz.f65, tiersD, int, h0, kidsT, ints]
    omega
  by_cases h1 : (l.length : Int) ≤ i
  · simp (decide := true) [Tryz.f65, tiersD, int, h0, h1, kidsT, ints]
    omega
  rw [show kidsT l i = idxP l i l.length by unfold kidsT; rw [if_pos (by omega)]]
  simp (decide := true) [Tryz.f65, tiersD, int, h0, h1, ints]
  refine loop_rule mixed (fun k : Nat => { n := 34, next := 2, slots := [(1, .d (int i)), (5, .ar 1), (17, .d (tiersD l)), (18, .d (int l.length)), (19, .d (int k))], own := [(1, .arr 3 1 ((idxP l i k).map fun n => [int n]))], moved := [1] })
    (fun k => k ≤ l.length) (fun k => l.length - k) 0 (by simp) (by simp (decide := true) [int, tiersD, idxP]) ?_
  intro k hk
  by_cases hlt : k < l.length
  · have hlt' : (k : Int) < l.length := by omega
    have e1 : l[k]? = some l[k] := List.getElem?_eq_getElem hlt
    have hs := idxP_succ l i k
    have hln := idxP_len l i k
    rw [e1, Option.getD_some] at hs
    by_cases h : l[k].par = i
    · rw [if_pos h] at hs
      simp (decide := true) [tiersD, Tir.row, int, hlt, hlt', e1, I64, h]
      exact ⟨by omega, by unfold maxLen; omega, ⟨by omega, by omega⟩, k + 1, hlt, by omega, by omega, by rw [hs]; simp [int]⟩
    · rw [if_neg h, List.append_nil] at hs
      simp (decide := true) [tiersD, Tir.row, int, hlt, hlt', e1, I64, h]
      exact ⟨⟨by omega, by omega⟩, k + 1, hlt, by omega, by omega, by rw [hs]⟩
  · have : k = l.length := by omega
    subst this
    simp (decide := true) [int, ints]
theorem take_all'' {v : Int} {l : List Int} {k : Nat} (h : k < l.length) (hp : ∀ e ∈ l.take k, decide (e = v) = false) (he : decide (l[k] = v) = false) : ∀ e ∈ l.take (k + 1), decide (e = v) = false := take_all' (p := fun e => decide (e = v) = false) h hp he
theorem indexI_ok (l : List Int) (v : Int) (hl : l.length < 2^62) : PureR Tryz.prog 41 [ints l, int v] (int (idxI (fun n => decide (n = v)) l)) := by
  refine pure_of_body mixed Tryz.func41 rfl call_41 ?_
  simp [Tryz.f41, ints]
  refine loop_rule mixed (fun k : Nat => { n := 19, next := 0, slots := [(0, .d (ints l)), (1, .d (int v)), (7, .d (int l.length)), (8, .d (int k))], own := [] })
    (fun k => k ≤ l.length ∧ ∀ e ∈ l.take k, decide (e = v) = false) (fun k => l.length - k) 0 (by simp) (by simp [ints, int]) ?_
  intro k ⟨hk, hp⟩
  by_cases hlt : k < l.length
  · have e1 : l[k]? = some l[k] := List.getElem?_eq_getElem hlt
    have hlt' : (k : Int) < l.length := by omega
    by_cases h : l[k] = v
    · have := idxI_hit hlt hp (by simpa using h)
      simp (decide := true) [ints, int, e1, hlt, hlt', h, I64]
      simp [idxI, this]
    · have h' : ¬ v = l[k] := Ne.symm h
      simp (decide := true) [ints, int, e1, hlt, hlt', h', I64]
      exact ⟨⟨by omega, by omega⟩, k + 1, ⟨hlt, by simpa using take_all'' hlt hp (by simpa using h)⟩, by omega, by omega⟩
  · have : k = l.length := by omega
    subst this
    simp (decide := true) [ints, int]
    rw [List.take_length] at hp; simp [idxI, idxI_miss hp]
theorem place_ok (l : List Int) (v : Int) (hl : l.length < 2^62) : PureR Tryz.prog 47 [ints l, int v] (int (idxI (fun n => decide (n = v)) l)) := by
  refine pure_of_body mixed Tryz.func47 rfl call_47 ?_
  simp [Tryz.f47, ints]
  refine loop_rule mixed (fun k : Nat => { n := 19, next := 0, slots := [(0, .d (ints l)), (1, .d (int v)), (7, .d (int l.length)), (8, .d (int k))], own := [] })
    (fun k => k ≤ l.length ∧ ∀ e ∈ l.take k, decide (e = v) = false) (fun k => l.length - k) 0 (by simp) (by simp [ints, int]) ?_
  intro k ⟨hk, hp⟩
  by_cases hlt : k < l.length
  · have e1 : l[k]? = some l[k] := List.getElem?_eq_getElem hlt
    have hlt' : (k : Int) < l.length := by omega
    by_cases h : l[k] = v
    · have := idxI_hit hlt hp (by simpa using h)
      simp (decide := true) [ints, int, e1, hlt, hlt', h, I64]
      simp [idxI, this]
    · simp (decide := true) [ints, int, e1, hlt, hlt', h, I64]
      exact ⟨⟨by omega, by omega⟩, k + 1, ⟨hlt, by simpa using take_all'' hlt hp (by simpa using h)⟩, by omega, by omega⟩
  · have : k = l.length := by omega
    subst this
    simp (decide := true) [ints, int]
    rw [List.take_length] at hp; simp [idxI, idxI_miss hp]
end Go.V
namespace Go.V
open Go Go.Proofs
theorem take_set_succ {α : Type} {l : List α} {i : Nat} (v : α) (h : i < l.length) : (l.set i v).take (i + 1) = l.take i ++ [v] := by
  have hl : i < (l.set i v).length := by simpa using h
  rw [take_snoc' hl, List.getElem_set_self]
  congr 1
  apply List.ext_getElem?
  intro j
  simp only [List.getElem?_take, List.getElem?_set]
  by_cases hj : j < i
  · rw [if_pos hj, if_pos hj, if_neg (by omega)]
  · rw [if_neg hj, if_neg hj]
theorem drop_set_lt {α : Type} {l : List α} {i j : Nat} (v : α) (h : i < j) : (l.set i v).drop j = l.drop j := by
  apply List.ext_getElem?
  intro k
  simp only [List.getElem?_drop, List.getElem?_set]
  rw [if_neg (by omega)]
theorem filter_snoc' {α : Type} {p : α → Bool} {l : List α} {k : Nat} (h : k < l.length) : (l.take (k + 1)).filter p = (l.take k).filter p ++ (if p l[k] = true then [l[k]] else []) := by
  rw [take_snoc' h, List.filter_append]
  by_cases e : p l[k] = true <;> simp [e]
set_option maxHeartbeats 2000000 in
theorem deleteN_ok (l : List Nt) (hl : l.length < 2^62) (f T : Nat) (p : Nt → Bool) (c : D) (hf : ∀ x ∈ l, PureR Tryz.prog f [.agg x.row, .ptr [c]] (.bool (p x))) :
    CallC Tryz.prog 43 [.ar 0, .fn f [.bp 1 0]] [(0, .arr 45 7 (l.map Nt.row)), (1, .box T [.d c])] 2
      (.d (.sl ((l.filter fun d => !p d).map Nt.row))) 2 [(1, .box T [.d c])] [] := by
  refine callC_of_body_frz mixed Tryz.func43 rfl call_43 [0] (by simp) ?_
  simp [Tryz.f43]
  refine ECall.pure (by rfl) (indexN_ok l hl f [.ptr [c]] p hf) (fun _ => rfl) ?_
  cases hi : l.findIdx? p with
  | none =>
    rw [List.findIdx?_eq_none_iff] at hi
    have hno : (l.filter fun d => !p d) = l := by rw [List.filter_eq_self]; intro a ha; rw [hi a ha]; rfl
    have hidx : idxI p l = -1 := by simp [idxI, idxI_miss hi]
    simp (decide := true) [hidx, int, hno]
    done
  | some k =>
    have hidx : idxI p l = k := by simp [idxI, hi]
    rw [List.findIdx?_eq_some_iff_getElem] at hi
    obtain ⟨hk, hpk, hbef⟩ := hi
    have hn1 : ¬ (k : Int) = -1 := by omega
    simp (decide := true) [hidx, int, hn1, I64]
    refine ⟨by omega, ?_⟩
    have htk : (l.take (k + 1)).filter (fun d => !p d) = l.take k := by
      rw [filter_snoc' hk, List.filter_eq_self.2]
      · simp [hpk]
      · intro a ha
        rw [List.mem_take_iff_getElem] at ha
        obtain ⟨j, hj, rfl⟩ := ha
        have := hbef j (by omega)
        simpa using this
    refine loop_rule mixed (fun x : Nat × Nat × List Nt => { n := 42, next := 2, base := 2, slots := [(0, .ar 0), (1, .fn f [.bp 1 0]), (5, .d (.int .i64 x.2.1)), (6, .d (.int .i64 x.1))], own := [(0, .arr 45 7 (x.2.2.map Nt.row)), (1, .box T [.d c])] })
      (fun x => x.2.2.length = l.length ∧ x.2.1 < x.1 ∧ x.1 ≤ l.length ∧ x.2.2.take x.2.1 = (l.take x.1).filter (fun d => !p d) ∧ x.2.2.drop x.1 = l.drop x.1) (fun x => l.length - x.1) (k + 1, k, l) (by simp [htk]; omega) (by simp [int]) ?_
    rintro ⟨j, i, cur⟩ ⟨hcl, hij, hjl, htake, hdrop⟩
    simp only at hcl hij hjl htake hdrop
    by_cases hlt : j < l.length
    · have hcj : j < cur.length := by omega
      have hcur : cur[j] = l[j] := by
        have h1 : cur.drop j = cur[j] :: cur.drop (j + 1) := List.drop_eq_getElem_cons hcj
        have h2 : l.drop j = l[j] :: l.drop (j + 1) := List.drop_eq_getElem_cons hlt
        rw [h1, h2] at hdrop
        exact (List.cons.inj hdrop).1
      have hdrop' : cur.drop (j + 1) = l.drop (j + 1) := by
        have := congrArg (List.drop 1) hdrop
        rw [List.drop_drop, List.drop_drop] at this
        exact this
      have e1 : cur[j]? = some cur[j] := List.getElem?_eq_getElem hcj
      have hlt' : (j : Int) < cur.length := by omega
      have hfj : PureR Tryz.prog f [.agg cur[j].row, .ptr [c]] (.bool (p l[j])) := by rw [hcur]; exact hf l[j] (List.getElem_mem hlt)
      simp (decide := true) [hlt', hcj, e1, Nt.row, int, I64]
      refine ECall.pure (by rfl) hfj (fun _ => rfl) ?_
      cases hp : p l[j]
      · have hic : i < cur.length := by omega
        have e2 : cur[i]? = some cur[i] := List.getElem?_eq_getElem hic
        simp (decide := true) [hic, e2, Nt.row, int, I64]
        refine ⟨by omega, by omega, j + 1, i + 1, cur.set i cur[j], ⟨by simpa using hcl, by omega, hlt, ?_, ?_⟩, by omega, ⟨by omega, by omega⟩, by simp [List.map_set, Nt.row, int]⟩
        · rw [take_set_succ _ hic, filter_snoc' hlt, htake, hcur]; simp [hp]
        · rw [drop_set_lt _ (by omega)]; exact hdrop'
      · simp (decide := true) [int, I64]
        refine ⟨by omega, j + 1, i, cur, ⟨hcl, by omega, hlt, ?_, hdrop'⟩, by omega, ⟨by omega, by omega⟩, rfl⟩
        rw [filter_snoc' hlt, htake]; simp [hp]
    · have hj : j = l.length := by omega
      subst hj
      have hlt' : ¬ (l.length : Int) < cur.length := by omega
      have hin : ¬ (i : Int) = (cur.length : Int) := by omega
      have hfin : (cur.map Nt.row).take i = (l.filter fun d => !p d).map Nt.row := by
        rw [← List.map_take, htake, List.take_length]
      have hfl : ((l.filter fun d => !p d).map Nt.row).length = i := by rw [← hfin]; simp; omega
      by_cases hi0 : i = 0
      · subst hi0
        have hc0 : ¬ (0 : Int) = (cur.length : Int) := by omega
        simp (decide := true) [hlt', int, I64, hc0]
        have hnil : l.filter (fun d => !p d) = [] := List.eq_nil_of_length_eq_zero (by simpa using hfl)
        rw [List.filter_eq_nil_iff] at hnil
        intro a ha
        simpa using hnil a ha
      · have hi1 : ¬ (0 : Int) = (i : Int) := by omega
        simp (decide := true) [hlt', int, I64, hin, hi1]
        refine ⟨by omega, by omega, by omega, ?_⟩
        rw [hfin]
        rw [if_pos]
        · congr 2
          rw [List.take_append_of_le_length (by omega), List.take_of_length_le (by omega)]
        · refine ⟨by omega, ?_⟩
          cases hF : (l.filter fun d => !p d) with
          | nil => rw [hF] at hfl; simp at hfl; omega
          | cons c0 cs => rfl
end Go.V
namespace Go.V
open Go Go.Proofs
theorem kidsN_len (d : Dc) (id t : Int) : (kidsN d id t).length ≤ d.notes.length := by
  unfold kidsN; rw [isort_length]; exact List.length_filter_le _ _
theorem idsOf_len (l : List Nt) : (idsOf l).length = l.length := by simp [idsOf]
theorem sh1_id (t p r b : Int) (n : Nt) : (sh1 t p r b n).id = n.id := by unfold sh1; split <;> rfl
end Go.V
namespace Go.V
open Go Go.Proofs
theorem refHas_ok (l : List Int) (x : Int) (hl : l.length < 2^62) : PureR Tryz.prog 78 [ints l, int x] (.bool (decide (x ∈ l))) := by
  refine pure_of_body mixed Tryz.func78 rfl call_78 ?_
  simp [Tryz.f78, ints, int]
  refine loop_rule mixed (fun k : Nat => { n := 18, next := 0, slots := [(0, .d (ints l)), (1, .d (int x)), (7, .d (.int .i64 l.length)), (8, .d (.int .i64 k))], own := [] })
    (fun k => k ≤ l.length ∧ x ∉ l.take k) (fun k => l.length - k) 0 (by simp) (by simp [ints, int]) ?_
  intro k ⟨hk, hp⟩
  by_cases hlt : k < l.length
  · have e1 : l[k]? = some l[k] := List.getElem?_eq_getElem hlt
    simp (decide := true) [ints, int, e1, hlt, I64]
    refine ⟨fun h => ?_, fun h => ⟨by omega, k + 1, ⟨hlt, ?_⟩, by omega, by omega⟩⟩
    · rw [← h]; exact List.getElem_mem hlt
    · rw [take_snoc' hlt, List.mem_append, not_or]; exact ⟨hp, by simpa using fun e => h e.symm⟩
  · have : k = l.length := by omega
    subst this
    simp (decide := true) [ints, int]
    simpa using hp
def woN (ids : List Int) (l : List Nt) : List Nt := l.filter fun n => !decide (n.id ∈ ids)
set_option maxHeartbeats 1000000 in
theorem refWithout_ok (d : Dc) (ids : List Int) (hl : d.notes.length < 2^40) (hi : ids.length < 2^62) : PureR Tryz.prog 49 [docD d, ints ids] (docD { d with notes := woN ids d.notes }) := by
  refine pure_of_body_frz mixed Tryz.func49 rfl call_49 [2] ?_
  simp (decide := true) [Tryz.f49, docD, Dc.row, int, tiersD, ints, notesD]
  refine loop_rule mixed (fun k : Nat => { n := 34, next := 3, slots := [(1, .d (ints ids)), (2, .bp 0 0), (4, .bp 1 0), (5, .ar 2), (9, .d (int d.notes.length)), (10, .d (int k))], own := [(0, .box 28 (docCells d)), (1, .box 28 [.d (int 0), .d (.str ⟨#[]⟩), .d (int 0), .d (int 0), .nils, .nils, .nils]), (2, .arr 45 7 ((woN ids (d.notes.take k)).map Nt.row))], moved := [2] })
    (fun k => k ≤ d.notes.length) (fun k => d.notes.length - k) 0 (by simp) (by simp (decide := true) [int, ints, tiersD, notesD, woN]) ?_
  intro k hk
  by_cases hlt : k < d.notes.length
  · have hlt' : (k : Int) < d.notes.length := by omega
    obtain ⟨m, em'⟩ : ∃ m, d.notes[k] = m := ⟨_, rfl⟩
    have em : d.notes[k]? = some m := by rw [List.getElem?_eq_getElem hlt, em']
    have hsn := filter_snoc' (p := fun n : Nt => !decide (n.id ∈ ids)) hlt
    rw [em'] at hsn
    have hlen : (woN ids (d.notes.take k)).length ≤ k := by unfold woN; exact Nat.le_trans (List.length_filter_le _ _) (by rw [List.length_take]; omega)
    simp (decide := true) [int, ints, notesD, Nt.row, hlt, hlt', em, em', I64]
    refine ECall.pure (by rfl) (refHas_ok ids m.id hi) (fun _ => rfl) ?_
    by_cases e : m.id ∈ ids
    · rw [if_neg (by simp [e]), List.append_nil] at hsn
      simp (decide := true) [int, ints, notesD, Nt.row, hlt, hlt', em, em', e, I64]
      exact ⟨⟨by omega, by omega⟩, k + 1, hlt, by omega, by omega, by unfold woN; rw [hsn]⟩
    · rw [if_pos (by simp [e])] at hsn
      simp (decide := true) [int, ints, notesD, Nt.row, hlt, hlt', em, em', e, I64]
      exact ⟨by omega, by unfold maxLen; omega, ⟨by omega, by omega⟩, k + 1, hlt, by omega, by omega, by unfold woN; rw [hsn]; simp [Nt.row, int]⟩
  · have : k = d.notes.length := by omega
    subst this
    rw [List.take_length]
    simp (decide := true) [int, ints, tiersD, notesD]
end Go.V
namespace Go.V
open Go Go.Proofs
theorem idxI_at {L : List Int} (hn : L.Nodup) {i : Nat} {a : Int} (h : L[i]? = some a) : idxI (fun n => decide (n = a)) L = i := by
  rw [List.getElem?_eq_some_iff] at h
  obtain ⟨hi, he⟩ := h
  have := idxI_hit (p := fun n : Int => decide (n = a)) hi (fun e he' => by
    rw [List.mem_take_iff_getElem] at he'
    obtain ⟨j, hj, rfl⟩ := he'
    have hp := List.pairwise_iff_getElem.1 hn j i (by omega) hi (by omega)
    simpa [he] using hp) (by simpa using he)
  unfold idxI; rw [this]
theorem kidsT_nodup (l : List Tir) (i : Int) : (kidsT l i).Nodup := by
  unfold kidsT
  split
  · unfold idxP
    refine List.Pairwise.map _ (fun a b hab => ?_) (List.nodup_range.sublist List.filter_sublist)
    intro e; exact hab (by omega)
  · exact List.nodup_nil
theorem kidsT_of {l : List Tir} {i t : Int} (hi : 0 ≤ i ∧ i < l.length) (ht : 0 ≤ t ∧ t < l.length) (h : (l[t.toNat]?.getD default).par = i) : t ∈ kidsT l i := by
  unfold kidsT
  rw [if_pos hi]
  unfold idxP
  rw [List.mem_map]
  exact ⟨t.toNat, by rw [List.mem_filter, List.mem_range]; exact ⟨by omega, by simpa using h⟩, by omega⟩
def IncL (l : List Nt) : Prop := l.Pairwise fun a b => a.id < b.id
theorem IncL.map {l : List Nt} (h : IncL l) {f : Nt → Nt} (hf : ∀ n, (f n).id = n.id) : IncL (l.map f) := by
  unfold IncL; rw [List.pairwise_map]; exact h.imp fun {a b} hab => by rw [hf, hf]; exact hab
theorem set_ids {c : List Nt} (hinc : IncL c) {k : Nat} (hk : k < c.length) {a : Int} (ha : c[k].id = a) (F : Nt → Nt) : c.set k (F c[k]) = c.map fun n => if n.id = a then F n else n := by
  apply List.ext_getElem (by rw [List.length_set, List.length_map])
  intro i h1 h2
  rw [List.length_set] at h1
  rw [List.getElem_set, List.getElem_map]
  by_cases e : k = i
  · subst e; rw [if_pos rfl, if_pos ha]
  · rw [if_neg e, if_neg]
    intro e2
    have hp := List.pairwise_iff_getElem.1 hinc
    rcases Nat.lt_trichotomy i k with h3 | h3 | h3
    · have := hp i k h1 hk h3; omega
    · exact e h3.symm
    · have := hp k i hk h1 h3; omega
theorem Rgt.below {d : Dc} (h : Rgt d) {n p : Nt} (hn : n ∈ d.notes) (hp : p ∈ d.notes) (e : n.par = p.id) :
    (tirAt d n.tier).kind ≠ 0 ∧ p.tier = (tirAt d n.tier).par ∧ p.tier < n.tier ∧ 0 ≤ n.tier ∧ n.tier < d.tiers.length := by
  have hok := note_of h.good hn
  obtain ⟨t, et⟩ : ∃ t : Nat, n.tier = t := ⟨n.tier.toNat, by have := hok.t0; omega⟩
  have ht : t < d.tiers.length := by have := hok.t1; omega
  have hpl := (h.nok p hp).lo
  rw [et]
  by_cases hk : (tirAt d t).kind = 0
  · have := h.root ⟨hn, et⟩ hk; omega
  · obtain ⟨h1, h2⟩ := h.parent ⟨hn, et⟩ ht hk
    have h3 := ids_uniq h h1.1 hp (by rw [h2, e])
    have h4 := h1.2
    rw [h3] at h4
    have h5 := h.up ht hk
    exact ⟨hk, by omega, by omega, by omega, by omega⟩
theorem Rgt.selfpar {d : Dc} (h : Rgt d) {n : Nt} (hn : n ∈ d.notes) : n.par ≠ n.id := fun e => by have := h.below hn hn e; omega
theorem kindI_at {d : Dc} {t : Nat} (h : t < d.tiers.length) : kindI d t = (tirAt d t).kind := by unfold kindI tirAt; rw [if_pos ⟨by omega, by omega⟩]
structure Sib (d : Dc) (x y : Nt) (a b : Int) : Prop where
  xm : x ∈ d.notes
  ym : y ∈ d.notes
  xi : x.id = a
  yi : y.id = b
  ti : x.tier = y.tier
  ne : a ≠ b
end Go.V
namespace Go.V
open Go Go.Proofs
theorem nodup_ids {d : Dc} (h : Rgt d) {id : Int} {t : Nat} (ht : t < d.tiers.length) : (idsOf (kidsN d id t)).Nodup := by
  have h2 : (kidsN d id t).Nodup := (isort_perm _).nodup_iff.2 ((notes_nodup h.w).sublist List.filter_sublist)
  unfold idsOf
  show List.Pairwise _ (List.map _ _)
  rw [List.pairwise_map]
  refine h2.imp_of_mem fun {a b} ha hb hab e => hab ?_
  exact ids_uniq h ((kid_mem ht).1 ha).1.1 ((kid_mem ht).1 hb).1.1 e
end Go.V
namespace Go.V
open Go Go.Proofs
theorem refKidsW_ok {d : Dc} (h : Wgt d) (id t : Int) : PureR Tryz.prog 46 [docD d, int id, int t] (ints (idsOf (kidsN d id t))) := by
  have := refKids_ok h id t
  rw [ref_ofP h, kids_of h] at this
  exact this
theorem refKind_okI (d : Dc) (t : Int) (hl : d.tiers.length < 2^62) : PureR Tryz.prog 50 [docD d, int t] (int (kindI d t)) := refKind_ok d t hl
end Go.V
namespace Go.V
open Go Go.Proofs
end Go.V
