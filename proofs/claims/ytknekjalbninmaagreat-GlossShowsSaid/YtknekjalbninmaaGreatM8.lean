/- Contracts and plain laws of this seat: part M8. It needs no conditions. -/
import Derived.Test.YtknekjalbninmaaGreatM3
import Derived.Test.YtknekjalbninmaaGreatW1
import Derived.Test.YtknekjalbninmaaGreatM7
import Derived.Test.YtknekjalbninmaaGreatM2
import Derived.Test.YtknekjalbninmaaGreatM5
set_option linter.unusedVariables false
set_option linter.unusedSimpArgs false
set_option linter.unusedSectionVars false
set_option maxRecDepth 100000
namespace Go.V.Doc
open Go Go.Proofs
theorem take_snocY {α : Type} {l : List α} {k : Nat} (h : k < l.length) : l.take (k + 1) = l.take k ++ [l[k]] := by
  rw [List.take_add_one, List.getElem?_eq_getElem h]; rfl
def idxY {α : Type} (p : α → Bool) (l : List α) : Int := match l.findIdx? p with
  | some k => k
  | none => -1
theorem idxY_hit {α : Type} {p : α → Bool} {l : List α} {k : Nat} (h : k < l.length) (hp : ∀ e ∈ l.take k, p e = false) (he : p l[k] = true) : l.findIdx? p = some k := by
  rw [List.findIdx?_eq_some_iff_getElem]
  refine ⟨h, he, fun j hj => ?_⟩
  have := hp l[j] (by rw [List.mem_take_iff_getElem]; exact ⟨j, by omega, rfl⟩)
  simpa using this
theorem idxY_miss {α : Type} {p : α → Bool} {l : List α} (hp : ∀ e ∈ l, p e = false) : l.findIdx? p = none := by
  rw [List.findIdx?_eq_none_iff]; exact hp
def roleI (l : List Tir) (role : Int) : Int := if role = 0 then -1 else idxY (fun t => decide (t.role = role)) l
theorem roleX_ok (l : List Tir) (role : Int) (hl : l.length < 2^62) : PureR Tryz.prog 111 [tiersD l, int role] (int (roleI l role)) := by
  refine pure_of_body mixed Tryz.func111 rfl call_111 ?_
  simp (decide := true) [Tryz.f111, tiersD, int]
  refine loop_rule mixed (fun k : Nat => { n := 24, next := 0, slots := [(1, .d (int role)), (7, .d (tiersD l)), (8, .d (.int .i64 l.length)), (9, .d (.int .i64 k))], own := [] })
    (fun k => k ≤ l.length ∧ (role ≠ 0 → ∀ t ∈ l.take k, decide (t.role = role) = false)) (fun k => l.length - k) 0 (by simp) (by simp (decide := true) [tiersD, int]) ?_
  intro k ⟨hk, hp⟩
  by_cases hlt : k < l.length
  · have e1 : l[k]? = some l[k] := List.getElem?_eq_getElem hlt
    by_cases h0 : role = 0
    · subst h0
      simp (decide := true) [tiersD, Tir.row, int, e1, hlt, I64]
      exact ⟨by omega, k + 1, hlt, by omega, by omega⟩
    · by_cases hn : l[k].role = role
      · have hf : roleI l role = k := by
          unfold roleI idxY
          rw [if_neg h0, idxY_hit hlt (hp h0) (by simp [hn])]
        simp (decide := true) [tiersD, Tir.row, int, e1, hlt, I64, h0, hn, hf]
      · simp (decide := true) [tiersD, Tir.row, int, e1, hlt, I64, h0, hn]
        refine ⟨by omega, k + 1, ⟨hlt, fun t ht => ?_⟩, by omega, by omega⟩
        rw [take_snocY hlt] at ht
        rcases List.mem_append.1 ht with h | h
        · simpa using hp h0 t h
        · rw [List.mem_singleton] at h; rw [h]; exact hn
  · have : k = l.length := by omega
    subst this
    rw [List.take_length] at hp
    have hf : roleI l role = -1 := by
      unfold roleI idxY
      by_cases h0 : role = 0
      · rw [if_pos h0]
      · rw [if_neg h0, idxY_miss (hp h0)]
    simp (decide := true) [tiersD, int, hf]
theorem refRole_ok (l : List Tir) (role : Int) (hl : l.length < 2^62) : PureR Tryz.prog 114 [tiersD l, int role] (int (roleI l role)) := by
  refine pure_of_body mixed Tryz.func114 rfl call_114 ?_
  simp (decide := true) [Tryz.f114, tiersD, int]
  refine loop_rule mixed (fun k : Nat => { n := 24, next := 0, slots := [(0, .d (tiersD l)), (1, .d (int role)), (5, .d (.int .i64 k))], own := [] })
    (fun k => k ≤ l.length ∧ (role ≠ 0 → ∀ t ∈ l.take k, decide (t.role = role) = false)) (fun k => l.length - k) 0 (by simp) (by simp (decide := true) [tiersD, int]) ?_
  intro k ⟨hk, hp⟩
  by_cases hlt : k < l.length
  · have e1 : l[k]? = some l[k] := List.getElem?_eq_getElem hlt
    by_cases h0 : role = 0
    · subst h0
      simp (decide := true) [tiersD, Tir.row, int, e1, hlt, I64]
      exact ⟨by omega, k + 1, hlt, by omega, by omega⟩
    · by_cases hn : l[k].role = role
      · have hf : roleI l role = k := by
          unfold roleI idxY
          rw [if_neg h0, idxY_hit hlt (hp h0) (by simp [hn])]
        simp (decide := true) [tiersD, Tir.row, int, e1, hlt, I64, h0, hn, hf]
      · simp (decide := true) [tiersD, Tir.row, int, e1, hlt, I64, h0, hn]
        refine ⟨by omega, k + 1, ⟨hlt, fun t ht => ?_⟩, by omega, by omega⟩
        rw [take_snocY hlt] at ht
        rcases List.mem_append.1 ht with h | h
        · simpa using hp h0 t h
        · rw [List.mem_singleton] at h; rw [h]; exact hn
  · have : k = l.length := by omega
    subst this
    rw [List.take_length] at hp
    have hf : roleI l role = -1 := by
      unfold roleI idxY
      by_cases h0 : role = 0
      · rw [if_pos h0]
      · rw [if_neg h0, idxY_miss (hp h0)]
    simp (decide := true) [tiersD, int, hf]
theorem refRole32_ok (d : Dc) (r : Int) (hl : d.tiers.length < 2^62) : PureR Tryz.prog 57 [docD d, int r] (int (roleI d.tiers r)) := by
  refine pure_of_body mixed Tryz.func57 rfl call_57 ?_
  have h1 := refRole_ok d.tiers r hl
  simp (decide := true) [Tryz.f57, docD, Dc.row, int]
  refine ECall.pure (by rfl) h1 (by simp [D.scalar, tiersD]) ?_
  simp (decide := true) [int]
theorem draw_lastY {P : Program} (hmix : P.follows .mixedOrders = true) {id : Nat} {ops : List Oper} {st : St} {Q : DE → St → Prop} (hne : ops ≠ []) (hok : drawOk ops = true) (hcut : cutB ops (ops.length - 1) = true) (hg : (ops.getLast hne).guard = none)
    (hkeys : (st.own.map (·.1)).Nodup) (h : ddrawL P ops st.next (ops.getLast hne) ops.dropLast st (Q .normal)) : Triple P (.region id ops.toArray true) Q st := by
  obtain ⟨pre, o, rfl⟩ : ∃ pre o, ops = pre ++ [o] := ⟨ops.dropLast, ops.getLast hne, (List.dropLast_concat_getLast hne).symm⟩
  have hgl : (pre ++ [o]).getLast hne = o := by simp
  rw [hgl] at hg h
  rw [List.dropLast_concat] at h
  refine draw_last hmix hok ?_ hg hkeys h
  simpa using hcut
def placesD (d : Dc) : D := .agg [int (roleI d.tiers 2), int (roleI d.tiers 3), int (roleI d.tiers 4)]
theorem find_ok32 (d : Dc) (hl : d.tiers.length < 2^62) : PureR Tryz.prog 52 [docD d] (placesD d) := by
  refine pure_of_body mixed Tryz.func52 rfl call_52 ?_
  have h2 := roleX_ok d.tiers 2 hl
  have h3 := roleX_ok d.tiers 3 hl
  have h4 := roleX_ok d.tiers 4 hl
  simp (decide := true) [Tryz.f52, docD, Dc.row, int]
  refine draw_lastY mixed (by simp) (by rfl) (by rfl) (by rfl) (by simp) ?_
  simp (decide := true) [int]
  refine scall_pure (by rfl) (by rfl) h2 (by simp [tiersD]) ?_
  simp (decide := true) [int]
  refine scall_pure (by rfl) (by rfl) h3 (by simp [tiersD]) ?_
  simp (decide := true) [int]
  refine scall_pure (by rfl) (by rfl) h4 (by simp [tiersD]) ?_
  simp (decide := true) [int, placesD]
def readyB (d : Dc) : Bool := decide (0 ≤ roleI d.tiers 2) && (decide (0 ≤ roleI d.tiers 3) && decide (0 ≤ roleI d.tiers 4))
theorem ready_ok (d : Dc) (hl : d.tiers.length < 2^62) : PureR Tryz.prog 20 [docD d] (.bool (readyB d)) := by
  refine pure_of_body mixed Tryz.func20 rfl call_20 ?_
  have h := find_ok32 d hl
  unfold readyB
  simp (decide := true) [Tryz.f20, docD, Dc.row, int]
  refine ECall.pure (by rfl) h (fun _ => rfl) ?_
  by_cases c2 : 0 ≤ roleI d.tiers 2
  · by_cases c3 : 0 ≤ roleI d.tiers 3
    · by_cases c4 : 0 ≤ roleI d.tiers 4
      · simp (decide := true) [placesD, int, c2, c3, c4]
      · simp (decide := true) [placesD, int, c2, c3, c4]
    · simp (decide := true) [placesD, int, c2, c3]
  · simp (decide := true) [placesD, int, c2]
theorem refReady_ok (d : Dc) (hl : d.tiers.length < 2^62) : PureR Tryz.prog 21 [docD d] (.bool (readyB d)) := by
  refine pure_of_body mixed Tryz.func21 rfl call_21 ?_
  have h2 := refRole32_ok d 2 hl
  have h3 := refRole32_ok d 3 hl
  have h4 := refRole32_ok d 4 hl
  unfold readyB
  simp (decide := true) [Tryz.f21, docD, Dc.row, int]
  refine ECall.pure (by rfl) h2 (fun _ => rfl) ?_
  by_cases c2 : 0 ≤ roleI d.tiers 2
  · simp (decide := true) [int, c2]
    refine ECall.pure (by rfl) h3 (fun _ => rfl) ?_
    by_cases c3 : 0 ≤ roleI d.tiers 3
    · simp (decide := true) [int, c3]
      refine ECall.pure (by rfl) h4 (fun _ => rfl) ?_
      by_cases c4 : 0 ≤ roleI d.tiers 4
      · simp (decide := true) [int, c4]
      · simp (decide := true) [int, c4]
    · simp (decide := true) [int, c3]
  · simp (decide := true) [int, c2]
end Go.V.Doc
namespace Go.V.Doc
open Go Go.Proofs
theorem refText_ok32 (d : Dc) (id : Int) (hl : d.notes.length < 2^62) : PureR Tryz.prog 58 [docD d, int id] (.str (getN d.notes id).1.text) := by
  refine pure_of_body mixed Tryz.func58 rfl call_58 ?_
  have h := refGet_ok d id hl
  simp (decide := true) [Tryz.f58, docD, Dc.row, int]
  refine ECall.pure (by rfl) h (fun _ => rfl) ?_
  simp (decide := true) [getD', Nt.row, int]
def isWordB (d : Dc) (id : Int) : Bool := (getN d.notes id).2 && decide ((getN d.notes id).1.tier = roleI d.tiers 2)
theorem refIsWord_ok (d : Dc) (id : Int) (hl : d.notes.length < 2^62) (ht : d.tiers.length < 2^62) : PureR Tryz.prog 55 [docD d, int id] (.bool (isWordB d id)) := by
  refine pure_of_body mixed Tryz.func55 rfl call_55 ?_
  have h := refGet_ok d id hl
  have h2 := refRole32_ok d 2 ht
  unfold isWordB
  simp (decide := true) [Tryz.f55, docD, Dc.row, int]
  refine ECall.pure (by rfl) h (fun _ => rfl) ?_
  generalize getN d.notes id = r
  obtain ⟨n, ok⟩ := r
  cases ok with
  | false => simp (decide := true) [getD', Nt.row, int]
  | true =>
    simp (decide := true) [getD', Nt.row, int]
    refine scall_pure (by rfl) (by rfl) h2 (by simp [D.scalar]) ?_
    simp (decide := true) [int]
theorem get_ok32 (d : Dc) (id : Int) (hl : d.notes.length < 2^62) (ht : d.tiers.length < 2^62) : PureR Tryz.prog 51 [docD d, int id] (.tup [.agg (getN d.notes id).1.row, .bool (isWordB d id)]) := by
  refine pure_of_body mixed Tryz.func51 rfl call_51 ?_
  have h := get_ok d id hl
  have h2 := find_ok32 d ht
  unfold isWordB
  simp (decide := true) [Tryz.f51, docD, Dc.row, int]
  refine ECall.pure (by rfl) h (fun _ => rfl) ?_
  generalize getN d.notes id = r
  obtain ⟨n, ok⟩ := r
  cases ok with
  | false =>
    simp (decide := true) [getD', Nt.row, int]
    refine draw_b mixed 10 1 (by rfl) rfl rfl rfl rfl (by rfl) (by simp) ?_
    simp (decide := true) [getD', Nt.row, int]
  | true =>
    simp (decide := true) [getD', Nt.row, int]
    refine draw_b mixed 10 1 (by rfl) rfl rfl rfl rfl (by rfl) (by simp) ?_
    simp (decide := true) [getD', Nt.row, int]
    refine scall_pure (by rfl) (by rfl) h2 (by simp [D.scalar]) ?_
    simp (decide := true) [getD', Nt.row, int, placesD]
end Go.V.Doc
namespace Go.V.Doc
open Go Go.Proofs
def strsY (l : List ByteArray) : D := .sl (l.map fun s => [.str s])
def textY (d : Dc) (id : Int) : ByteArray := (getN d.notes id).1.text
def lastY (d : Dc) (l : List Int) : ByteArray := l.foldl (fun _ k => textY d k) .empty
def kidsY (d : Dc) (id : Int) (r : Int) : List Int := idsOf (kidsN d id (roleI d.tiers r))
def shownY (d : Dc) (w : Int) : Bool := isWordB d w && readyB d
theorem kidsY_len (d : Dc) (id r : Int) (hl : d.notes.length < 20) : (kidsY d id r).length < 20 := by
  unfold kidsY idsOf kidsN
  rw [List.length_map, (isort_perm _).length_eq]
  exact Nat.lt_of_le_of_lt (List.length_filter_le _ _) hl
theorem foldY {d : Dc} {K : List Int} {j : Nat} (h : j < K.length) : (K.take (j + 1)).foldl (fun _ k => textY d k) ByteArray.empty = textY d K[j] := by
  rw [take_snocY h, List.foldl_append]
  rfl
def fRow (d : Dc) (L : List Int) : List (List D) := L.map fun m => [D.str (textY d m)]
def gRow (d : Dc) (L : List Int) : List (List D) := L.map fun m => [D.str (lastY d (kidsY d m 4))]
set_option maxHeartbeats 16000000 in
theorem shown_ok (d : Dc) (w : Int) (hl : d.notes.length < 20) (ht : d.tiers.length < 2^62) :
    PureR Tryz.prog 18 [docD d, int w] (if shownY d w = true then .tup [strsY ((kidsY d w 3).map (textY d)), strsY ((kidsY d w 3).map fun m => lastY d (kidsY d m 4))] else .tup [strsY [], strsY []]) := by
  refine pure_of_body mixed Tryz.func18 rfl call_18 ?_
  have hg := get_ok32 d w (by omega) ht
  have hr := ready_ok d ht
  have hf := find_ok32 d ht
  have hk := kids_ok d w (roleI d.tiers 3) hl
  have hkl := kidsY_len d w 3 hl
  unfold shownY
  simp (decide := true) [Tryz.f18, docD, Dc.row, int]
  refine ECall.pure (by rfl) hg (fun _ => rfl) ?_
  cases hw : isWordB d w with
  | false => simp (decide := true) [Nt.row, int, strsY]
  | true =>
    simp (decide := true) [Nt.row, int]
    refine ECall.pure (by rfl) hr (fun _ => rfl) ?_
    cases hrd : readyB d with
    | false => simp (decide := true) [Nt.row, int, strsY]
    | true =>
      simp (decide := true) [Nt.row, int]
      refine ECall.pure (by rfl) hf (fun _ => rfl) ?_
      simp (decide := true) [Nt.row, int, placesD]
      refine ECall.pureN (by rfl) (kidsN_ok d w (roleI d.tiers 3) hl) ?_
      change ((kidsY d w 3).length < 20) at hkl
      rw [show idsOf (kidsN d w (roleI d.tiers 3)) = kidsY d w 3 from rfl]
      generalize kidsY d w 3 = L at hkl ⊢
      simp (decide := true) [Nt.row, int, ints]
      have hsp : ints d.spk = .sl (d.spk.map fun n => [.int .i64 n]) := rfl
      refine loop_ruleT mixed (fun k : Nat => { n := 82, next := 7, slots := [(2, .bp 0 0), (8, .bp 4 0), (9, .ar 5), (10, .ar 6), (39, .d (ints L)), (40, .d (int L.length)), (41, .d (int k))], own := [(0, .box 53 (docCells d)), (4, .box 112 [.d (int (roleI d.tiers 2)), .d (int (roleI d.tiers 3)), .d (int (roleI d.tiers 4))]), (5, .arr 9 1 (fRow d (L.take k))), (6, .arr 9 1 (gRow d (L.take k)))], moved := [5, 6] })
        (fun k => k ≤ L.length) (fun k => L.length - k) 0 (Nat.zero_le _) ?_ ?_
      · simp (decide := true) [int, ints, docCells, fRow, gRow]
      intro k hkl2
      refine ev_sound mixed ?_
      by_cases hlt : k < L.length
      case neg =>
        have : k = L.length := by omega
        subst this
        simp (decide := true) [int, ints, strsY, fRow, gRow, docCells, textY]
      have hlt' : (k : Int) < L.length := by omega
      obtain ⟨m, em⟩ : ∃ m, L[k] = m := ⟨_, rfl⟩
      have em1 : L[k]? = some m := by rw [List.getElem?_eq_getElem hlt, em]
      have hgm := get_ok d m (by omega)
      have hkm := kidsN_ok d m (roleI d.tiers 4) hl
      have hkml := kidsY_len d m 4 hl
      have hsn := take_snocY hlt
      rw [em] at hsn
      have ef : fRow d (L.take (k + 1)) = fRow d (L.take k) ++ [[.str (textY d m)]] := by rw [hsn]; simp [fRow]
      have eg : gRow d (L.take (k + 1)) = gRow d (L.take k) ++ [[.str (lastY d (kidsY d m 4))]] := by rw [hsn]; simp [gRow]
      have lf : (fRow d (L.take k)).length = k := by simp [fRow]; omega
      have lg : (gRow d (L.take k)).length = k := by simp [gRow]; omega
      generalize fRow d (L.take k) = F at ef lf
      generalize gRow d (L.take k) = G at eg lg
      rw [show idsOf (kidsN d m (roleI d.tiers 4)) = kidsY d m 4 from rfl] at hkm
      have htm : textY d m = (getN d.notes m).1.text := rfl
      generalize kidsY d m 4 = K at hkm hkml eg
      generalize getN d.notes m = r at hgm htm
      obtain ⟨nm, ok⟩ := r
      simp only at htm
      simp (decide := true) [int, ints, docCells, hlt, hlt', em, em1, I64]
      refine ECall.pure (by rfl) hgm (fun _ => rfl) ?_
      simp (decide := true) [getD', Nt.row, int]
      refine ECall.pureN (by rfl) hkm ?_
      simp (decide := true) [int, ints]
      refine loop_ruleT mixed (fun j : Nat => { n := 82, next := 8, slots := [(2, .bp 0 0), (8, .bp 4 0), (9, .ar 5), (10, .ar 6), (39, .d (ints L)), (40, .d (int L.length)), (41, .d (int k)), (13, .bp 7 0), (15, .d (.str (lastY d (K.take j)))), (55, .d (ints K)), (56, .d (int K.length)), (57, .d (int j))], own := [(0, .box 53 (docCells d)), (4, .box 112 [.d (int (roleI d.tiers 2)), .d (int (roleI d.tiers 3)), .d (int (roleI d.tiers 4))]), (5, .arr 9 1 F), (6, .arr 9 1 G), (7, .box 72 (nm.row.map .d))], moved := [5, 6] })
        (fun j => j ≤ K.length) (fun j => K.length - j) 0 (Nat.zero_le _) ?_ ?_
      · simp (decide := true) [int, ints, docCells, Nt.row, lastY]
      intro j hj
      refine ev_sound mixed ?_
      by_cases hlj : j < K.length
      case neg =>
        have : j = K.length := by omega
        subst this
        rw [List.take_length]
        simp (decide := true) [int, ints, docCells, Nt.row, I64]
        exact ⟨by omega, by unfold maxLen; omega, by omega, by unfold maxLen; omega, ⟨by omega, by omega⟩, k + 1, hlt, by omega, by omega, by rw [ef, htm], by rw [eg]⟩
      have hlj' : (j : Int) < K.length := by omega
      obtain ⟨q, eq⟩ : ∃ q, K[j] = q := ⟨_, rfl⟩
      have eq1 : K[j]? = some q := by rw [List.getElem?_eq_getElem hlj, eq]
      have hfo := foldY (d := d) hlj
      rw [eq] at hfo
      have hgq := get_ok d q (by omega)
      have htq : textY d q = (getN d.notes q).1.text := rfl
      generalize getN d.notes q = r2 at hgq htq
      obtain ⟨nq, okq⟩ := r2
      simp only at htq
      have hl2 : lastY d (K.take (j + 1)) = nq.text := by unfold lastY; rw [hfo, htq]
      simp (decide := true) [int, ints, docCells, Nt.row, I64, hlj, hlj', eq, eq1]
      refine ECall.pure (by rfl) hgq (fun _ => rfl) ?_
      simp (decide := true) [getD', Nt.row, int, I64]
      exact ⟨⟨by omega, by omega⟩, j + 1, hlj, by omega, by rw [hl2], by omega⟩
end Go.V.Doc
namespace Go.V.Doc
open Go Go.Proofs
def refKidsY (d : Dc) (id : Int) (r : Int) : List Int := idsOf ((refOf d (roleI d.tiers r)).filter fun n => decide (n.par = id))
def headY (d : Dc) (l : List Int) : ByteArray := match l with
  | [] => .empty
  | k :: _ => textY d k
def rgRow (d : Dc) (L : List Int) : List (List D) := L.map fun m => [D.str (headY d (refKidsY d m 4))]
set_option maxHeartbeats 16000000 in
theorem refShown_ok (d : Dc) (hw : Wgt d) (w : Int) (ht : d.tiers.length < 2^62) (hL : (refKidsY d w 3).length < 2^40) :
    PureR Tryz.prog 19 [docD d, int w] (if (readyB d && isWordB d w) = true then .tup [strsY ((refKidsY d w 3).map (textY d)), strsY ((refKidsY d w 3).map fun m => headY d (refKidsY d m 4))] else .tup [strsY [], strsY []]) := by
  refine pure_of_body mixed Tryz.func19 rfl call_19 ?_
  have hfew := hw.few
  have hg := refIsWord_ok d w (by omega) ht
  have hr := refReady_ok d ht
  have h3 := refRole32_ok d 3 ht
  have h4 := refRole32_ok d 4 ht
  have hk := refKids_ok hw w (roleI d.tiers 3)
  simp (decide := true) [Tryz.f19, docD, Dc.row, int]
  refine ECall.pure (by rfl) hr (fun _ => rfl) ?_
  cases hrd : readyB d with
  | false => simp (decide := true) [int, strsY]
  | true =>
    simp (decide := true) [int]
    refine ECall.pure (by rfl) hg (fun _ => rfl) ?_
    cases hwd : isWordB d w with
    | false => simp (decide := true) [int, strsY]
    | true =>
      simp (decide := true) [int]
      refine scall_pure (by rfl) (by rfl) h3 (by simp [D.scalar]) ?_
      simp (decide := true) [int]
      refine scall_pure (by rfl) (by rfl) hk (by simp [D.scalar]) ?_
      rw [show idsOf ((refOf d (roleI d.tiers 3)).filter fun n => decide (n.par = w)) = refKidsY d w 3 from rfl]
      generalize refKidsY d w 3 = L at hL ⊢
      simp (decide := true) [int, ints]
      refine loop_ruleT mixed (fun k : Nat => { n := 66, next := 5, slots := [(2, .bp 0 0), (6, .ar 3), (7, .ar 4), (8, .d (ints L)), (9, .d (int k))], own := [(0, .box 53 (docCells d)), (3, .arr 9 1 (fRow d (L.take k))), (4, .arr 9 1 (rgRow d (L.take k)))], moved := [3, 4] })
        (fun k => k ≤ L.length) (fun k => L.length - k) 0 (Nat.zero_le _) ?_ ?_
      · simp (decide := true) [int, ints, docCells, fRow, rgRow]
      intro k hkl2
      refine ev_sound mixed ?_
      by_cases hlt : k < L.length
      case neg =>
        have : k = L.length := by omega
        subst this
        simp (decide := true) [int, ints, strsY, fRow, rgRow, docCells, textY]
      have hlt' : (k : Int) < L.length := by omega
      obtain ⟨m, em⟩ : ∃ m, L[k] = m := ⟨_, rfl⟩
      have em1 : L[k]? = some m := by rw [List.getElem?_eq_getElem hlt, em]
      have htx := refText_ok32 d m (by omega)
      have hkm := refKids_ok hw m (roleI d.tiers 4)
      have hsn := take_snocY hlt
      rw [em] at hsn
      have ef : fRow d (L.take (k + 1)) = fRow d (L.take k) ++ [[.str (textY d m)]] := by rw [hsn]; simp [fRow]
      have eg : rgRow d (L.take (k + 1)) = rgRow d (L.take k) ++ [[.str (headY d (refKidsY d m 4))]] := by rw [hsn]; simp [rgRow]
      have lf : (fRow d (L.take k)).length = k := by simp [fRow]; omega
      have lg : (rgRow d (L.take k)).length = k := by simp [rgRow]; omega
      generalize fRow d (L.take k) = F at ef lf
      generalize rgRow d (L.take k) = G at eg lg
      rw [show idsOf ((refOf d (roleI d.tiers 4)).filter fun n => decide (n.par = m)) = refKidsY d m 4 from rfl] at hkm
      rw [show (getN d.notes m).1.text = textY d m from rfl] at htx
      generalize refKidsY d m 4 = K at hkm eg
      simp (decide := true) [int, ints, docCells, hlt, hlt', em, em1, I64]
      refine draw_t mixed 8 (by rfl) (by rfl) (by rfl) (by rfl) (by simp) ?_
      simp (decide := true) [int, ints, docCells, hlt, hlt', em, em1, I64]
      refine scall_pure (by rfl) (by rfl) htx (by simp [D.scalar]) ?_
      simp (decide := true) [int, ints, docCells, hlt, hlt', em, em1, I64]
      refine ⟨by omega, by unfold maxLen; omega, ?_⟩
      refine scall_pure (by rfl) (by rfl) h4 (by simp [D.scalar]) ?_
      simp (decide := true) [int, ints, docCells, hlt, hlt', em, em1, I64]
      refine scall_pure (by rfl) (by rfl) hkm (by simp [D.scalar]) ?_
      cases K with
      | nil =>
        simp (decide := true) [int, ints, docCells, I64]
        exact ⟨by omega, by unfold maxLen; omega, ⟨by omega, by omega⟩, k + 1, hlt, by omega, by omega, by rw [ef], by rw [eg]; rfl⟩
      | cons q K' =>
        have htq := refText_ok32 d q (by omega)
        rw [show (getN d.notes q).1.text = textY d q from rfl] at htq
        have hq0 : (0 : Int) < (K'.length : Int) + 1 := by omega
        simp (decide := true) [int, ints, docCells, I64, hq0]
        refine draw_t mixed 7 (by rfl) (by rfl) (by rfl) (by rfl) (by simp) ?_
        simp (decide := true) [int, ints, docCells, I64, hq0]
        refine scall_pure (by rfl) (by rfl) htq (by simp [D.scalar]) ?_
        simp (decide := true) [int, ints, docCells, I64, hq0]
        exact ⟨by omega, by unfold maxLen; omega, ⟨by omega, by omega⟩, k + 1, hlt, by omega, by omega, by rw [ef], by rw [eg]; rfl⟩
end Go.V.Doc
namespace Go.V.Doc
open Go Go.Proofs
theorem sameTexts_ok (a : List ByteArray) (ha : a.length < 2^62) : PureR Tryz.prog 16 [strsY a, strsY a] (.bool true) := by
  refine pure_of_body mixed Tryz.func16 rfl call_16 ?_
  simp (decide := true) [Tryz.f16, strsY, int]
  refine loop_rule mixed (fun k : Nat => { n := 26, next := 0, slots := [(0, .d (strsY a)), (1, .d (strsY a)), (5, .d (int k))], own := [] })
    (fun k => k ≤ a.length) (fun k => a.length - k) 0 (by simp) (by simp [strsY, int]) ?_
  intro k hk
  by_cases hlt : k < a.length
  · have e1 : a[k]? = some a[k] := List.getElem?_eq_getElem hlt
    simp (decide := true) [strsY, int, e1, hlt, I64]
    exact ⟨by omega, k + 1, hlt, by omega, by omega⟩
  · have : k = a.length := by omega
    subst this
    simp (decide := true) [strsY, int]
theorem Rgt.label {d : Dc} (h : Rgt d) {t : Nat} (ht : t < d.tiers.length) (k4 : (tirAt d t).kind = 4) {a b : Nt} (ha : inT d t a) (hb : inT d t b) (hp : a.par = b.par) : a = b := by
  apply Classical.byContradiction
  intro hne
  have hbad := (ter_iff.1 (h.ter t ht)).2 a (inT_iff.2 ha)
  have hma : a ∈ sibs d.notes t a.par := by unfold sibs; rw [List.mem_filter]; exact ⟨ha.1, by simp [ha.2]⟩
  have hmb : b ∈ sibs d.notes t a.par := by unfold sibs; rw [List.mem_filter]; exact ⟨hb.1, by simp [hb.2, hp]⟩
  have hlen : ¬ 1 < (sibs d.notes t a.par).length := by
    rw [k4] at hbad
    simp [badR] at hbad
    omega
  generalize sibs d.notes t a.par = S at hlen hma hmb
  obtain ⟨i, hi, rfl⟩ := List.mem_iff_getElem.1 hma
  obtain ⟨j, hj, rfl⟩ := List.mem_iff_getElem.1 hmb
  have : i = j := by omega
  subst this
  exact hne rfl
theorem Rgt.gloss {d : Dc} (h : Rgt d) {t : Nat} (ht : t < d.tiers.length) (hr : (d.tiers[t]).role = 4) : (tirAt d t).kind = 4 := by
  have h1 := h.good.tiers t ht
  rw [tirAt_nat d ht]
  generalize d.tiers[t] = x at *
  unfold oneE at h1
  have key : ∀ pr, rolesE pr x.kind x.role = 0 → x.kind = 4 := by
    intro pr hp
    unfold rolesE at hp
    rw [hr] at hp
    simp at hp
    exact Classical.byContradiction fun hne => by rw [if_neg hne] at hp; cases hp
  split at h1
  · cases h1
  · split at h1
    · cases h1
    · split at h1
      · cases h1
      · split at h1
        · cases h1
        · split at h1
          · cases h1
          · split at h1
            · split at h1
              · exact key _ h1
              · cases h1
            · split at h1
              · cases h1
              · split at h1
                · cases h1
                · exact key _ h1
theorem idxY_spec {α : Type} {p : α → Bool} {l : List α} (h : 0 ≤ idxY p l) : ∃ k : Nat, idxY p l = k ∧ ∃ hk : k < l.length, p l[k] = true := by
  unfold idxY at h ⊢
  cases hf : l.findIdx? p with
  | none => rw [hf] at h; simp at h
  | some k =>
    rw [List.findIdx?_eq_some_iff_getElem] at hf
    obtain ⟨hk, hp, _⟩ := hf
    exact ⟨k, rfl, hk, hp⟩
theorem one_of {α : Type} : ∀ {l : List α}, l.Nodup → (∀ a ∈ l, ∀ b ∈ l, a = b) → l.length ≤ 1
  | [], _, _ => Nat.zero_le _
  | [a], _, _ => Nat.le_refl _
  | a :: b :: l, hn, h => by
    have := h a (by simp) b (by simp)
    subst this
    simp at hn
theorem kids4_one {d : Dc} (h : Rgt d) (hr : readyB d = true) (m : Int) : (kidsY d m 4).length ≤ 1 := by
  unfold readyB at hr
  simp only [Bool.and_eq_true, decide_eq_true_eq] at hr
  have h4 := hr.2.2
  unfold roleI at h4
  rw [if_neg (by decide)] at h4
  obtain ⟨t, et, ht, hp⟩ := idxY_spec h4
  rw [decide_eq_true_eq] at hp
  have hk := h.gloss ht hp
  have er : roleI d.tiers 4 = (t : Int) := by unfold roleI; rw [if_neg (by decide), et]
  unfold kidsY idsOf
  rw [List.length_map, er]
  refine one_of ?_ ?_
  · exact (isort_perm _).nodup_iff.2 ((notes_nodup h.w).sublist List.filter_sublist)
  · intro a ha b hb
    have ha := List.mem_filter.1 ((isort_perm _).mem_iff.1 ha)
    have hb := List.mem_filter.1 ((isort_perm _).mem_iff.1 hb)
    have ka := ha.2
    have kb := hb.2
    unfold kidB at ka kb
    simp only [Bool.and_eq_true, decide_eq_true_eq] at ka kb
    exact h.label ht hk ⟨ha.1, ka.1.1.1⟩ ⟨hb.1, kb.1.1.1⟩ (by rw [ka.1.1.2, kb.1.1.2])
theorem last_head {d : Dc} {K : List Int} (h : K.length ≤ 1) : lastY d K = headY d K := by
  match K, h with
  | [], _ => rfl
  | [k], _ => rfl
theorem refKids_eq {d : Dc} (h : Rgt d) (id r : Int) : refKidsY d id r = kidsY d id r := by
  unfold refKidsY kidsY
  rw [ref_ofP h.w, kids_of h.w]
theorem lightP_spec {d : Dc} (h : lightP d = true) : d.notes.length ≤ 14 ∧ d.tiers.length ≤ 6 ∧ d.spk.length ≤ 6 ∧ Rgt d := by
  simp only [lightP, Bool.and_eq_true, decide_eq_true_eq] at h
  exact ⟨h.1.1.1, h.1.1.2, h.1.2, right_iff.1 (by rw [check_eq]; exact h.2)⟩
set_option maxHeartbeats 16000000 in
theorem law_shows (d : Dc) (w : Int) (hs : ∀ t ∈ d.tiers, t.name.size ≤ 9223372036854775807) (hx : ∀ n ∈ d.notes, n.text.size ≤ 9223372036854775807) : PureR Tryz.prog 4 [docD d, int w] (.bool true) := by
  refine pure_of_body mixed Tryz.func4 rfl call_4 ?_
  simp (decide := true) [Tryz.f4, docD, Dc.row, int]
  refine ECall.pure (by rfl) (light_ok d hs hx) (fun _ => rfl) ?_
  cases hl : lightP d
  · simp (decide := true)
    refine ECall.pure (by rfl) awake32_R (fun _ => rfl) ?_
    simp (decide := true)
  obtain ⟨h1, h2, h3, hr⟩ := lightP_spec hl
  have hd1 : d.notes.length < 20 := by omega
  have hd2 : d.tiers.length < 2^62 := by omega
  have hS := shown_ok d w hd1 hd2
  have hkl := kidsY_len d w 3 hd1
  have hRS := refShown_ok d hr.w w hd2 (by rw [refKids_eq hr]; omega)
  have hA := ready_ok d hd2
  have hB := refReady_ok d hd2
  rw [refKids_eq hr] at hRS
  have heq : (kidsY d w 3).map (fun m => headY d (refKidsY d m 4)) = (kidsY d w 3).map (fun m => headY d (kidsY d m 4)) := by
    apply List.map_congr_left; intro m _; rw [refKids_eq hr]
  rw [heq] at hRS
  have hsh : (readyB d && isWordB d w) = shownY d w := by unfold shownY; rw [Bool.and_comm]
  rw [hsh] at hRS
  simp (decide := true) [int]
  cases hsw : shownY d w with
  | false =>
    rw [hsw] at hS hRS
    simp only [Bool.false_eq_true, if_false] at hS hRS
    have hT := sameTexts_ok [] (by simp)
    simp only [strsY, List.map_nil] at hS hRS hT
    refine ECall.pure (by rfl) hS (by simp) ?_
    simp (decide := true) [int]
    refine ECall.pure (by rfl) hRS (by simp) ?_
    simp (decide := true) [int]
    refine scall_pure (by rfl) (by rfl) hA (by simp) ?_
    simp (decide := true) [int]
    refine scall_pure (by rfl) (by rfl) hB (by simp) ?_
    simp (decide := true) [int]
    refine scall_pure (by rfl) (by rfl) hT (by simp) ?_
    simp (decide := true) [int]
    refine scall_pure (by rfl) (by rfl) hT (by simp) ?_
    simp (decide := true) [int]
    refine scall_pure (by rfl) (by rfl) awake32_R (by simp) ?_
    simp (decide := true) [int]
  | true =>
    rw [hsw] at hS hRS
    have hrd : readyB d = true := by unfold shownY at hsw; rw [Bool.and_eq_true] at hsw; exact hsw.2
    have heq2 : (kidsY d w 3).map (fun m => headY d (kidsY d m 4)) = (kidsY d w 3).map (fun m => lastY d (kidsY d m 4)) := by
      apply List.map_congr_left; intro m _; exact (last_head (kids4_one hr hrd m)).symm
    rw [heq2] at hRS
    simp only [if_true] at hS hRS
    have hT1 := sameTexts_ok ((kidsY d w 3).map (textY d)) (by rw [List.length_map]; omega)
    have hT2 := sameTexts_ok ((kidsY d w 3).map fun m => lastY d (kidsY d m 4)) (by rw [List.length_map]; omega)
    generalize (kidsY d w 3).map (textY d) = F at *
    generalize ((kidsY d w 3).map fun m => lastY d (kidsY d m 4)) = G at *
    refine ECall.pure (by rfl) hS (by simp) ?_
    simp (decide := true) [int, strsY]
    refine ECall.pure (by rfl) hRS (by simp) ?_
    simp (decide := true) [int, strsY]
    refine scall_pure (by rfl) (by rfl) hA (by simp) ?_
    simp (decide := true) [int, strsY]
    refine scall_pure (by rfl) (by rfl) hB (by simp) ?_
    simp (decide := true) [int, strsY]
    refine scall_pure (by rfl) (by rfl) hT1 (by simp) ?_
    simp (decide := true) [int, strsY]
    refine scall_pure (by rfl) (by rfl) hT2 (by simp) ?_
    simp (decide := true) [int, strsY]
    refine scall_pure (by rfl) (by rfl) awake32_R (by simp) ?_
    simp (decide := true) [int]
end Go.V.Doc
