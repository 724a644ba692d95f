/- Contracts and plain laws of this seat: part MA. It needs no conditions. -/
import Derived.Test.YtnflnfmbgghbeaaGreatDoorM8
import Derived.Test.YtnflnfmbgghbeaaGreatDoorW1
import Derived.Test.YtnflnfmbgghbeaaGreatDoorM7
set_option linter.unusedVariables false
set_option linter.unusedSimpArgs false
set_option linter.unusedSectionVars false
set_option maxRecDepth 100000
namespace Go.V
open Go Go.Proofs
theorem draw_last2 {P : Program} (hmix : P.follows .mixedOrders = true) {id : Nat} {ops : List Oper} {st : St} {Q : DE → St → Prop} (hne : ops ≠ []) (hok : drawOk ops = true) (hcut : cutB ops (ops.length - 1) = true) (hg : (ops.getLast hne).guard = none)
    (hkeys : (st.own.map (·.1)).Nodup) (h : ddrawL P ops st.next (ops.getLast hne) ops.dropLast st (Q .normal)) : Triple P (.region id ops.toArray true) Q st := by
  obtain ⟨pre, o, rfl⟩ : ∃ pre o, ops = pre ++ [o] := ⟨ops.dropLast, ops.getLast hne, (List.dropLast_concat_getLast hne).symm⟩
  have hgl : (pre ++ [o]).getLast hne = o := by simp
  rw [hgl] at hg h
  rw [List.dropLast_concat] at h
  refine draw_last hmix hok ?_ hg hkeys h
  simpa using hcut
def insertL {α : Type} (l : List α) (i : Nat) (x : α) : List α := l.take i ++ x :: l.drop i
end Go.V
namespace Go.V
open Go Go.Proofs
theorem refKind_ok (d : Dc) (t : Int) (hl : d.tiers.length < 2^62) : PureR Tryz.prog 50 [docD d, int t] (int (if 0 ≤ t ∧ t < d.tiers.length then (d.tiers[t.toNat]?.getD default).kind else -1)) := by
  refine pure_of_body mixed Tryz.func50 rfl call_50 ?_
  by_cases h : 0 ≤ t ∧ t < d.tiers.length
  · obtain ⟨k, rfl⟩ : ∃ k : Nat, t = k := ⟨t.toNat, by omega⟩
    have hk : k < d.tiers.length := by omega
    have hk' : ¬ (d.tiers.length : Int) ≤ k := by omega
    have hk2 : (k : Int) < d.tiers.length := by omega
    have hk0 : ¬ (k : Int) < 0 := by omega
    have e1 : d.tiers[k]? = some d.tiers[k] := List.getElem?_eq_getElem hk
    simp (decide := true) [Tryz.f50, docD, Dc.row, int, tiersD, Tir.row, hk, hk', hk0, hk2, e1]
  · rw [if_neg h]
    by_cases h0 : t < 0
    · simp (decide := true) [Tryz.f50, docD, Dc.row, int, tiersD, h0]
    · have h1 : (d.tiers.length : Int) ≤ t := by omega
      simp (decide := true) [Tryz.f50, docD, Dc.row, int, tiersD, h0, h1]
def shB (t p r : Int) (n : Nt) : Bool := decide (n.tier = t) && decide (n.par = p) && decide (r ≤ n.rank)
def sh1 (t p r b : Int) (n : Nt) : Nt := if shB t p r n = true then { n with rank := n.rank + b } else n
def shN (t p r b : Int) (l : List Nt) : List Nt := l.map (sh1 t p r b)
theorem shN_len (t p r b : Int) (l : List Nt) : (shN t p r b l).length = l.length := List.length_map ..
theorem shN_step {t p r b : Int} {l : List Nt} {k : Nat} (h : k < l.length) : (shN t p r b (l.take k) ++ l.drop k).set k (sh1 t p r b l[k]) = shN t p r b (l.take (k + 1)) ++ l.drop (k + 1) := by
  have hlen : (shN t p r b (l.take k)).length = k := by rw [shN_len, List.length_take]; omega
  rw [List.set_append_right _ _ (by omega), hlen, Nat.sub_self, List.drop_eq_getElem_cons h, List.set_cons_zero, take_snoc' h]
  unfold shN
  simp only [List.map_append, List.map_cons, List.map_nil, List.append_assoc, List.singleton_append]
theorem shN_get {t p r b : Int} {l : List Nt} {k : Nat} (h : k < l.length) : (shN t p r b (l.take k) ++ l.drop k)[k]? = some l[k] := by
  have hlen : (shN t p r b (l.take k)).length = k := by rw [shN_len, List.length_take]; omega
  rw [List.getElem?_append_right (by omega), hlen, Nat.sub_self, List.getElem?_drop, Nat.add_zero, List.getElem?_eq_getElem h]
set_option maxHeartbeats 2000000 in
theorem shift_ok (d : Dc) (l : List Nt) (t p r b : Int) (hl : l.length < 2^40) (hr : ∀ n ∈ l, -1099511627776 ≤ n.rank ∧ n.rank ≤ 1099511627776) (hb : -1099511627776 ≤ b ∧ b ≤ 1099511627776) :
    CallC Tryz.prog 39 [docO d 0, .d (int t), .d (int p), .d (int r), .d (int b)] [(0, .arr 45 7 (l.map Nt.row))] 1 (.tup []) 1 [(0, .arr 45 7 ((shN t p r b l).map Nt.row))] [] := by
  refine callC_of_body mixed Tryz.func39 rfl call_39 (by simp [Sym.los, Sym.lo, docO]) ?_
  simp (decide := true) [Tryz.f39, docO, int, tiersD, ints]
  refine loop_rule mixed (fun k : Nat => { n := 47, next := 2, slots := [(1, .d (int t)), (2, .d (int p)), (3, .d (int r)), (4, .d (int b)), (5, .bp 1 0), (13, .ar 0), (14, .d (int l.length)), (15, .d (int k))], own := [(0, .arr 45 7 ((shN t p r b (l.take k) ++ l.drop k).map Nt.row)), (1, .box 28 [.d (int d.id), .d (.str d.name), .d (int d.len), .d (int d.day), .d (ints d.spk), .d (tiersD d.tiers), .ar 0])], base := 1 })
    (fun k => k ≤ l.length) (fun k => l.length - k) 0 (by simp) (by simp (decide := true) [int, ints, tiersD, shN]) ?_
  intro k hk
  by_cases hlt : k < l.length
  · have hlt' : (k : Int) < l.length := by omega
    have hst := shN_step (t := t) (p := p) (r := r) (b := b) hlt
    have hge := shN_get (t := t) (p := p) (r := r) (b := b) hlt
    have hcl : (shN t p r b (l.take k) ++ l.drop k).length = l.length := by rw [List.length_append, shN_len, List.length_take, List.length_drop]; omega
    have hrk := hr _ (List.getElem_mem hlt)
    obtain ⟨m, em'⟩ : ∃ m, l[k] = m := ⟨_, rfl⟩
    rw [em'] at hst hge hrk
    generalize shN t p r b (l.take k) ++ l.drop k = c at hst hge hcl
    have kc : k < c.length := by omega
    have kc' : (k : Int) < c.length := by omega
    have gc : c[k] = m := by rw [List.getElem?_eq_getElem kc] at hge; exact Option.some.inj hge
    by_cases h1 : m.tier = t
    · by_cases h2 : m.par = p
      · by_cases h3 : r ≤ m.rank
        · have hs : sh1 t p r b m = { m with rank := m.rank + b } := by simp [sh1, shB, h1, h2, h3]
          rw [hs] at hst
          simp (decide := true) [int, Nt.row, hlt', kc, kc', hge, gc, h1, h2, h3, I64]
          exact ⟨⟨by omega, by omega⟩, ⟨by omega, by omega⟩, k + 1, hlt, by omega, by omega, by rw [← List.map_drop, ← List.map_append, ← hst, List.map_set]; simp [Nt.row, int, h1, h2]⟩
        · have hs : c.set k (sh1 t p r b m) = c := by rw [show sh1 t p r b m = m by simp [sh1, shB, h1, h2, h3], ← gc]; exact List.set_getElem_self kc
          rw [hs] at hst
          simp (decide := true) [int, Nt.row, hlt', kc, kc', hge, gc, h1, h2, h3, I64]
          exact ⟨⟨by omega, by omega⟩, k + 1, hlt, by omega, by omega, by rw [← List.map_drop, ← List.map_append, ← hst]⟩
      · have hs : c.set k (sh1 t p r b m) = c := by rw [show sh1 t p r b m = m by simp [sh1, shB, h1, h2], ← gc]; exact List.set_getElem_self kc
        rw [hs] at hst
        simp (decide := true) [int, Nt.row, hlt', kc, kc', hge, gc, h1, h2, I64]
        exact ⟨⟨by omega, by omega⟩, k + 1, hlt, by omega, by omega, by rw [← List.map_drop, ← List.map_append, ← hst]⟩
    · have hs : c.set k (sh1 t p r b m) = c := by rw [show sh1 t p r b m = m by simp [sh1, shB, h1], ← gc]; exact List.set_getElem_self kc
      rw [hs] at hst
      simp (decide := true) [int, Nt.row, hlt', kc, kc', hge, gc, h1, I64]
      exact ⟨⟨by omega, by omega⟩, k + 1, hlt, by omega, by omega, by rw [← List.map_drop, ← List.map_append, ← hst]⟩
  · have : k = l.length := by omega
    subst this
    rw [List.take_length, List.drop_length, List.append_nil]
    simp (decide := true) [int]
set_option maxHeartbeats 2000000 in
theorem refShift_ok (d : Dc) (t p r b : Int) (hl : d.notes.length < 2^40) (hr : ∀ n ∈ d.notes, -1099511627776 ≤ n.rank ∧ n.rank ≤ 1099511627776) (hb : -1099511627776 ≤ b ∧ b ≤ 1099511627776) :
    PureR Tryz.prog 51 [docD d, int t, int p, int r, int b] (docD { d with notes := shN t p r b d.notes }) := by
  refine pure_of_body_frz mixed Tryz.func51 rfl call_51 [2] ?_
  simp (decide := true) [Tryz.f51, docD, Dc.row, int, tiersD, ints, notesD]
  refine loop_rule mixed (fun k : Nat => { n := 54, next := 3, slots := [(1, .d (int t)), (2, .d (int p)), (3, .d (int r)), (4, .d (int b)), (5, .bp 0 0), (10, .bp 1 0), (11, .ar 2), (16, .d (int d.notes.length)), (17, .d (int k))], own := [(0, .box 28 (docCells d)), (1, .box 28 [.d (int 0), .d (.str ⟨#[]⟩), .d (int 0), .d (int 0), .nils, .nils, .nils]), (2, .arr 45 7 ((shN t p r b (d.notes.take k)).map Nt.row))], moved := [2] })
    (fun k => k ≤ d.notes.length) (fun k => d.notes.length - k) 0 (by simp) (by simp (decide := true) [int, ints, tiersD, notesD, shN]) ?_
  intro k hk
  by_cases hlt : k < d.notes.length
  · have hlt' : (k : Int) < d.notes.length := by omega
    have hrk := hr _ (List.getElem_mem hlt)
    obtain ⟨m, em'⟩ : ∃ m, d.notes[k] = m := ⟨_, rfl⟩
    have em : d.notes[k]? = some m := by rw [List.getElem?_eq_getElem hlt, em']
    rw [em'] at hrk
    have hsn : shN t p r b (d.notes.take (k + 1)) = shN t p r b (d.notes.take k) ++ [sh1 t p r b m] := by
      unfold shN; rw [take_snoc' hlt, List.map_append, em']; rfl
    have hlen := shN_len t p r b (d.notes.take k)
    rw [List.length_take] at hlen
    by_cases h1 : m.tier = t
    · by_cases h2 : m.par = p
      · by_cases h3 : r ≤ m.rank
        · rw [show sh1 t p r b m = { m with rank := m.rank + b } by simp [sh1, shB, h1, h2, h3]] at hsn
          simp (decide := true) [int, notesD, Nt.row, hlt, hlt', em, em', h1, h2, h3, I64]
          exact ⟨⟨by omega, by omega⟩, by omega, by unfold maxLen; omega, ⟨by omega, by omega⟩, k + 1, hlt, by omega, by omega, by rw [hsn]; simp [Nt.row, int, h1, h2]⟩
        · rw [show sh1 t p r b m = m by simp [sh1, shB, h1, h2, h3]] at hsn
          simp (decide := true) [int, notesD, Nt.row, hlt, hlt', em, em', h1, h2, h3, I64]
          exact ⟨by omega, by unfold maxLen; omega, ⟨by omega, by omega⟩, k + 1, hlt, by omega, by omega, by rw [hsn]; simp [Nt.row, int, h1, h2]⟩
      · rw [show sh1 t p r b m = m by simp [sh1, shB, h1, h2]] at hsn
        simp (decide := true) [int, notesD, Nt.row, hlt, hlt', em, em', h1, h2, I64]
        exact ⟨by omega, by unfold maxLen; omega, ⟨by omega, by omega⟩, k + 1, hlt, by omega, by omega, by rw [hsn]; simp [Nt.row, int, h1, h2]⟩
    · rw [show sh1 t p r b m = m by simp [sh1, shB, h1]] at hsn
      simp (decide := true) [int, notesD, Nt.row, hlt, hlt', em, em', h1, I64]
      exact ⟨by omega, by unfold maxLen; omega, ⟨by omega, by omega⟩, k + 1, hlt, by omega, by omega, by rw [hsn]; simp [Nt.row, int, h1]⟩
  · have : k = d.notes.length := by omega
    subst this
    rw [List.take_length]
    have hlen := shN_len t p r b d.notes
    simp (decide := true) [int, ints, tiersD, notesD]
end Go.V
namespace Go.V
open Go Go.Proofs
def posI (l : List Nt) (n : Nt) : Nat := match l.findIdx? (fun x => decide (n.id < x.id)) with
  | some k => k
  | none => l.length
theorem posI_le (l : List Nt) (n : Nt) : posI l n ≤ l.length := by
  unfold posI
  split
  · rename_i k h
    rw [List.findIdx?_eq_some_iff_getElem] at h
    exact Nat.le_of_lt h.1
  · exact Nat.le_refl _
def insN (l : List Nt) (n : Nt) : List Nt := insertL l (posI l n) n
end Go.V
namespace Go.V
open Go Go.Proofs
def kindI (d : Dc) (t : Int) : Int := if 0 ≤ t ∧ t < d.tiers.length then (d.tiers[t.toNat]?.getD default).kind else -1
theorem insN_len (l : List Nt) (n : Nt) : (insN l n).length = l.length + 1 := by
  have := posI_le l n
  simp [insN, insertL]; omega
end Go.V
namespace Go.V
open Go Go.Proofs
end Go.V
namespace Go.V
open Go Go.Proofs
end Go.V
namespace Go.V
open Go Go.Proofs
end Go.V
namespace Go.V
open Go Go.Proofs
structure Plc where
  id : Int
  time : Int
  next : Int
structure Plc.ok (c : Plc) : Prop where
  id : IntOk c.id
  time : IntOk c.time
  next : IntOk c.next
end Go.V
namespace Go.V
open Go Go.Proofs
theorem Rgt.ranked {d : Dc} (h : Rgt d) {t : Nat} (ht : t < d.tiers.length) (k3 : (tirAt d t).kind = 3) {n : Nt} (hn : inT d t n) : 0 ≤ n.rank ∧ n.rank < (sibs d.notes t n.par).length := by
  have hte := ter_iff.1 (h.ter t ht)
  have hall : ∀ n ∈ ofT d.notes t, rankP (sibs d.notes t n.par) = true := by
    intro n hn
    have := hte.2 n hn
    rw [k3] at this
    simpa [badR] using this
  have hs := srt_of (ofT d.notes t)
  have hperm := sortN_perm (ofT d.notes t)
  have hl : (sortN (ofT d.notes t)).length < 2^40 := by
    rw [sortN_length]
    have : (ofT d.notes t).length ≤ d.notes.length := List.length_filter_le _ _
    have := h.few
    omega
  have hz : ∀ n ∈ sortN (ofT d.notes t), n.fr = 0 := by
    intro n hn
    have hn := inT_iff.1 (hperm.mem_iff.1 hn)
    exact (flat_of (note_of h.good hn.1) (by rw [hn.2, k3]; rfl)).1
  have hrk := (rk_pos hs hl).1 ((rank_all hperm hs hl hz).2 hall)
  obtain ⟨i, hi, ei⟩ := List.mem_iff_getElem.1 (hperm.mem_iff.2 (inT_iff.2 hn))
  rw [← gN_eq hi] at ei
  have r1 := hrk i hi
  have hlt := (List.getElem?_eq_some_iff.1 (pos_at hi)).1
  rw [(sibs_perm hperm _).length_eq, ei] at hlt
  rw [ei] at r1
  omega
theorem place_rank {d : Dc} {n : Nt} (h : placeE d n = 0) : 0 ≤ n.rank ∧ (n.rank = 0 ∨ (tirAt d n.tier).kind = 3) := by
  unfold placeE at h
  by_cases hr : n.rank < 0 ∨ (n.rank ≠ 0 ∧ (tirAt d n.tier).kind ≠ 3)
  · exfalso
    rw [if_pos hr] at h
    repeat' split at h
    all_goals cases h
  · omega
theorem Rgt.rank300 {d : Dc} (h : Rgt d) : ∀ n ∈ d.notes, 0 ≤ n.rank ∧ n.rank ≤ 300 := by
  intro n hn
  have hok := note_of h.good hn
  obtain ⟨t, et⟩ : ∃ t : Nat, n.tier = t := ⟨n.tier.toNat, by have := hok.t0; omega⟩
  have ht : t < d.tiers.length := by have := hok.t1; omega
  have hp := place_rank hok.place
  rcases hp.2 with r0 | k3
  · omega
  · rw [et] at k3
    have := h.ranked ht k3 ⟨hn, et⟩
    have hl := sibs_len d.notes t n.par
    have := h.few
    omega
theorem Rgt.rank {d : Dc} (h : Rgt d) : ∀ n ∈ d.notes, -1099511627776 ≤ n.rank ∧ n.rank ≤ 1099511627776 := by
  intro n hn
  have := h.rank300 n hn
  omega
end Go.V
