/- Contracts and plain laws of this seat: part MB. It needs no conditions. -/
import Derived.Test.YtnflnfmbgghbeaaGreatDoorMA
import Derived.Test.YtnflnfmbgghbeaaGreatDoorM7
set_option linter.unusedVariables false
set_option linter.unusedSimpArgs false
set_option linter.unusedSectionVars false
set_option maxRecDepth 100000
namespace Go.V
open Go Go.Proofs
def cutQ (d : Dc) (id : Int) (x : Nt) : Bool := decide (x.par = id) && alT d.tiers x.tier
def cutX (d : Dc) (id t : Int) (x : Nt) : Bool := cutQ d id x && (decide (x.fr < t) && decide (t < x.tO))
def cutN1 (d : Dc) (id t nx : Int) (x : Nt) : Nt := if (cutQ d id x && decide (t ≤ x.fr)) = true then { x with par := nx } else x
def cutL (d : Dc) (id t nx : Int) (l : List Nt) : List Nt := l.map (cutN1 d id t nx)
theorem cutL_len (d : Dc) (id t nx : Int) (l : List Nt) : (cutL d id t nx l).length = l.length := List.length_map ..
theorem map_step {α : Type} {f : α → α} {l : List α} {k : Nat} (h : k < l.length) : (((l.take k).map f) ++ l.drop k).set k (f l[k]) = (l.take (k + 1)).map f ++ l.drop (k + 1) := by
  have hlen : ((l.take k).map f).length = k := by rw [List.length_map, List.length_take]; omega
  rw [List.set_append_right _ _ (by omega), hlen, Nat.sub_self, List.drop_eq_getElem_cons h, List.set_cons_zero, take_snoc' h]
  simp only [List.map_append, List.map_cons, List.map_nil, List.append_assoc, List.singleton_append]
theorem map_get {α : Type} {f : α → α} {l : List α} {k : Nat} (h : k < l.length) : ((l.take k).map f ++ l.drop k)[k]? = some l[k] := by
  have hlen : ((l.take k).map f).length = k := by rw [List.length_map, List.length_take]; omega
  rw [List.getElem?_append_right (by omega), hlen, Nat.sub_self, List.getElem?_drop, Nat.add_zero, List.getElem?_eq_getElem h]
theorem getN_at {l : List Nt} {id : Int} (h : (getN l id).2 = true) : ∃ k : Nat, ∃ hk : k < l.length, atI l id = k ∧ l[k] = (getN l id).1 := by
  unfold getN at h ⊢
  unfold atI idxI
  cases hf : l.find? fun n => decide (n.id = id) with
  | none => rw [hf] at h; cases h
  | some n =>
    rw [List.find?_eq_some_iff_getElem] at hf
    obtain ⟨h1, i, hi, h2, h3⟩ := hf
    have : l.findIdx? (fun n => decide (n.id = id)) = some i := by
      rw [List.findIdx?_eq_some_iff_getElem]
      refine ⟨hi, by rw [h2]; exact h1, fun j hj => by simpa using h3 j hj⟩
    rw [this]
    exact ⟨i, hi, rfl, h2⟩
theorem atI_map {f : Nt → Nt} (hf : ∀ n, (f n).id = n.id) (l : List Nt) (id : Int) : atI (l.map f) id = atI l id := by
  unfold atI idxI
  rw [List.findIdx?_map]
  have : ((fun n : Nt => decide (n.id = id)) ∘ f) = fun n => decide (n.id = id) := by funext n; simp [hf]
  rw [this]
theorem cutN1_id (d : Dc) (id t nx : Int) (x : Nt) : (cutN1 d id t nx x).id = x.id := by unfold cutN1; split <;> rfl
def cutE (d : Dc) (id t nx : Int) : Dc × Int :=
  if (getN d.notes id).2 = false then (Dc.zero, 9)
  else if alT d.tiers (getN d.notes id).1.tier = false then (Dc.zero, 14)
  else if t ≤ (getN d.notes id).1.fr ∨ (getN d.notes id).1.tO ≤ t then (Dc.zero, 12)
  else if 0 ≤ atI d.notes nx then (Dc.zero, 8)
  else if d.notes.any (cutX d id t) = true then (Dc.zero, 15)
  else chk { d with notes := insN ((cutL d id t nx d.notes).set (atI d.notes id).toNat { (cutN1 d id t nx (getN d.notes id).1) with tO := t }) ⟨nx, (getN d.notes id).1.tier, (getN d.notes id).1.par, t, (getN d.notes id).1.tO, 0, ⟨#[]⟩⟩ }
set_option maxHeartbeats 4000000 in
theorem cut_ok (d : Dc) (id t nx : Int) (ht : d.tiers.length < 2^29) (hn : d.notes.length < 2^29) :
    PureR Tryz.prog 19 [docD d, int id, int t, int nx] (resD (cutE d id t nx)) := by
  refine pure_of_body mixed Tryz.func19 rfl call_19 ?_
  simp (decide := true) [Tryz.f19, docD, Dc.row, int, resD]
  refine ECall.pure (by rfl) (get_ok d id (by omega)) (by simp (decide := true) [docD, Dc.row]) ?_
  have hga := getN_at (l := d.notes) (id := id)
  unfold cutE
  obtain ⟨⟨n, ok⟩, eg⟩ : ∃ g, getN d.notes id = g := ⟨_, rfl⟩
  obtain ⟨an, ean⟩ : ∃ an, d.notes.any (cutX d id t) = an := ⟨_, rfl⟩
  rw [eg] at hga ⊢
  rw [ean]
  cases ok with
  | false => simp (decide := true) [getD', Nt.row, int, Dc.zero, ints, tiersD, notesD]
  | true =>
  obtain ⟨k0, hk0, ha0, hn0⟩ := hga rfl
  simp (decide := true) [getD', Nt.row, int]
  refine ECall.pure (by rfl) (alignedT_ok d.tiers n.tier (by omega)) (fun _ => rfl) ?_
  cases hal : alT d.tiers n.tier with
  | false => simp (decide := true) [int, Dc.zero, ints, tiersD, notesD]
  | true =>
  by_cases t1 : t ≤ n.fr
  · simp (decide := true) [int, t1, Nt.row, Dc.zero, ints, tiersD, notesD]
  by_cases t2 : n.tO ≤ t
  · simp (decide := true) [int, t1, t2, Nt.row, Dc.zero, ints, tiersD, notesD]
  simp (decide := true) [int, t1, t2, Nt.row]
  refine ECall.pure (by rfl) (at_ok d nx (by omega)) (by simp (decide := true) [docD, Dc.row, int]) ?_
  by_cases h0 : 0 ≤ atI d.notes nx
  · simp (decide := true) [int, h0, Dc.zero, ints, tiersD, notesD]
  simp (decide := true) [int, h0]
  refine ECall.mut [] [.d (docD d)] [] (by rfl) (by simp [docD, Dc.row, int]) (by simp) (by simp) (copied_ok d (by omega)) ?_
  simp (decide := true) [docO, int]
  refine loop_rule mixed (fun k : Nat => { n := 119, next := 6, slots := [(1, .d (int id)), (2, .d (int t)), (3, .d (int nx)), (4, .bp 0 0), (8, .bp 1 0), (10, .bp 2 0), (55, .ar 5), (56, .d (int d.notes.length)), (57, .d (int k))], own := [(0, .box 28 [.d (int d.id), .d (.str d.name), .d (int d.len), .d (int d.day), .d (ints d.spk), .d (tiersD d.tiers), .ar 5]), (1, .box 28 [.d (int 0), .d (.str ⟨#[]⟩), .d (int 0), .d (int 0), .nils, .nils, .nils]), (2, .box 45 (noteCells n)), (5, .arr 45 7 ((cutL d id t nx (d.notes.take k) ++ d.notes.drop k).map Nt.row))] })
    (fun k => k ≤ d.notes.length ∧ ∀ x ∈ d.notes.take k, cutX d id t x = false) (fun k => d.notes.length - k) 0 (by simp) (by simp (decide := true) [int, ints, tiersD, notesD, cutL]) ?_
  rintro k ⟨hkk, hp⟩
  by_cases hlt : k < d.notes.length
  · have hlt' : (k : Int) < d.notes.length := by omega
    have hst := map_step (f := cutN1 d id t nx) hlt
    have hge := map_get (f := cutN1 d id t nx) hlt
    have hcl : (cutL d id t nx (d.notes.take k) ++ d.notes.drop k).length = d.notes.length := by rw [List.length_append, cutL_len, List.length_take, List.length_drop]; omega
    have hp' := take_all' hlt hp
    obtain ⟨m, em'⟩ : ∃ m, d.notes[k] = m := ⟨_, rfl⟩
    rw [em'] at hst hge hp'
    change (cutL d id t nx (d.notes.take k) ++ d.notes.drop k).set k _ = cutL d id t nx (d.notes.take (k + 1)) ++ d.notes.drop (k + 1) at hst
    change (cutL d id t nx (d.notes.take k) ++ d.notes.drop k)[k]? = _ at hge
    generalize cutL d id t nx (d.notes.take k) ++ d.notes.drop k = c at hst hge hcl ⊢
    have kc : k < c.length := by omega
    have kc' : (k : Int) < c.length := by omega
    have gc : c[k] = m := by rw [List.getElem?_eq_getElem kc] at hge; exact Option.some.inj hge
    have hsame : c.set k m = c := by rw [← gc]; exact List.set_getElem_self kc
    by_cases h1 : m.par = id
    case neg =>
      have hs : cutN1 d id t nx m = m := by simp [cutN1, cutQ, h1]
      have hx : cutX d id t m = false := by simp [cutX, cutQ, h1]
      rw [hs, hsame] at hst
      simp (decide := true) [int, Nt.row, hlt', kc, kc', hge, gc, h1, I64]
      exact ⟨⟨by omega, by omega⟩, k + 1, ⟨hlt, hp' hx⟩, by omega, by omega, by rw [hst, List.map_append, List.map_drop]⟩
    have halm := alignedT_ok d.tiers m.tier (by omega)
    simp (decide := true) [int, Nt.row, hlt', kc, kc', hge, gc, h1, I64]
    refine ECall.pure (by rfl) halm (fun _ => rfl) ?_
    cases ham : alT d.tiers m.tier with
    | false =>
      have hs : cutN1 d id t nx m = m := by simp [cutN1, cutQ, ham]
      have hx : cutX d id t m = false := by simp [cutX, cutQ, ham]
      rw [hs, hsame] at hst
      simp (decide := true) [int, Nt.row, I64]
      exact ⟨⟨by omega, by omega⟩, k + 1, ⟨hlt, hp' hx⟩, by omega, by omega, by rw [hst, List.map_append, List.map_drop]⟩
    | true =>
      by_cases h2 : t ≤ m.fr
      · have hs : cutN1 d id t nx m = { m with par := nx } := by simp [cutN1, cutQ, ham, h1, h2]
        have hx : cutX d id t m = false := by simp [cutX, cutQ, ham, h1]; omega
        rw [hs] at hst
        simp (decide := true) [int, Nt.row, hlt', kc, kc', hge, gc, h1, h2, I64]
        exact ⟨⟨by omega, by omega⟩, k + 1, ⟨hlt, hp' hx⟩, by omega, by omega, by rw [← List.map_drop, ← List.map_append, ← hst, List.map_set]; simp [Nt.row, int, h1]⟩
      · by_cases h3 : t < m.tO
        · have hx : cutX d id t m = true := by simp [cutX, cutQ, ham, h1, h3]; omega
          have hany : d.notes.any (cutX d id t) = true := by rw [List.any_eq_true]; exact ⟨m, by rw [← em']; exact List.getElem_mem hlt, hx⟩
          rw [hany] at ean
          subst ean
          simp (decide := true) [int, Nt.row, h2, h3, Dc.zero, ints, tiersD, notesD]
        · have hs : cutN1 d id t nx m = m := by simp [cutN1, cutQ, ham, h2]
          have hx : cutX d id t m = false := by simp [cutX, cutQ, ham, h3]
          rw [hs, hsame] at hst
          simp (decide := true) [int, Nt.row, h2, h3, I64]
          exact ⟨⟨by omega, by omega⟩, k + 1, ⟨hlt, hp' hx⟩, by omega, by omega, by rw [hst, List.map_append, List.map_drop]⟩
  have : k = d.notes.length := by omega
  subst this
  rw [List.take_length] at hp ⊢
  rw [List.drop_length, List.append_nil]
  have hany : d.notes.any (cutX d id t) = false := by rw [List.any_eq_false]; intro x hx; rw [hp x hx]; simp
  have hcl := cutL_len d id t nx d.notes
  have hca : atI (cutL d id t nx d.notes) id = k0 := by rw [cutL, atI_map (cutN1_id d id t nx), ha0]
  have hck : (cutL d id t nx d.notes)[k0]? = some (cutN1 d id t nx n) := by rw [cutL, List.getElem?_map, List.getElem?_eq_getElem hk0, hn0]; rfl
  have hat := at_ok { d with notes := cutL d id t nx d.notes } id (by show (cutL _ _ _ _ _).length < _; omega)
  rw [hany] at ean
  subst ean
  rw [ha0, Int.toNat_natCast]
  show ev _ _ _ _
  generalize cutL d id t nx d.notes = c at hcl hca hck hat ⊢
  generalize cutN1 d id t nx n = n1 at hck ⊢
  simp only [hca] at hat
  have kc : k0 < c.length := by omega
  have kc' : (k0 : Int) < c.length := by omega
  have gc : c[k0] = n1 := by rw [List.getElem?_eq_getElem kc] at hck; exact Option.some.inj hck
  simp (decide := true) [int]
  refine draw_s mixed 9 (by rfl) rfl rfl rfl rfl (by rfl) (by simp) ?_
  simp (decide := true) [int, Nt.row, ints, tiersD]
  refine scall_pure (by rfl) (by rfl) hat (fun _ => rfl) ?_
  simp (decide := true) [int, Nt.row, ints, tiersD, kc, kc', hck, gc]
  have hcl2 : (c.set k0 { n1 with tO := t }).length = d.notes.length := by rw [List.length_set]; exact hcl
  have hrow : (List.map Nt.row c).set k0 [D.int IntKind.i64 n1.id, D.int IntKind.i64 n1.tier, D.int IntKind.i64 n1.par, D.int IntKind.i64 n1.fr, D.int IntKind.i64 t, D.int IntKind.i64 n1.rank, D.str n1.text] = (c.set k0 { n1 with tO := t }).map Nt.row := by rw [List.map_set]; rfl
  rw [hrow]
  generalize c.set k0 { n1 with tO := t } = c2 at hcl2 ⊢
  have hchk := checked_ok { d with notes := insN c2 ⟨nx, n.tier, n.par, t, n.tO, 0, ⟨#[]⟩⟩ } (by show d.tiers.length < _; omega) (by show (insN _ _).length < _; rw [insN_len, hcl2]; omega)
  generalize chk { d with notes := insN c2 ⟨nx, n.tier, n.par, t, n.tO, 0, ⟨#[]⟩⟩ } = rr at hchk ⊢
  refine ECall.mut [5] [docO d 0, .d (.agg (Nt.row ⟨nx, n.tier, n.par, t, n.tO, 0, ⟨#[]⟩⟩))] [(0, .arr 45 7 (c2.map Nt.row))] (by rfl) (by simp [docO, Nt.row, int, ints, tiersD]) (by simp [Sym.los, Sym.lo, docO]) (by simp) (insertDoc_ok d c2 _ (by omega)) ?_
  generalize insN c2 ⟨nx, n.tier, n.par, t, n.tO, 0, ⟨#[]⟩⟩ = ll at hchk
  simp (decide := true) [int, docD, Dc.row]
  refine ECall.pure (by rfl) hchk (by simp (decide := true) [docD, Dc.row, int]) ?_
  simp (decide := true) [int, resD, docD, Dc.row, ints, tiersD]
end Go.V
namespace Go.V
open Go Go.Proofs
end Go.V
namespace Go.V
open Go Go.Proofs
def idxP (l : List Tir) (i : Int) (k : Nat) : List Int := ((List.range k).filter fun j => decide ((l[j]?.getD default).par = i)).map fun j : Nat => (j : Int)
def kidsT (l : List Tir) (i : Int) : List Int := if 0 ≤ i ∧ i < l.length then idxP l i l.length else []
theorem idxP_len (l : List Tir) (i : Int) (k : Nat) : (idxP l i k).length ≤ k := by
  unfold idxP; rw [List.length_map]; exact Nat.le_trans (List.length_filter_le _ _) (by simp)
theorem idxP_succ (l : List Tir) (i : Int) (k : Nat) : idxP l i (k + 1) = idxP l i k ++ (if (l[k]?.getD default).par = i then [(k : Int)] else []) := by
  unfold idxP
  rw [List.range_succ, List.filter_append, List.map_append]
  by_cases h : (l[k]?.getD default).par = i <;> simp [h]
theorem kidsT_len (l : List Tir) (i : Int) : (kidsT l i).length ≤ l.length := by
  unfold kidsT; split
  · exact idxP_len _ _ _
  · exact Nat.zero_le _
theorem kidsT_mem {l : List Tir} {i t : Int} (h : t ∈ kidsT l i) : 0 ≤ t ∧ t < l.length ∧ (l[t.toNat]?.getD default).par = i ∧ 0 ≤ i ∧ i < l.length := by
  unfold kidsT at h
  split at h
  · rename_i hi
    unfold idxP at h
    rw [List.mem_map] at h
    obtain ⟨j, hj, rfl⟩ := h
    rw [List.mem_filter, List.mem_range, decide_eq_true_eq] at hj
    exact ⟨by omega, by omega, by rw [Int.toNat_natCast]; exact hj.2, hi.1, hi.2⟩
  · cases h
theorem kidsT_ok (l : List Tir) (i : Int) (hl : l.length < 2^40) : PureR Tryz.prog 65 [tiersD l, int i] (ints (kidsT l i)) := by
  refine pure_of_body_frz mixed Tryz.func65 rfl call_65 [1] ?_
  by_cases h0 : i < 0
  · simp (decide := true) [Tryz.f65, tiersD, int, h0, kidsT, ints]
    omega
  by_cases h1 : (l.length : Int) ≤ i
  · simp (decide := true) [Tryz.f65, tiersD, int, h0, h1, kidsT, ints]
    omega
  rw [show kidsT l i = idxP l i l.length by unfold kidsT; rw [if_pos (by omega)]]
  simp (decide := true) [Tryz.f65, tiersD, int, h0, h1, ints]
  refine loop_rule mixed (fun k : Nat => { n := 34, next := 2, slots := [(1, .d (int i)), (5, .ar 1), (17, .d (tiersD l)), (18, .d (int l.length)), (19, .d (int k))], own := [(1, .arr 3 1 ((idxP l i k).map fun n => [int n]))], moved := [1] })
    (fun k => k ≤ l.length) (fun k => l.length - k) 0 (by simp) (by simp (decide := true) [int, tiersD, idxP]) ?_
  intro k hk
  by_cases hlt : k < l.length
  · have hlt' : (k : Int) < l.length := by omega
    have e1 : l[k]? = some l[k] := List.getElem?_eq_getElem hlt
    have hs := idxP_succ l i k
    have hln := idxP_len l i k
    rw [e1, Option.getD_some] at hs
    by_cases h : l[k].par = i
    · rw [if_pos h] at hs
      simp (decide := true) [tiersD, Tir.row, int, hlt, hlt', e1, I64, h]
      exact ⟨by omega, by unfold maxLen; omega, ⟨by omega, by omega⟩, k + 1, hlt, by omega, by omega, by rw [hs]; simp [int]⟩
    · rw [if_neg h, List.append_nil] at hs
      simp (decide := true) [tiersD, Tir.row, int, hlt, hlt', e1, I64, h]
      exact ⟨⟨by omega, by omega⟩, k + 1, hlt, by omega, by omega, by rw [hs]⟩
  · have : k = l.length := by omega
    subst this
    simp (decide := true) [int, ints]
theorem take_all'' {v : Int} {l : List Int} {k : Nat} (h : k < l.length) (hp : ∀ e ∈ l.take k, decide (e = v) = false) (he : decide (l[k] = v) = false) : ∀ e ∈ l.take (k + 1), decide (e = v) = false := take_all' (p := fun e => decide (e = v) = false) h hp he
theorem indexI_ok (l : List Int) (v : Int) (hl : l.length < 2^62) : PureR Tryz.prog 41 [ints l, int v] (int (idxI (fun n => decide (n = v)) l)) := by
  refine pure_of_body mixed Tryz.func41 rfl call_41 ?_
  simp [Tryz.f41, ints]
  refine loop_rule mixed (fun k : Nat => { n := 19, next := 0, slots := [(0, .d (ints l)), (1, .d (int v)), (7, .d (int l.length)), (8, .d (int k))], own := [] })
    (fun k => k ≤ l.length ∧ ∀ e ∈ l.take k, decide (e = v) = false) (fun k => l.length - k) 0 (by simp) (by simp [ints, int]) ?_
  intro k ⟨hk, hp⟩
  by_cases hlt : k < l.length
  · have e1 : l[k]? = some l[k] := List.getElem?_eq_getElem hlt
    have hlt' : (k : Int) < l.length := by omega
    by_cases h : l[k] = v
    · have := idxI_hit hlt hp (by simpa using h)
      simp (decide := true) [ints, int, e1, hlt, hlt', h, I64]
      simp [idxI, this]
    · have h' : ¬ v = l[k] := Ne.symm h
      simp (decide := true) [ints, int, e1, hlt, hlt', h', I64]
      exact ⟨⟨by omega, by omega⟩, k + 1, ⟨hlt, by simpa using take_all'' hlt hp (by simpa using h)⟩, by omega, by omega⟩
  · have : k = l.length := by omega
    subst this
    simp (decide := true) [ints, int]
    rw [List.take_length] at hp; simp [idxI, idxI_miss hp]
def joinB (a b : ByteArray) : ByteArray := if a = ⟨#[]⟩ ∨ b = ⟨#[]⟩ then a ++ b else a ++ ⟨#[32]⟩ ++ b
theorem joined_ok (a b : ByteArray) (ha : a.size < 2^40) (hb : b.size < 2^40) : PureR Tryz.prog 66 [.str a, .str b] (.str (joinB a b)) := by
  refine pure_of_body mixed Tryz.func66 rfl call_66 ?_
  unfold joinB
  have e0 : ((⟨#[]⟩ : ByteArray).size : Int) = 0 := rfl
  have e1 : ((⟨#[32]⟩ : ByteArray).size : Int) = 1 := rfl
  by_cases h1 : a = ⟨#[]⟩
  · simp (decide := true) [Tryz.f66, h1, e0]
    omega
  by_cases h2 : b = ⟨#[]⟩
  · simp (decide := true) [Tryz.f66, h1, h2, e0]
    exact ⟨fun _ => by omega, fun _ => by omega⟩
  have n1 : ¬ a.toList = [] := fun e => h1 (bytes_toList.1 (e.trans (by simp)))
  have n2 : ¬ b.toList = [] := fun e => h2 (bytes_toList.1 (e.trans (by simp)))
  simp (decide := true) [Tryz.f66, h1, h2, e1, n1, n2]
  omega
end Go.V
namespace Go.V
open Go Go.Proofs
theorem take_set_succ {α : Type} {l : List α} {i : Nat} (v : α) (h : i < l.length) : (l.set i v).take (i + 1) = l.take i ++ [v] := by
  have hl : i < (l.set i v).length := by simpa using h
  rw [take_snoc' hl, List.getElem_set_self]
  congr 1
  apply List.ext_getElem?
  intro j
  simp only [List.getElem?_take, List.getElem?_set]
  by_cases hj : j < i
  · rw [if_pos hj, if_pos hj, if_neg (by omega)]
  · rw [if_neg hj, if_neg hj]
theorem drop_set_lt {α : Type} {l : List α} {i j : Nat} (v : α) (h : i < j) : (l.set i v).drop j = l.drop j := by
  apply List.ext_getElem?
  intro k
  simp only [List.getElem?_drop, List.getElem?_set]
  rw [if_neg (by omega)]
theorem filter_snoc' {α : Type} {p : α → Bool} {l : List α} {k : Nat} (h : k < l.length) : (l.take (k + 1)).filter p = (l.take k).filter p ++ (if p l[k] = true then [l[k]] else []) := by
  rw [take_snoc' h, List.filter_append]
  by_cases e : p l[k] = true <;> simp [e]
set_option maxHeartbeats 2000000 in
theorem deleteN_ok (l : List Nt) (hl : l.length < 2^62) (f T : Nat) (p : Nt → Bool) (c : D) (hf : ∀ x ∈ l, PureR Tryz.prog f [.agg x.row, .ptr [c]] (.bool (p x))) :
    CallC Tryz.prog 43 [.ar 0, .fn f [.bp 1 0]] [(0, .arr 45 7 (l.map Nt.row)), (1, .box T [.d c])] 2
      (.d (.sl ((l.filter fun d => !p d).map Nt.row))) 2 [(1, .box T [.d c])] [] := by
  refine callC_of_body_frz mixed Tryz.func43 rfl call_43 [0] (by simp) ?_
  simp [Tryz.f43]
  refine ECall.pure (by rfl) (indexN_ok l hl f [.ptr [c]] p hf) (fun _ => rfl) ?_
  cases hi : l.findIdx? p with
  | none =>
    rw [List.findIdx?_eq_none_iff] at hi
    have hno : (l.filter fun d => !p d) = l := by rw [List.filter_eq_self]; intro a ha; rw [hi a ha]; rfl
    have hidx : idxI p l = -1 := by simp [idxI, idxI_miss hi]
    simp (decide := true) [hidx, int, hno]
    done
  | some k =>
    have hidx : idxI p l = k := by simp [idxI, hi]
    rw [List.findIdx?_eq_some_iff_getElem] at hi
    obtain ⟨hk, hpk, hbef⟩ := hi
    have hn1 : ¬ (k : Int) = -1 := by omega
    simp (decide := true) [hidx, int, hn1, I64]
    refine ⟨by omega, ?_⟩
    have htk : (l.take (k + 1)).filter (fun d => !p d) = l.take k := by
      rw [filter_snoc' hk, List.filter_eq_self.2]
      · simp [hpk]
      · intro a ha
        rw [List.mem_take_iff_getElem] at ha
        obtain ⟨j, hj, rfl⟩ := ha
        have := hbef j (by omega)
        simpa using this
    refine loop_rule mixed (fun x : Nat × Nat × List Nt => { n := 42, next := 2, base := 2, slots := [(0, .ar 0), (1, .fn f [.bp 1 0]), (5, .d (.int .i64 x.2.1)), (6, .d (.int .i64 x.1))], own := [(0, .arr 45 7 (x.2.2.map Nt.row)), (1, .box T [.d c])] })
      (fun x => x.2.2.length = l.length ∧ x.2.1 < x.1 ∧ x.1 ≤ l.length ∧ x.2.2.take x.2.1 = (l.take x.1).filter (fun d => !p d) ∧ x.2.2.drop x.1 = l.drop x.1) (fun x => l.length - x.1) (k + 1, k, l) (by simp [htk]; omega) (by simp [int]) ?_
    rintro ⟨j, i, cur⟩ ⟨hcl, hij, hjl, htake, hdrop⟩
    simp only at hcl hij hjl htake hdrop
    by_cases hlt : j < l.length
    · have hcj : j < cur.length := by omega
      have hcur : cur[j] = l[j] := by
        have h1 : cur.drop j = cur[j] :: cur.drop (j + 1) := List.drop_eq_getElem_cons hcj
        have h2 : l.drop j = l[j] :: l.drop (j + 1) := List.drop_eq_getElem_cons hlt
        rw [h1, h2] at hdrop
        exact (List.cons.inj hdrop).1
      have hdrop' : cur.drop (j + 1) = l.drop (j + 1) := by
        have := congrArg (List.drop 1) hdrop
        rw [List.drop_drop, List.drop_drop] at this
        exact this
      have e1 : cur[j]? = some cur[j] := List.getElem?_eq_getElem hcj
      have hlt' : (j : Int) < cur.length := by omega
      have hfj : PureR Tryz.prog f [.agg cur[j].row, .ptr [c]] (.bool (p l[j])) := by rw [hcur]; exact hf l[j] (List.getElem_mem hlt)
      simp (decide := true) [hlt', hcj, e1, Nt.row, int, I64]
      refine ECall.pure (by rfl) hfj (fun _ => rfl) ?_
      cases hp : p l[j]
      · have hic : i < cur.length := by omega
        have e2 : cur[i]? = some cur[i] := List.getElem?_eq_getElem hic
        simp (decide := true) [hic, e2, Nt.row, int, I64]
        refine ⟨by omega, by omega, j + 1, i + 1, cur.set i cur[j], ⟨by simpa using hcl, by omega, hlt, ?_, ?_⟩, by omega, ⟨by omega, by omega⟩, by simp [List.map_set, Nt.row, int]⟩
        · rw [take_set_succ _ hic, filter_snoc' hlt, htake, hcur]; simp [hp]
        · rw [drop_set_lt _ (by omega)]; exact hdrop'
      · simp (decide := true) [int, I64]
        refine ⟨by omega, j + 1, i, cur, ⟨hcl, by omega, hlt, ?_, hdrop'⟩, by omega, ⟨by omega, by omega⟩, rfl⟩
        rw [filter_snoc' hlt, htake]; simp [hp]
    · have hj : j = l.length := by omega
      subst hj
      have hlt' : ¬ (l.length : Int) < cur.length := by omega
      have hin : ¬ (i : Int) = (cur.length : Int) := by omega
      have hfin : (cur.map Nt.row).take i = (l.filter fun d => !p d).map Nt.row := by
        rw [← List.map_take, htake, List.take_length]
      have hfl : ((l.filter fun d => !p d).map Nt.row).length = i := by rw [← hfin]; simp; omega
      by_cases hi0 : i = 0
      · subst hi0
        have hc0 : ¬ (0 : Int) = (cur.length : Int) := by omega
        simp (decide := true) [hlt', int, I64, hc0]
        have hnil : l.filter (fun d => !p d) = [] := List.eq_nil_of_length_eq_zero (by simpa using hfl)
        rw [List.filter_eq_nil_iff] at hnil
        intro a ha
        simpa using hnil a ha
      · have hi1 : ¬ (0 : Int) = (i : Int) := by omega
        simp (decide := true) [hlt', int, I64, hin, hi1]
        refine ⟨by omega, by omega, by omega, ?_⟩
        rw [hfin]
        rw [if_pos]
        · congr 2
          rw [List.take_append_of_le_length (by omega), List.take_of_length_le (by omega)]
        · refine ⟨by omega, ?_⟩
          cases hF : (l.filter fun d => !p d) with
          | nil => rw [hF] at hfl; simp at hfl; omega
          | cons c0 cs => rfl
theorem glue1_ok (n : Nt) (b : Int) : PureR Tryz.prog 67 [.agg n.row, .ptr [int b]] (.bool (decide (n.id = b))) := by
  refine pure_of_body mixed Tryz.func67 rfl call_67 ?_
  simp (decide := true) [Tryz.f67, Nt.row, int]
theorem glueDel_ok (l : List Nt) (b : Int) (hl : l.length < 2^62) :
    CallC Tryz.prog 43 [.ar 0, .fn 67 [.bp 1 0]] [(0, .arr 45 7 (l.map Nt.row)), (1, .box 3 [.d (int b)])] 2
      (.d (.sl ((l.filter fun d => !decide (d.id = b)).map Nt.row))) 2 [(1, .box 3 [.d (int b)])] [] :=
  deleteN_ok l hl _ _ (fun d => decide (d.id = b)) (int b) fun x _ => glue1_ok x b
end Go.V
namespace Go.V
open Go Go.Proofs
theorem kidsN_len (d : Dc) (id t : Int) : (kidsN d id t).length ≤ d.notes.length := by
  unfold kidsN; rw [isort_length]; exact List.length_filter_le _ _
theorem idsOf_len (l : List Nt) : (idsOf l).length = l.length := by simp [idsOf]
def gStep (d : Dc) (a b : Int) (l : List Nt) (t : Int) : List Nt := if kindI d t = 3 then shN t b 0 (kidsN { d with notes := l } a t).length l else l
def gS (d : Dc) (a b : Int) (l : List Nt) (ts : List Int) : List Nt := ts.foldl (gStep d a b) l
theorem gStep_len (d : Dc) (a b : Int) (l : List Nt) (t : Int) : (gStep d a b l t).length = l.length := by
  unfold gStep; split
  · exact shN_len ..
  · rfl
theorem gS_len (d : Dc) (a b : Int) : ∀ (ts : List Int) (l : List Nt), (gS d a b l ts).length = l.length
  | [], l => rfl
  | t :: r, l => by
    have := gS_len d a b r (gStep d a b l t)
    rw [gStep_len] at this
    exact this
theorem gS_snoc {d : Dc} {a b : Int} {l : List Nt} {ts : List Int} {k : Nat} (h : k < ts.length) : gS d a b l (ts.take (k + 1)) = gStep d a b (gS d a b l (ts.take k)) ts[k] := by
  unfold gS; rw [take_snoc' h, List.foldl_append]; rfl
theorem shN_rank {t p r b lo hi : Int} {l : List Nt} (hb : 0 ≤ b) (h : ∀ n ∈ l, lo ≤ n.rank ∧ n.rank ≤ hi) : ∀ n ∈ shN t p r b l, lo ≤ n.rank ∧ n.rank ≤ hi + b := by
  intro n hn
  obtain ⟨m, hm, rfl⟩ := List.mem_map.1 hn
  have := h m hm
  unfold sh1
  split
  · simp only; omega
  · omega
theorem gStep_rank {d : Dc} {a b : Int} {l : List Nt} {t : Int} {m : Int} (hl : l.length < 20) (h : ∀ n ∈ l, 0 ≤ n.rank ∧ n.rank ≤ m) : ∀ n ∈ gStep d a b l t, 0 ≤ n.rank ∧ n.rank ≤ m + 20 := by
  intro n hn
  unfold gStep at hn
  split at hn
  · have hk := kidsN_len { d with notes := l } a t
    have := shN_rank (lo := 0) (hi := m) (by omega) h n hn
    simp only at hk
    omega
  · have := h n hn; omega
theorem gS_rank {d : Dc} {a b : Int} : ∀ {ts : List Int} {l : List Nt} {m : Int}, l.length < 20 → (∀ n ∈ l, 0 ≤ n.rank ∧ n.rank ≤ m) → ∀ n ∈ gS d a b l ts, 0 ≤ n.rank ∧ n.rank ≤ m + 20 * ts.length
  | [], l, m, _, h => by intro n hn; have := h n hn; simp; omega
  | t :: r, l, m, hl, h => by
    intro n hn
    have := gS_rank (d := d) (a := a) (b := b) (ts := r) (l := gStep d a b l t) (m := m + 20) (by rw [gStep_len]; exact hl) (gStep_rank hl h) n hn
    rw [List.length_cons]
    push_cast
    omega
def par1 (a b : Int) (n : Nt) : Nt := if n.par = b ∧ n.id ≠ b then { n with par := a } else n
def parL (a b : Int) (l : List Nt) : List Nt := l.map (par1 a b)
theorem par1_id (a b : Int) (n : Nt) : (par1 a b n).id = n.id := by unfold par1; split <;> rfl
theorem par1_rank (a b : Int) (n : Nt) : (par1 a b n).rank = n.rank := by unfold par1; split <;> rfl
theorem sh1_id (t p r b : Int) (n : Nt) : (sh1 t p r b n).id = n.id := by unfold sh1; split <;> rfl
theorem gS_at (d : Dc) (a b : Int) (id : Int) : ∀ (ts : List Int) (l : List Nt), atI (gS d a b l ts) id = atI l id
  | [], l => rfl
  | t :: r, l => by
    have := gS_at d a b id r (gStep d a b l t)
    have h2 : atI (gStep d a b l t) id = atI l id := by
      unfold gStep; split
      · exact atI_map (sh1_id _ _ _ _) l id
      · rfl
    exact this.trans h2
def glueL (d : Dc) (x y : Nt) (a b : Int) : List Nt :=
  let l2 := parL a b (gS d a b d.notes (kidsT d.tiers x.tier))
  let k := (atI d.notes a).toNat
  let l3 := l2.set k { (l2[k]?.getD default) with text := joinB x.text y.text }
  let l4 := if alT d.tiers x.tier = true then l3.set k { (l3[k]?.getD default) with tO := y.tO } else if kindI d x.tier = 3 then shN x.tier x.par (y.rank + 1) (-1) l3 else l3
  l4.filter fun n => !decide (n.id = b)
def nextB (d : Dc) (x y : Nt) (a b : Int) : Bool := decide (x.par = y.par) && decide ((idsOf (kidsN d x.par x.tier))[(idxI (fun n => decide (n = a)) (idsOf (kidsN d x.par x.tier)) + 1).toNat]? = some b)
def glueE (d : Dc) (a b : Int) : Dc × Int :=
  if ((getN d.notes a).2 && (getN d.notes b).2) = false then (Dc.zero, 9)
  else if (getN d.notes a).1.tier ≠ (getN d.notes b).1.tier ∨ kindI d (getN d.notes a).1.tier = 4 then (Dc.zero, 14)
  else if nextB d (getN d.notes a).1 (getN d.notes b).1 a b = false then (Dc.zero, 10)
  else chk { d with notes := glueL d (getN d.notes a).1 (getN d.notes b).1 a b }
theorem idxI_lo {α : Type} (p : α → Bool) (l : List α) : -1 ≤ idxI p l ∧ idxI p l < l.length ∨ l = [] := by
  unfold idxI
  cases h : l.findIdx? p with
  | none =>
    cases l with
    | nil => exact .inr rfl
    | cons a r => exact .inl ⟨by simp, by simp; omega⟩
  | some k =>
    rw [List.findIdx?_eq_some_iff_getElem] at h
    obtain ⟨hk, _⟩ := h
    exact .inl ⟨by simp only; omega, by simp only; omega⟩
abbrev glueOwn (d : Dc) (x y : Nt) (b : Int) (l : List Nt) : List (Nat × Obj') := [(0, .box 28 [.d (int d.id), .d (.str d.name), .d (int d.len), .d (int d.day), .d (ints d.spk), .d (tiersD d.tiers), .ar 7]), (1, .box 3 [.d (int b)]), (2, .box 28 [.d (int 0), .d (.str ⟨#[]⟩), .d (int 0), .d (int 0), .nils, .nils, .nils]), (3, .box 45 (noteCells x)), (4, .box 45 (noteCells y)), (7, .arr 45 7 (l.map Nt.row))]
set_option maxHeartbeats 8000000 in
theorem glue_ok (d : Dc) (a b : Int) (ht : d.tiers.length < 2^29) (hn : d.notes.length < 20) (hr : ∀ n ∈ d.notes, 0 ≤ n.rank ∧ n.rank ≤ 300) (hx : ∀ n ∈ d.notes, n.text.size < 2^40) :
    PureR Tryz.prog 30 [docD d, int a, int b] (resD (glueE d a b)) := by
  refine pure_of_body mixed Tryz.func30 rfl call_30 ?_
  simp (decide := true) [Tryz.f30, docD, Dc.row, int, resD]
  have hga := getN_at (l := d.notes) (id := a)
  have hma := getN_mem (l := d.notes) (id := a)
  have hmb := getN_mem (l := d.notes) (id := b)
  have gA := get_ok d a (by omega)
  have gB := get_ok d b (by omega)
  unfold glueE
  obtain ⟨⟨x, ok⟩, eg⟩ : ∃ g, getN d.notes a = g := ⟨_, rfl⟩
  obtain ⟨⟨y, is⟩, eh⟩ : ∃ g, getN d.notes b = g := ⟨_, rfl⟩
  rw [eg] at hga gA hma ⊢
  rw [eh] at gB hmb ⊢
  refine ECall.pure (by rfl) gA (by simp (decide := true) [docD, Dc.row]) ?_
  simp (decide := true) [getD', Nt.row, int]
  refine ECall.pure (by rfl) gB (by simp (decide := true) [docD, Dc.row]) ?_
  simp (decide := true) [getD', Nt.row, int]
  cases ok with
  | false => simp (decide := true) [int, Dc.zero, ints, tiersD, notesD]
  | true =>
  cases is with
  | false => simp (decide := true) [int, Dc.zero, ints, tiersD, notesD]
  | true =>
  obtain ⟨k0, hk0, ha0, hx0⟩ := hga rfl
  have hxt := hx x (hma rfl).1
  have hyt := hx y (hmb rfl).1
  have hyr := hr y (hmb rfl).1
  simp only at hx0
  by_cases htt : x.tier = y.tier
  case neg => simp (decide := true) [int, htt, Dc.zero, ints, tiersD, notesD]
  simp (decide := true) [int, htt]
  refine ECall.pure (by rfl) (kind_ok d y.tier (by omega)) (by simp (decide := true) [int]) ?_
  rw [show (if 0 ≤ y.tier ∧ y.tier < d.tiers.length then (d.tiers[y.tier.toNat]?.getD default).kind else -1) = kindI d y.tier from rfl]
  by_cases hk4 : kindI d y.tier = 4
  · simp (decide := true) [int, hk4, Dc.zero, ints, tiersD, notesD]
  simp (decide := true) [int, hk4]
  refine ECall.pure (by rfl) (kids_ok d x.par y.tier hn) (by simp (decide := true) [docD, Dc.row]) ?_
  unfold nextB
  simp only [htt]
  have hLl : (idsOf (kidsN d x.par y.tier)).length ≤ d.notes.length := by unfold idsOf; rw [List.length_map]; exact kidsN_len d x.par y.tier
  generalize idsOf (kidsN d x.par y.tier) = L at hLl ⊢
  have hIb := idxI_lo (fun n => decide (n = a)) L
  have hIx := indexI_ok L a (by omega)
  obtain ⟨i, hi⟩ : ∃ i, idxI (fun n => decide (n = a)) L = i := ⟨_, rfl⟩
  rw [hi] at hIb hIx ⊢
  have hi2 : -1 ≤ i ∧ i ≤ 20 := by
    rcases hIb with h | h
    · omega
    · subst h; rw [← hi]; simp [idxI]
  simp (decide := true) [int, ints]
  refine ECall.pure (by rfl) hIx (fun _ => rfl) ?_
  by_cases hpp : x.par = y.par
  case neg => simp (decide := true) [int, ints, hpp, Dc.zero, tiersD, notesD]
  obtain ⟨j, ej⟩ : ∃ j : Nat, i = (j : Int) - 1 := ⟨(i + 1).toNat, by omega⟩
  subst ej
  have ej1 : ((j : Int) - 1 + 1) = j := by omega
  by_cases hjl : j < L.length
  case neg =>
    have hjl' : (L.length : Int) ≤ j := by omega
    have hno : L[j]? = none := List.getElem?_eq_none (by omega)
    simp (decide := true) [int, ints, hpp, I64, ej1, hjl', hno, Dc.zero, tiersD, notesD]
    omega
  have hjl' : ¬ (L.length : Int) ≤ j := by omega
  have hjl2 : (j : Int) < L.length := by omega
  obtain ⟨c, ec⟩ : ∃ c, L[j] = c := ⟨_, rfl⟩
  have hjc : L[j]? = some c := by rw [List.getElem?_eq_getElem hjl, ec]
  by_cases hcb : c = b
  case neg =>
    have hcb' : ¬ some c = some b := fun e => hcb (Option.some.inj e)
    simp (decide := true) [int, ints, hpp, I64, ej1, hjl', hjl2, hjl, hjc, ec, hcb, hcb', Dc.zero, tiersD, notesD]
    omega
  subst hcb
  simp (decide := true) [int, ints, hpp, I64, ej1, hjl', hjl2, hjl, hjc, ec]
  refine ⟨by omega, ?_⟩
  refine ECall.mut [] [.d (docD d)] [] (by rfl) (by simp [docD, Dc.row, int, ints]) (by simp) (by simp) (copied_ok d (by omega)) ?_
  simp (decide := true) [docO, int, ints]
  refine ECall.pure (by rfl) (kidsT_ok d.tiers y.tier (by omega)) (by simp (decide := true)) ?_
  have hTl := kidsT_len d.tiers y.tier
  have hgl : glueL d x y a c = (let l2 := parL a c (gS d a c d.notes (kidsT d.tiers y.tier))
    let l3 := l2.set k0 { (l2[k0]?.getD default) with text := joinB x.text y.text }
    let l4 := if alT d.tiers y.tier = true then l3.set k0 { (l3[k0]?.getD default) with tO := y.tO } else if kindI d y.tier = 3 then shN y.tier y.par (y.rank + 1) (-1) l3 else l3
    l4.filter fun n => !decide (n.id = c)) := by unfold glueL; rw [htt, hpp, ha0, Int.toNat_natCast]
  rw [hgl]
  clear hgl
  generalize kidsT d.tiers y.tier = T at hTl ⊢
  simp (decide := true) [int, ints]
  refine loop_rule mixed (fun k : Nat => { n := 184, next := 8, slots := [(1, .d (int a)), (3, .bp 0 0), (5, .bp 1 0), (6, .bp 2 0), (8, .bp 3 0), (10, .bp 4 0), (88, .d (ints T)), (89, .d (int T.length)), (90, .d (int k))], own := glueOwn d x y c (gS d a c d.notes (T.take k)) })
    (fun k => k ≤ T.length) (fun k => T.length - k) 0 (by simp) (by simp (decide := true) [int, ints, tiersD, notesD, gS, htt, hpp]) ?_
  intro k hk
  by_cases hlt : k < T.length
  · have hlt' : (k : Int) < T.length := by omega
    obtain ⟨u, eu'⟩ : ∃ u, T[k] = u := ⟨_, rfl⟩
    have eu : T[k]? = some u := by rw [List.getElem?_eq_getElem hlt, eu']
    have hst := gS_snoc (d := d) (a := a) (b := c) (l := d.notes) hlt
    rw [eu'] at hst
    have hln := gS_len d a c (T.take k) d.notes
    have hrk := gS_rank (d := d) (a := a) (b := c) (ts := T.take k) (l := d.notes) (m := 300) hn hr
    rw [List.length_take] at hrk
    generalize gS d a c d.notes (T.take k) = l at hst hln hrk ⊢
    simp (decide := true) [int, ints, hlt, hlt', eu, eu', I64]
    have hkd := kind_ok { d with notes := l } u (by show d.tiers.length < _; omega)
    rw [show (if 0 ≤ u ∧ u < ({ d with notes := l } : Dc).tiers.length then ((({ d with notes := l } : Dc).tiers)[u.toNat]?.getD default).kind else -1) = kindI d u from rfl] at hkd
    refine ECall.pure (by rfl) hkd (fun _ => rfl) ?_
    by_cases h3 : kindI d u = 3
    · unfold gStep at hst
      rw [if_pos h3] at hst
      have hkn := kidsN_ok { d with notes := l } a u (by show l.length < _; omega)
      have hkl := kidsN_len { d with notes := l } a u
      simp only at hkl
      have hil := idsOf_len (kidsN { d with notes := l } a u)
      generalize kidsN { d with notes := l } a u = ks at hkn hkl hst hil
      have hsh := shift_ok d l u c 0 ks.length (by omega) (fun n hn => by have := hrk n hn; omega) (by omega)
      simp (decide := true) [int, ints, h3, I64]
      refine draw_last2 mixed (by simp) (by rfl) (by rfl) (by rfl) (by simp) ?_
      simp (decide := true) [int, ints]
      refine scall_pureN (by rfl) (by rfl) hkn ?_
      simp (decide := true) [int, ints, hil]
      refine ECall.mut [7] [docO d 0, .d (int u), .d (int c), .d (int 0), .d (int ks.length)] [(0, .arr 45 7 (l.map Nt.row))] (by rfl) (by simp [docO, int, ints, tiersD]) (by simp [Sym.los, Sym.lo, docO]) (by simp) hsh ?_
      simp (decide := true) [int, ints, I64]
      exact ⟨⟨by omega, by omega⟩, k + 1, hlt, by omega, by omega, by rw [hst]⟩
    · unfold gStep at hst
      rw [if_neg h3] at hst
      simp (decide := true) [int, ints, h3, I64]
      exact ⟨⟨by omega, by omega⟩, k + 1, hlt, by omega, by omega, by rw [hst]⟩
  have : k = T.length := by omega
  subst this
  rw [List.take_length]
  have hcl := gS_len d a c T d.notes
  have hca := gS_at d a c a T d.notes
  have hrk := gS_rank (d := d) (a := a) (b := c) (ts := T) (l := d.notes) (m := 300) hn hr
  generalize gS d a c d.notes T = c1 at hcl hca hrk ⊢
  simp (decide := true) [int, ints]
  refine loop_rule mixed (fun k : Nat => { n := 184, next := 8, slots := [(1, .d (int a)), (3, .bp 0 0), (5, .bp 1 0), (6, .bp 2 0), (8, .bp 3 0), (10, .bp 4 0), (109, .ar 7), (110, .d (int c1.length)), (111, .d (int k))], own := glueOwn d x y c (parL a c (c1.take k) ++ c1.drop k) })
    (fun k => k ≤ c1.length) (fun k => c1.length - k) 0 (by simp) (by simp (decide := true) [int, ints, tiersD, notesD, parL]) ?_
  intro k hk
  by_cases hlt : k < c1.length
  · have hlt' : (k : Int) < c1.length := by omega
    have hst := map_step (f := par1 a c) hlt
    have hge := map_get (f := par1 a c) hlt
    have hpl : (parL a c (c1.take k) ++ c1.drop k).length = c1.length := by unfold parL; rw [List.length_append, List.length_map, List.length_take, List.length_drop]; omega
    obtain ⟨m, em'⟩ : ∃ m, c1[k] = m := ⟨_, rfl⟩
    rw [em'] at hst hge
    change (parL a c (c1.take k) ++ c1.drop k).set k _ = parL a c (c1.take (k + 1)) ++ c1.drop (k + 1) at hst
    change (parL a c (c1.take k) ++ c1.drop k)[k]? = _ at hge
    generalize parL a c (c1.take k) ++ c1.drop k = e at hst hge hpl ⊢
    have kc : k < e.length := by omega
    have kc' : (k : Int) < e.length := by omega
    have gc : e[k] = m := by rw [List.getElem?_eq_getElem kc] at hge; exact Option.some.inj hge
    have hsame : e.set k m = e := by rw [← gc]; exact List.set_getElem_self kc
    by_cases h1 : m.par = c
    · by_cases h2 : m.id = c
      · have hs : par1 a c m = m := by simp [par1, h2]
        rw [hs, hsame] at hst
        simp (decide := true) [int, Nt.row, hlt', kc, kc', hge, gc, h1, h2, I64]
        exact ⟨⟨by omega, by omega⟩, k + 1, hlt, by omega, by omega, by rw [hst, List.map_append, List.map_drop]⟩
      · have hs : par1 a c m = { m with par := a } := by simp [par1, h1, h2]
        rw [hs] at hst
        simp (decide := true) [int, Nt.row, hlt', kc, kc', hge, gc, h1, h2, I64]
        exact ⟨⟨by omega, by omega⟩, k + 1, hlt, by omega, by omega, by rw [← List.map_drop, ← List.map_append, ← hst, List.map_set]; simp [Nt.row, int, h1]⟩
    · have hs : par1 a c m = m := by simp [par1, h1]
      rw [hs, hsame] at hst
      simp (decide := true) [int, Nt.row, hlt', kc, kc', hge, gc, h1, I64]
      exact ⟨⟨by omega, by omega⟩, k + 1, hlt, by omega, by omega, by rw [hst, List.map_append, List.map_drop]⟩
  have : k = c1.length := by omega
  subst this
  rw [List.take_length, List.drop_length, List.append_nil]
  have hpl : (parL a c c1).length = c1.length := List.length_map ..
  have hpa : atI (parL a c c1) a = k0 := by rw [parL, atI_map (par1_id a c), hca, ha0]
  have hpr : ∀ n ∈ parL a c c1, 0 ≤ n.rank ∧ n.rank ≤ 300 + 20 * T.length := by
    intro n hn'
    obtain ⟨m, hm, rfl⟩ := List.mem_map.1 hn'
    rw [par1_rank]
    exact hrk m hm
  generalize parL a c c1 = e at hpl hpa hpr ⊢
  have hat := at_ok { d with notes := e } a (by show e.length < _; omega)
  simp only [hpa] at hat
  have kc : k0 < e.length := by omega
  have kc' : (k0 : Int) < e.length := by omega
  obtain ⟨m, em'⟩ : ∃ m, e[k0] = m := ⟨_, rfl⟩
  have em : e[k0]? = some m := by rw [List.getElem?_eq_getElem kc, em']
  show ev _ _ _ _
  rw [em, Option.getD_some]
  have hjo := joined_ok x.text y.text hxt hyt
  generalize joinB x.text y.text = jt at hjo ⊢
  have hAl : PureR Tryz.prog 53 [tiersD d.tiers, int x.tier] (.bool (alT d.tiers y.tier)) := by rw [htt]; exact alignedT_ok d.tiers y.tier (by omega)
  have hs1 : (e.map Nt.row).set k0 [.int .i64 m.id, .int .i64 m.tier, .int .i64 m.par, .int .i64 m.fr, .int .i64 m.tO, .int .i64 m.rank, .str jt] = (e.set k0 { m with text := jt }).map Nt.row := by rw [List.map_set]; rfl
  have hl3 : (e.set k0 { m with text := jt }).length = d.notes.length := by rw [List.length_set]; omega
  have hm3 : (e.set k0 { m with text := jt })[k0]? = some { m with text := jt } := by rw [List.getElem?_set_self kc]
  have hr3 : ∀ n ∈ e.set k0 { m with text := jt }, 0 ≤ n.rank ∧ n.rank ≤ 300 + 20 * T.length := by
    intro n hn'
    rcases List.mem_or_eq_of_mem_set hn' with h | h
    · exact hpr n h
    · rw [h]; exact hpr m (by rw [← em']; exact List.getElem_mem kc)
  have hs2 : ((e.set k0 { m with text := jt }).map Nt.row).set k0 [.int .i64 m.id, .int .i64 m.tier, .int .i64 m.par, .int .i64 m.fr, .int .i64 y.tO, .int .i64 m.rank, .str jt] = (e.set k0 { m with text := jt, tO := y.tO }).map Nt.row := by
    rw [show [D.int .i64 m.id, .int .i64 m.tier, .int .i64 m.par, .int .i64 m.fr, .int .i64 y.tO, .int .i64 m.rank, .str jt] = Nt.row { m with text := jt, tO := y.tO } from rfl, ← List.map_set, List.set_set]
  have hl4 : (e.set k0 { m with text := jt, tO := y.tO }).length = d.notes.length := by rw [List.length_set]; omega
  rw [hm3, Option.getD_some]
  dsimp only
  generalize e.set k0 { m with text := jt, tO := y.tO } = e4 at hs2 hl4 ⊢
  generalize e.set k0 { m with text := jt } = e3 at hs1 hl3 hm3 hr3 hs2 ⊢
  have kc3 : k0 < e3.length := by omega
  have gc3 : e3[k0] = { m with text := jt } := by rw [List.getElem?_eq_getElem kc3] at hm3; exact Option.some.inj hm3
  generalize hal : alT d.tiers y.tier = al at hAl ⊢
  have hsh := shift_ok d e3 y.tier y.par (y.rank + 1) (-1) (by omega) (fun n hn => by have := hr3 n hn; omega) (by omega)
  have hl5 : (shN y.tier y.par (y.rank + 1) (-1) e3).length = d.notes.length := by rw [shN_len]; omega
  generalize shN y.tier y.par (y.rank + 1) (-1) e3 = e5 at hsh hl5 ⊢
  have fin : ∀ (l : List Nt), l.length = d.notes.length → CallC Tryz.prog 43 [.ar 0, .fn 67 [.bp 1 0]] [(0, .arr 45 7 (l.map Nt.row)), (1, .box 3 [.d (int c)])] 2 (.d (.sl ((l.filter fun d => !decide (d.id = c)).map Nt.row))) 2 [(1, .box 3 [.d (int c)])] [] ∧ PureR Tryz.prog 55 [docD { d with notes := l.filter fun d => !decide (d.id = c) }] (resD (chk { d with notes := l.filter fun d => !decide (d.id = c) })) := fun l hl =>
    ⟨glueDel_ok l c (by omega), checked_ok _ (by show d.tiers.length < _; omega) (by show (List.filter _ _).length < _; exact Nat.lt_of_le_of_lt (List.length_filter_le _ _) (by omega))⟩
  have end1 : ∀ (l : List Nt), l.length = d.notes.length → True := fun _ _ => trivial
  simp (decide := true) [int, ints]
  refine scall_pure (by rfl) (by rfl) hat (fun _ => rfl) ?_
  simp (decide := true) [int, ints, kc, kc', em, em', Nt.row]
  refine ECall.pure (by rfl) hjo (fun _ => rfl) ?_
  simp (decide := true) [int, ints, kc, kc', em, em', Nt.row]
  refine ECall.pure (by rfl) hAl (fun _ => rfl) ?_
  rw [hs1]
  cases al with
  | true =>
    rw [if_pos rfl]
    obtain ⟨g1, g2⟩ := fin e4 hl4
    generalize (e4.filter fun d => !decide (d.id = c)) = e9 at g1 g2 ⊢
    generalize chk { d with notes := e9 } = rr at g2 ⊢
    simp (decide := true) [int, ints, kc3, hm3, gc3, Nt.row]
    rw [hs2]
    refine ECall.mut [7, 1] [.ar 0, .fn 67 [.bp 1 0]] [(0, .arr 45 7 (e4.map Nt.row)), (1, .box 3 [.d (int c)])] (by rfl) (by simp) (by simp [Sym.los, Sym.lo]) (by simp [int]; rfl) g1 ?_
    simp (decide := true) [int, ints]
    refine ECall.pure (by rfl) g2 (by simp (decide := true) [docD, Dc.row, int, notesD]) ?_
    simp (decide := true) [int, resD, docD, Dc.row, ints, tiersD, notesD]
  | false =>
    rw [if_neg Bool.false_ne_true]
    simp (decide := true) [int, ints, Nt.row]
    have hkd := kind_ok { d with notes := e3 } x.tier (by show d.tiers.length < _; omega)
    rw [show (if 0 ≤ x.tier ∧ x.tier < ({ d with notes := e3 } : Dc).tiers.length then ((({ d with notes := e3 } : Dc).tiers)[x.tier.toNat]?.getD default).kind else -1) = kindI d x.tier from rfl] at hkd
    refine ECall.pure (by rfl) hkd (fun _ => rfl) ?_
    have hkx : kindI d x.tier = kindI d y.tier := by rw [htt]
    by_cases h3 : kindI d y.tier = 3
    · rw [if_pos h3]
      obtain ⟨g1, g2⟩ := fin e5 hl5
      generalize (e5.filter fun d => !decide (d.id = c)) = e9 at g1 g2 ⊢
      generalize chk { d with notes := e9 } = rr at g2 ⊢
      simp (decide := true) [int, ints, hkx, h3, Nt.row, I64]
      refine ⟨by omega, ?_⟩
      refine ECall.mut [7] [docO d 0, .d (int y.tier), .d (int y.par), .d (int (y.rank + 1)), .d (int (-1))] [(0, .arr 45 7 (e3.map Nt.row))] (by rfl) (by simp [docO, int, ints, tiersD, htt, hpp]) (by simp [Sym.los, Sym.lo, docO]) (by simp) hsh ?_
      simp (decide := true) [int, ints]
      refine ECall.mut [7, 1] [.ar 0, .fn 67 [.bp 1 0]] [(0, .arr 45 7 (e5.map Nt.row)), (1, .box 3 [.d (int c)])] (by rfl) (by simp) (by simp [Sym.los, Sym.lo]) (by simp [int]; rfl) g1 ?_
      simp (decide := true) [int, ints]
      refine ECall.pure (by rfl) g2 (by simp (decide := true) [docD, Dc.row, int, notesD]) ?_
      simp (decide := true) [int, resD, docD, Dc.row, ints, tiersD, notesD]
    · rw [if_neg h3]
      obtain ⟨g1, g2⟩ := fin e3 hl3
      generalize (e3.filter fun d => !decide (d.id = c)) = e9 at g1 g2 ⊢
      generalize chk { d with notes := e9 } = rr at g2 ⊢
      simp (decide := true) [int, ints, hkx, h3, Nt.row]
      refine ECall.mut [7, 1] [.ar 0, .fn 67 [.bp 1 0]] [(0, .arr 45 7 (e3.map Nt.row)), (1, .box 3 [.d (int c)])] (by rfl) (by simp) (by simp [Sym.los, Sym.lo]) (by simp [int]; rfl) g1 ?_
      simp (decide := true) [int, ints]
      refine ECall.pure (by rfl) g2 (by simp (decide := true) [docD, Dc.row, int, notesD]) ?_
      simp (decide := true) [int, resD, docD, Dc.row, ints, tiersD, notesD]
end Go.V
namespace Go.V
open Go Go.Proofs
def woN (ids : List Int) (l : List Nt) : List Nt := l.filter fun n => !decide (n.id ∈ ids)
end Go.V
namespace Go.V
open Go Go.Proofs
theorem idxI_at {L : List Int} (hn : L.Nodup) {i : Nat} {a : Int} (h : L[i]? = some a) : idxI (fun n => decide (n = a)) L = i := by
  rw [List.getElem?_eq_some_iff] at h
  obtain ⟨hi, he⟩ := h
  have := idxI_hit (p := fun n : Int => decide (n = a)) hi (fun e he' => by
    rw [List.mem_take_iff_getElem] at he'
    obtain ⟨j, hj, rfl⟩ := he'
    have hp := List.pairwise_iff_getElem.1 hn j i (by omega) hi (by omega)
    simpa [he] using hp) (by simpa using he)
  unfold idxI; rw [this]
theorem kidsT_nodup (l : List Tir) (i : Int) : (kidsT l i).Nodup := by
  unfold kidsT
  split
  · unfold idxP
    refine List.Pairwise.map _ (fun a b hab => ?_) (List.nodup_range.sublist List.filter_sublist)
    intro e; exact hab (by omega)
  · exact List.nodup_nil
theorem kidsT_of {l : List Tir} {i t : Int} (hi : 0 ≤ i ∧ i < l.length) (ht : 0 ≤ t ∧ t < l.length) (h : (l[t.toNat]?.getD default).par = i) : t ∈ kidsT l i := by
  unfold kidsT
  rw [if_pos hi]
  unfold idxP
  rw [List.mem_map]
  exact ⟨t.toNat, by rw [List.mem_filter, List.mem_range]; exact ⟨by omega, by simpa using h⟩, by omega⟩
def IncL (l : List Nt) : Prop := l.Pairwise fun a b => a.id < b.id
theorem IncL.map {l : List Nt} (h : IncL l) {f : Nt → Nt} (hf : ∀ n, (f n).id = n.id) : IncL (l.map f) := by
  unfold IncL; rw [List.pairwise_map]; exact h.imp fun {a b} hab => by rw [hf, hf]; exact hab
theorem set_ids {c : List Nt} (hinc : IncL c) {k : Nat} (hk : k < c.length) {a : Int} (ha : c[k].id = a) (F : Nt → Nt) : c.set k (F c[k]) = c.map fun n => if n.id = a then F n else n := by
  apply List.ext_getElem (by rw [List.length_set, List.length_map])
  intro i h1 h2
  rw [List.length_set] at h1
  rw [List.getElem_set, List.getElem_map]
  by_cases e : k = i
  · subst e; rw [if_pos rfl, if_pos ha]
  · rw [if_neg e, if_neg]
    intro e2
    have hp := List.pairwise_iff_getElem.1 hinc
    rcases Nat.lt_trichotomy i k with h3 | h3 | h3
    · have := hp i k h1 hk h3; omega
    · exact e h3.symm
    · have := hp k i hk h1 h3; omega
theorem Rgt.below {d : Dc} (h : Rgt d) {n p : Nt} (hn : n ∈ d.notes) (hp : p ∈ d.notes) (e : n.par = p.id) :
    (tirAt d n.tier).kind ≠ 0 ∧ p.tier = (tirAt d n.tier).par ∧ p.tier < n.tier ∧ 0 ≤ n.tier ∧ n.tier < d.tiers.length := by
  have hok := note_of h.good hn
  obtain ⟨t, et⟩ : ∃ t : Nat, n.tier = t := ⟨n.tier.toNat, by have := hok.t0; omega⟩
  have ht : t < d.tiers.length := by have := hok.t1; omega
  have hpl := (h.nok p hp).lo
  rw [et]
  by_cases hk : (tirAt d t).kind = 0
  · have := h.root ⟨hn, et⟩ hk; omega
  · obtain ⟨h1, h2⟩ := h.parent ⟨hn, et⟩ ht hk
    have h3 := ids_uniq h h1.1 hp (by rw [h2, e])
    have h4 := h1.2
    rw [h3] at h4
    have h5 := h.up ht hk
    exact ⟨hk, by omega, by omega, by omega, by omega⟩
theorem Rgt.selfpar {d : Dc} (h : Rgt d) {n : Nt} (hn : n ∈ d.notes) : n.par ≠ n.id := fun e => by have := h.below hn hn e; omega
theorem kindI_at {d : Dc} {t : Nat} (h : t < d.tiers.length) : kindI d t = (tirAt d t).kind := by unfold kindI tirAt; rw [if_pos ⟨by omega, by omega⟩]
structure Sib (d : Dc) (x y : Nt) (a b : Int) : Prop where
  xm : x ∈ d.notes
  ym : y ∈ d.notes
  xi : x.id = a
  yi : y.id = b
  ti : x.tier = y.tier
  ne : a ≠ b
end Go.V
namespace Go.V
open Go Go.Proofs
theorem nodup_ids {d : Dc} (h : Rgt d) {id : Int} {t : Nat} (ht : t < d.tiers.length) : (idsOf (kidsN d id t)).Nodup := by
  have h2 : (kidsN d id t).Nodup := (isort_perm _).nodup_iff.2 ((notes_nodup h.w).sublist List.filter_sublist)
  unfold idsOf
  show List.Pairwise _ (List.map _ _)
  rw [List.pairwise_map]
  refine h2.imp_of_mem fun {a b} ha hb hab e => hab ?_
  exact ids_uniq h ((kid_mem ht).1 ha).1.1 ((kid_mem ht).1 hb).1.1 e
end Go.V
namespace Go.V
open Go Go.Proofs
end Go.V
namespace Go.V
open Go Go.Proofs
theorem textE_size {s : ByteArray} (h : textE s = 0) : s.size < 2^40 := by
  unfold textE at h
  split at h
  · cases h
  · omega
theorem Rgt.texts {d : Dc} (h : Rgt d) : ∀ n ∈ d.notes, n.text.size < 2^40 := by
  intro n hn
  have := (h.nok n hn).e
  rw [noteE_place] at this
  split at this
  · rename_i ht; exact textE_size ht
  · rename_i ht; exact absurd this ht
end Go.V
