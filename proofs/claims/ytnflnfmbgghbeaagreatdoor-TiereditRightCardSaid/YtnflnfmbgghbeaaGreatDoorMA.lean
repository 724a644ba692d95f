/- Contracts and plain laws of this seat: part MA. It needs no conditions. -/
import Derived.Test.YtnflnfmbgghbeaaGreatDoorM8
import Derived.Test.YtnflnfmbgghbeaaGreatDoorW1
import Derived.Test.YtnflnfmbgghbeaaGreatDoorM7
set_option linter.unusedVariables false
set_option linter.unusedSimpArgs false
set_option linter.unusedSectionVars false
set_option maxRecDepth 100000
namespace Go.V
open Go Go.Proofs
theorem over_N : OverFn Tryz.prog 106 26 :=
  ⟨Tryz.f106, 4, 45, Tryz.func106, by kernel_rfl, by kernel_rfl, by kernel_rfl, by kernel_rfl, Tryz.underlying26, by kernel_rfl⟩
theorem ECall.overL {P : Program} {st : St} {f : Operand} {xs : List Operand} {dst : Option Tmp} {K : St → Prop} {g t i j s1 s2 sz lo n T1 T2 : Nat} {r1 r2 : List (List D)} (hc : scallee (st.val f) = Option.some (g, [])) (hx : xs.map st.val = [.ar i, .av j sz lo n]) (hij : i ≠ j) (hov : OverFn P g t)
    (h1 : st.look i = Option.some (.arr T1 s1 r1)) (h2 : st.look j = Option.some (.arr T2 s2 r2)) (p1 : 0 < r1.length) (p2 : 0 < r2.length) (hs : s2 ≠ 0) (hk : K (st.put dst (.d (.bool false)))) : ECall P st f xs dst K := by
  refine ECall.over ?_
  unfold eOver
  rw [hc, hx]
  simp only
  refine ⟨hij, ⟨t, hov⟩, ?_⟩
  rw [h1, h2]
  cases r1 with
  | nil => simp at p1
  | cons x1 y1 =>
    cases r2 with
    | nil => simp at p2
    | cons x2 y2 => exact ⟨hs, hk⟩
theorem draw_last2 {P : Program} (hmix : P.follows .mixedOrders = true) {id : Nat} {ops : List Oper} {st : St} {Q : DE → St → Prop} (hne : ops ≠ []) (hok : drawOk ops = true) (hcut : cutB ops (ops.length - 1) = true) (hg : (ops.getLast hne).guard = none)
    (hkeys : (st.own.map (·.1)).Nodup) (h : ddrawL P ops st.next (ops.getLast hne) ops.dropLast st (Q .normal)) : Triple P (.region id ops.toArray true) Q st := by
  obtain ⟨pre, o, rfl⟩ : ∃ pre o, ops = pre ++ [o] := ⟨ops.dropLast, ops.getLast hne, (List.dropLast_concat_getLast hne).symm⟩
  have hgl : (pre ++ [o]).getLast hne = o := by simp
  rw [hgl] at hg h
  rw [List.dropLast_concat] at h
  refine draw_last hmix hok ?_ hg hkeys h
  simpa using hcut
theorem take_mid {α : Type} (A X : List α) (b : α) : (A ++ b :: X).take (A.length + 1) = A ++ [b] := by
  rw [show A ++ b :: X = (A ++ [b]) ++ X by simp, List.take_left' (by simp)]
theorem drop_mid {α : Type} (A B X : List α) (b c : α) : (A ++ b :: (B ++ c :: X)).drop (A.length + 1 + (B.length + 1)) = X := by
  rw [show A ++ b :: (B ++ c :: X) = (A ++ b :: (B ++ [c])) ++ X by simp, List.drop_left' (by simp; omega)]
theorem drop_end {α : Type} (A X : List α) (b : α) (n : Nat) (h : X.length = n) : (A ++ b :: X).drop (A.length + 1 + n) = [] := by
  rw [List.drop_of_length_le (by simp; omega)]
def insertL {α : Type} (l : List α) (i : Nat) (x : α) : List α := l.take i ++ x :: l.drop i
set_option maxHeartbeats 1000000 in
theorem insertAt_ok (A B : List (List D)) (b0 r : List D) (hA : ∀ x ∈ A, x.length = 7) (hB : ∀ x ∈ B, x.length = 7) (h0 : b0.length = 7) (hr : r.length = 7) (hl : A.length + B.length < 2^40) :
    CallC Tryz.prog 84 [.ar 0, .d (int A.length), .ar 1] [(0, .arr 45 7 (A ++ b0 :: B)), (1, .arr 45 7 [r])] 2
      (.d (.sl (A ++ r :: b0 :: B))) 2 [] [0] := by
  refine callC_of_body_frz mixed Tryz.func84 rfl call_84 [0, 3] (by simp) ?_
  have e1 : ((A.length : Int) + ((B.length : Int) + 1) + 1 - (A.length : Int)) = (B.length : Int) + 2 := by omega
  have e2 : ¬ (A.length : Int) = (A.length : Int) + ((B.length : Int) + 1) := by omega
  have e3 : ¬ (A.length : Int) = (A.length : Int) + ((B.length : Int) + 2) := by omega
  simp (decide := true) [Tryz.f84, int, maxLen, I64, e2, -eCap]
  refine ⟨by omega, by omega, ?_⟩
  simp only [eCap, ti_26]
  simp (decide := true) [-dopsK_app]
  refine ⟨by omega, fun junk hj hjl => ?_⟩
  rcases junk with _ | ⟨j0, rest⟩
  · have f1 : 0 < A.length + (B.length + 1) := by omega
    have f2 : (A.length : Int) + ((B.length : Int) + 1) < (A.length : Int) + ((B.length : Int) + 1) + 1 := by omega
    have f3 : ¬ (A.length : Int) + ((B.length : Int) + 1) + 1 ≤ (A.length : Int) + ((B.length : Int) + 1) := by omega
    have f4 : max ((B.length : Int) + 2) 0 = (B.length : Int) + 2 := by omega
    have f5 : ((B.length : Int) + 2).toNat = B.length + 2 := by omega
    have f6 : min A.length (A.length + (B.length + 1)) = A.length := by omega
    simp (decide := true) [int, maxLen, I64, e1, e2, e3, hr, h0, f1, f2, f3, f4, f5, f6]
    refine ⟨by omega, by omega, by omega, by omega, by omega, by omega, by omega, by omega, ?_⟩
    refine draw_last2 mixed (by simp) (by rfl) (by rfl) (by rfl) (by simp) ?_
    have g1 : ((A.length : Int) + ((B.length : Int) + 2)).toNat - A.length = B.length + 2 := by omega
    have g2 : min (B.length + 2) 1 = 1 := by omega
    have g4 : ¬ (1 : Int) = (B.length : Int) + 1 + 1 := by omega
    have g5 : ((A.length : Int) + ((B.length : Int) + 1 + 1)).toNat - (A.length + 1) = B.length + 1 := by omega
    have g6 : ((A.length : Int) + ((B.length : Int) + 1)).toNat - A.length = B.length + 1 := by omega
    have g7 : (A.length : Int) + ((B.length : Int) + 1) ≤ (B.length : Int) + 1 + (A.length : Int) := by omega
    simp (decide := true) [int, maxLen, I64, e1, e2, e3, hr, h0, f1, f2, f3, f4, f5, f6, g1, g2, g4, g5, g6, g7]
    refine ⟨by omega, by omega, by omega, hB, by omega, ?_⟩
    rw [take_mid, drop_end _ _ _ _ (by simp)]
    simp
  · have f1 : 0 < A.length + (B.length + (rest.length + 1) + 1) := by omega
    have f2 : ¬ (rest.length : Int) + 1 < 1 := by omega
    have f3 : 1 ≤ (rest.length : Int) + 1 := by omega
    have f4 : max ((A.length : Int) + ((B.length : Int) + 1) + 1) 0 = ((A.length + B.length + 2 : Nat) : Int) := by omega
    have f5 : ((A.length : Int) + ((B.length : Int) + 1) + 1).toNat = A.length + B.length + 2 := by omega
    have f6 : 0 < B.length + (rest.length + 1) := by omega
    simp (decide := true) [int, maxLen, I64, e1, e2, e3, hr, h0, f1, f2, f3, f4, f5, f6]
    refine ⟨by omega, by omega, by omega, by omega, ?_⟩
    refine ECall.overL (by rfl) (by rfl) (by decide) over_N (by rfl) (by rfl) (by simp) (by simp; omega) (by decide) ?_
    simp (decide := true) [int, maxLen, I64, e1, e2, e3, hr, h0, f1, f2, f3, f4, f5, f6]
    refine draw_last2 mixed (by simp) (by rfl) (by rfl) (by rfl) (by simp) ?_
    have g1 : A.length + B.length + 2 - (A.length + 1) = B.length + 1 := by omega
    have g2 : A.length + B.length + 2 - A.length = B.length + 2 := by omega
    have g3 : (B ++ j0 :: rest).take (B.length + 1) = B ++ [j0] := by rw [show B ++ j0 :: rest = (B ++ [j0]) ++ rest by simp, List.take_left' (by simp)]
    have g4 : (A.length : Int) + 1 ≤ ((A.length + B.length + 2 : Nat) : Int) := by omega
    have k1 : (A.length : Int) + (B.length : Int) + 2 ≤ (B.length : Int) + ((rest.length : Int) + 1) + 1 + (A.length : Int) := by omega
    have k2 : ((A.length : Int) + (B.length : Int) + 2).toNat - A.length = B.length + 2 := by omega
    have k3 : ((A.length : Int) + (B.length : Int) + 2).toNat - (A.length + 1) = B.length + 1 := by omega
    simp (decide := true) [int, maxLen, I64, hr, h0, f4, f5, f6, g1, g2, g3, g4, k1, k2, k3, take_mid, drop_mid]
    refine ⟨by omega, by omega, by omega, fun a ha => ha.elim (hB a) (fun e => by rw [e]; exact hj j0 (by simp)), by omega, by omega, ?_⟩
    rw [if_pos]
    · rw [show A ++ r :: b0 :: (B ++ rest) = (A ++ r :: b0 :: B) ++ rest by simp, List.take_left' (by simp; omega)]
    · refine ⟨by omega, ?_⟩
      cases A with
      | nil => exact hr
      | cons a0 A' => exact hA a0 (by simp)
theorem insertEnd_ok (A : List (List D)) (r : List D) (hA : ∀ x ∈ A, x.length = 7) (hr : r.length = 7) (hl : A.length < 2^40) :
    CallC Tryz.prog 84 [.ar 0, .d (int A.length), .ar 1] [(0, .arr 45 7 A), (1, .arr 45 7 [r])] 2
      (.d (.sl (A ++ [r]))) 2 [] [0] := by
  refine callC_of_body_frz mixed Tryz.func84 rfl call_84 [0, 3] (by simp) ?_
  simp (decide := true) [Tryz.f84, int, maxLen, I64, hr]
  omega
theorem insertN_ok (l : List Nt) (d : Nt) (i : Nat) (hi : i ≤ l.length) (hl : l.length < 2^40) :
    CallC Tryz.prog 84 [.ar 0, .d (int i), .ar 1] [(0, .arr 45 7 (l.map Nt.row)), (1, .arr 45 7 [d.row])] 2
      (.d (.sl ((insertL l i d).map Nt.row))) 2 [] [0] := by
  have hrow : ∀ (m : List Nt), ∀ x ∈ m.map Nt.row, x.length = 7 := by
    intro m x hx
    obtain ⟨e, _, rfl⟩ := List.mem_map.1 hx
    rfl
  by_cases hin : i = l.length
  · subst hin
    have := insertEnd_ok (l.map Nt.row) d.row (hrow l) rfl (by simpa using hl)
    simp only [List.length_map] at this
    simpa [insertL] using this
  · have hlt : i < l.length := by omega
    have hd : l.drop i = l[i] :: l.drop (i + 1) := List.drop_eq_getElem_cons hlt
    have hl' : l = l.take i ++ l[i] :: l.drop (i + 1) := by rw [← hd, List.take_append_drop]
    have hti : ((l.take i).map Nt.row).length = i := by simp; omega
    have := insertAt_ok ((l.take i).map Nt.row) ((l.drop (i + 1)).map Nt.row) l[i].row d.row (hrow _) (hrow _) rfl rfl (by simp; omega)
    rw [hti] at this
    have e1 : (l.take i).map Nt.row ++ l[i].row :: (l.drop (i + 1)).map Nt.row = l.map Nt.row := by
      have := congrArg (List.map Nt.row) hl'
      rw [List.map_append, List.map_cons] at this
      exact this.symm
    have e2 : (l.take i).map Nt.row ++ d.row :: l[i].row :: (l.drop (i + 1)).map Nt.row = (insertL l i d).map Nt.row := by
      unfold insertL
      rw [hd, List.map_append, List.map_cons, List.map_cons]
    rw [e1, e2] at this
    exact this
end Go.V
namespace Go.V
open Go Go.Proofs
def shB (t p r : Int) (n : Nt) : Bool := decide (n.tier = t) && decide (n.par = p) && decide (r ≤ n.rank)
def sh1 (t p r b : Int) (n : Nt) : Nt := if shB t p r n = true then { n with rank := n.rank + b } else n
def shN (t p r b : Int) (l : List Nt) : List Nt := l.map (sh1 t p r b)
theorem shN_len (t p r b : Int) (l : List Nt) : (shN t p r b l).length = l.length := List.length_map ..
theorem shN_step {t p r b : Int} {l : List Nt} {k : Nat} (h : k < l.length) : (shN t p r b (l.take k) ++ l.drop k).set k (sh1 t p r b l[k]) = shN t p r b (l.take (k + 1)) ++ l.drop (k + 1) := by
  have hlen : (shN t p r b (l.take k)).length = k := by rw [shN_len, List.length_take]; omega
  rw [List.set_append_right _ _ (by omega), hlen, Nat.sub_self, List.drop_eq_getElem_cons h, List.set_cons_zero, take_snoc' h]
  unfold shN
  simp only [List.map_append, List.map_cons, List.map_nil, List.append_assoc, List.singleton_append]
theorem shN_get {t p r b : Int} {l : List Nt} {k : Nat} (h : k < l.length) : (shN t p r b (l.take k) ++ l.drop k)[k]? = some l[k] := by
  have hlen : (shN t p r b (l.take k)).length = k := by rw [shN_len, List.length_take]; omega
  rw [List.getElem?_append_right (by omega), hlen, Nat.sub_self, List.getElem?_drop, Nat.add_zero, List.getElem?_eq_getElem h]
set_option maxHeartbeats 2000000 in
theorem shift_ok (d : Dc) (l : List Nt) (t p r b : Int) (hl : l.length < 2^40) (hr : ∀ n ∈ l, -1099511627776 ≤ n.rank ∧ n.rank ≤ 1099511627776) (hb : -1099511627776 ≤ b ∧ b ≤ 1099511627776) :
    CallC Tryz.prog 39 [docO d 0, .d (int t), .d (int p), .d (int r), .d (int b)] [(0, .arr 45 7 (l.map Nt.row))] 1 (.tup []) 1 [(0, .arr 45 7 ((shN t p r b l).map Nt.row))] [] := by
  refine callC_of_body mixed Tryz.func39 rfl call_39 (by simp [Sym.los, Sym.lo, docO]) ?_
  simp (decide := true) [Tryz.f39, docO, int, tiersD, ints]
  refine loop_rule mixed (fun k : Nat => { n := 47, next := 2, slots := [(1, .d (int t)), (2, .d (int p)), (3, .d (int r)), (4, .d (int b)), (5, .bp 1 0), (13, .ar 0), (14, .d (int l.length)), (15, .d (int k))], own := [(0, .arr 45 7 ((shN t p r b (l.take k) ++ l.drop k).map Nt.row)), (1, .box 28 [.d (int d.id), .d (.str d.name), .d (int d.len), .d (int d.day), .d (ints d.spk), .d (tiersD d.tiers), .ar 0])], base := 1 })
    (fun k => k ≤ l.length) (fun k => l.length - k) 0 (by simp) (by simp (decide := true) [int, ints, tiersD, shN]) ?_
  intro k hk
  by_cases hlt : k < l.length
  · have hlt' : (k : Int) < l.length := by omega
    have hst := shN_step (t := t) (p := p) (r := r) (b := b) hlt
    have hge := shN_get (t := t) (p := p) (r := r) (b := b) hlt
    have hcl : (shN t p r b (l.take k) ++ l.drop k).length = l.length := by rw [List.length_append, shN_len, List.length_take, List.length_drop]; omega
    have hrk := hr _ (List.getElem_mem hlt)
    obtain ⟨m, em'⟩ : ∃ m, l[k] = m := ⟨_, rfl⟩
    rw [em'] at hst hge hrk
    generalize shN t p r b (l.take k) ++ l.drop k = c at hst hge hcl
    have kc : k < c.length := by omega
    have kc' : (k : Int) < c.length := by omega
    have gc : c[k] = m := by rw [List.getElem?_eq_getElem kc] at hge; exact Option.some.inj hge
    by_cases h1 : m.tier = t
    · by_cases h2 : m.par = p
      · by_cases h3 : r ≤ m.rank
        · have hs : sh1 t p r b m = { m with rank := m.rank + b } := by simp [sh1, shB, h1, h2, h3]
          rw [hs] at hst
          simp (decide := true) [int, Nt.row, hlt', kc, kc', hge, gc, h1, h2, h3, I64]
          exact ⟨⟨by omega, by omega⟩, ⟨by omega, by omega⟩, k + 1, hlt, by omega, by omega, by rw [← List.map_drop, ← List.map_append, ← hst, List.map_set]; simp [Nt.row, int, h1, h2]⟩
        · have hs : c.set k (sh1 t p r b m) = c := by rw [show sh1 t p r b m = m by simp [sh1, shB, h1, h2, h3], ← gc]; exact List.set_getElem_self kc
          rw [hs] at hst
          simp (decide := true) [int, Nt.row, hlt', kc, kc', hge, gc, h1, h2, h3, I64]
          exact ⟨⟨by omega, by omega⟩, k + 1, hlt, by omega, by omega, by rw [← List.map_drop, ← List.map_append, ← hst]⟩
      · have hs : c.set k (sh1 t p r b m) = c := by rw [show sh1 t p r b m = m by simp [sh1, shB, h1, h2], ← gc]; exact List.set_getElem_self kc
        rw [hs] at hst
        simp (decide := true) [int, Nt.row, hlt', kc, kc', hge, gc, h1, h2, I64]
        exact ⟨⟨by omega, by omega⟩, k + 1, hlt, by omega, by omega, by rw [← List.map_drop, ← List.map_append, ← hst]⟩
    · have hs : c.set k (sh1 t p r b m) = c := by rw [show sh1 t p r b m = m by simp [sh1, shB, h1], ← gc]; exact List.set_getElem_self kc
      rw [hs] at hst
      simp (decide := true) [int, Nt.row, hlt', kc, kc', hge, gc, h1, I64]
      exact ⟨⟨by omega, by omega⟩, k + 1, hlt, by omega, by omega, by rw [← List.map_drop, ← List.map_append, ← hst]⟩
  · have : k = l.length := by omega
    subst this
    rw [List.take_length, List.drop_length, List.append_nil]
    simp (decide := true) [int]
end Go.V
namespace Go.V
open Go Go.Proofs
theorem insert1_ok (x n : Nt) : PureR Tryz.prog 83 [.agg x.row, .ptr n.row] (.bool (decide (n.id < x.id))) := by
  refine pure_of_body mixed Tryz.func83 rfl call_83 ?_
  simp (decide := true) [Tryz.f83, Nt.row, int]
def posI (l : List Nt) (n : Nt) : Nat := match l.findIdx? (fun x => decide (n.id < x.id)) with
  | some k => k
  | none => l.length
theorem posI_le (l : List Nt) (n : Nt) : posI l n ≤ l.length := by
  unfold posI
  split
  · rename_i k h
    rw [List.findIdx?_eq_some_iff_getElem] at h
    exact Nat.le_of_lt h.1
  · exact Nat.le_refl _
def insN (l : List Nt) (n : Nt) : List Nt := insertL l (posI l n) n
set_option maxHeartbeats 2000000 in
theorem insertDoc_ok (d : Dc) (l : List Nt) (n : Nt) (hl : l.length < 2^40) :
    CallC Tryz.prog 56 [docO d 0, .d (.agg n.row)] [(0, .arr 45 7 (l.map Nt.row))] 1 (.d (docD { d with notes := insN l n })) 1 [] [0] := by
  refine callC_of_body mixed Tryz.func56 rfl call_56 (by simp [Sym.los, Sym.lo, docO]) ?_
  have hix := indexN_ok l (by omega) 83 [.ptr n.row] (fun x => decide (n.id < x.id)) fun x _ => insert1_ok x n
  have hin := insertN_ok l n (posI l n) (posI_le l n) hl
  simp (decide := true) [Tryz.f56, docO, Nt.row, int, tiersD, ints]
  refine ECall.pure (by rfl) hix (fun _ => rfl) ?_
  unfold insN
  unfold posI at hin ⊢
  unfold idxI
  cases h : l.findIdx? fun x => decide (n.id < x.id) with
  | none =>
    rw [h] at hin
    simp (decide := true) [int]
    refine ECall.mut [0, 4] [.ar 0, .d (int l.length), .ar 1] [(0, .arr 45 7 (l.map Nt.row)), (1, .arr 45 7 [n.row])] (by rfl) (by simp [int]) (by simp [Sym.los, Sym.lo]) (by simp [Nt.row, int]; rfl) hin ?_
    simp (decide := true) [int, docD, Dc.row, tiersD, ints, notesD]
  | some k =>
    rw [h] at hin
    have k0 : ¬ (k : Int) < 0 := by omega
    simp (decide := true) [int, k0]
    refine ECall.mut [0, 4] [.ar 0, .d (int k), .ar 1] [(0, .arr 45 7 (l.map Nt.row)), (1, .arr 45 7 [n.row])] (by rfl) (by simp [int]) (by simp [Sym.los, Sym.lo]) (by simp [Nt.row, int]; rfl) hin ?_
    simp (decide := true) [int, docD, Dc.row, tiersD, ints, notesD]
end Go.V
namespace Go.V
open Go Go.Proofs
def kindI (d : Dc) (t : Int) : Int := if 0 ≤ t ∧ t < d.tiers.length then (d.tiers[t.toNat]?.getD default).kind else -1
def sibI (l : List Nt) (t p : Int) : Nat := (l.filter fun x => decide (x.tier = t) && decide (x.par = p)).length
theorem sibI_le (l : List Nt) (t p : Int) : sibI l t p ≤ l.length := List.length_filter_le _ _
def addE (d : Dc) (n : Nt) : Dc × Int :=
  if 0 ≤ atI d.notes n.id then (Dc.zero, 8)
  else if kindI d n.tier = 3 then (if n.rank < 0 ∨ (sibI d.notes n.tier n.par : Int) < n.rank then (Dc.zero, 2) else chk { d with notes := insN (shN n.tier n.par n.rank 1 d.notes) n })
  else chk { d with notes := insN d.notes n }
theorem insN_len (l : List Nt) (n : Nt) : (insN l n).length = l.length + 1 := by
  have := posI_le l n
  simp [insN, insertL]; omega
set_option maxHeartbeats 4000000 in
theorem add_ok (d : Dc) (n : Nt) (ht : d.tiers.length < 2^29) (hn : d.notes.length < 2^29) (hr : ∀ n ∈ d.notes, -1099511627776 ≤ n.rank ∧ n.rank ≤ 1099511627776) :
    PureR Tryz.prog 28 [docD d, .agg n.row] (resD (addE d n)) := by
  refine pure_of_body mixed Tryz.func28 rfl call_28 ?_
  simp (decide := true) [Tryz.f28, docD, Dc.row, Nt.row, int, resD]
  refine ECall.pure (by rfl) (at_ok d n.id (by omega)) (by simp (decide := true) [docD, Dc.row, int]) ?_
  unfold addE
  by_cases h0 : 0 ≤ atI d.notes n.id
  · simp (decide := true) [int, h0, Dc.zero, ints, tiersD, notesD]
  simp (decide := true) [int, h0]
  refine ECall.mut [] [.d (docD d)] [] (by rfl) (by simp [docD, Dc.row, int]) (by simp) (by simp) (copied_ok d (by omega)) ?_
  simp (decide := true) [docO, int]
  refine ECall.pure (by rfl) (kind_ok d n.tier (by omega)) (fun _ => rfl) ?_
  rw [show (if 0 ≤ n.tier ∧ n.tier < d.tiers.length then (d.tiers[n.tier.toNat]?.getD default).kind else -1) = kindI d n.tier from rfl]
  by_cases hk : kindI d n.tier = 3
  case neg =>
    simp (decide := true) [int, hk]
    have hck := checked_ok { d with notes := insN (d.notes) n } (by show d.tiers.length < _; omega) (by show (insN _ _).length < _; rw [insN_len]; omega)
    generalize chk { d with notes := insN (d.notes) n } = rr at hck
    refine ECall.mut [5] [docO d 0, .d (.agg n.row)] [(0, .arr 45 7 ((d.notes).map Nt.row))] (by rfl) (by simp [docO, Nt.row, int]) (by simp [Sym.los, Sym.lo, docO]) (by simp) (insertDoc_ok d (d.notes) n (by omega)) ?_
    generalize insN (d.notes) n = ll at hck
    simp (decide := true) [int, docD, Dc.row]
    refine ECall.pure (by rfl) hck (by simp (decide := true) [docD, Dc.row, int]) ?_
    simp (decide := true) [int, resD, docD, Dc.row]
  simp (decide := true) [int, hk]
  refine loop_rule mixed (fun k : Nat => { n := 68, next := 6, slots := [(2, .bp 0 0), (3, .bp 1 0), (4, .bp 2 0), (6, .d (int (sibI (d.notes.take k) n.tier n.par))), (23, .ar 5), (24, .d (int d.notes.length)), (25, .d (int k))], own := [(0, .box 28 [.d (int d.id), .d (.str d.name), .d (int d.len), .d (int d.day), .d (ints d.spk), .d (tiersD d.tiers), .ar 5]), (1, .box 45 (noteCells n)), (2, .box 28 [.d (int 0), .d (.str ⟨#[]⟩), .d (int 0), .d (int 0), .nils, .nils, .nils]), (5, .arr 45 7 (d.notes.map Nt.row))] })
    (fun k => k ≤ d.notes.length) (fun k => d.notes.length - k) 0 (by simp) (by simp (decide := true) [int, ints, tiersD, notesD, sibI]) ?_
  intro k hkk
  by_cases hlt : k < d.notes.length
  · have hlt' : (k : Int) < d.notes.length := by omega
    obtain ⟨m, em'⟩ : ∃ m, d.notes[k] = m := ⟨_, rfl⟩
    have em : d.notes[k]? = some m := by rw [List.getElem?_eq_getElem hlt, em']
    have hs : sibI (d.notes.take (k + 1)) n.tier n.par = sibI (d.notes.take k) n.tier n.par + (if m.tier = n.tier ∧ m.par = n.par then 1 else 0) := by
      unfold sibI
      rw [take_snoc' hlt, List.filter_append, List.length_append, em']
      by_cases a : m.tier = n.tier <;> by_cases b : m.par = n.par <;> simp [a, b]
    have hle := sibI_le (d.notes.take k) n.tier n.par
    rw [List.length_take] at hle
    by_cases h1 : m.tier = n.tier
    · by_cases h2 : m.par = n.par
      · rw [if_pos ⟨h1, h2⟩] at hs
        simp (decide := true) [int, Nt.row, hlt, hlt', em, em', h1, h2, I64]
        exact ⟨⟨by omega, by omega⟩, ⟨by omega, by omega⟩, k + 1, hlt, by omega, by omega, by omega⟩
      · rw [if_neg (fun e => h2 e.2)] at hs
        simp (decide := true) [int, Nt.row, hlt, hlt', em, em', h1, h2, I64]
        exact ⟨⟨by omega, by omega⟩, k + 1, hlt, by omega, by omega, by omega⟩
    · rw [if_neg (fun e => h1 e.1)] at hs
      simp (decide := true) [int, Nt.row, hlt, hlt', em, em', h1, I64]
      exact ⟨⟨by omega, by omega⟩, k + 1, hlt, by omega, by omega, by omega⟩
  have : k = d.notes.length := by omega
  subst this
  rw [List.take_length]
  by_cases r1 : n.rank < 0
  · simp (decide := true) [int, r1, Nt.row, Dc.zero, ints, tiersD, notesD]
  by_cases r2 : (sibI d.notes n.tier n.par : Int) < n.rank
  · simp (decide := true) [int, r1, r2, Nt.row, Dc.zero, ints, tiersD, notesD]
  have hle := sibI_le d.notes n.tier n.par
  have hsh := shift_ok d d.notes n.tier n.par n.rank 1 (by omega) hr (by omega)
  have hshl := shN_len n.tier n.par n.rank 1 d.notes
  simp (decide := true) [int, r1, r2, Nt.row]
  refine ECall.mut [5] [docO d 0, .d (int n.tier), .d (int n.par), .d (int n.rank), .d (int 1)] [(0, .arr 45 7 (d.notes.map Nt.row))] (by rfl) (by simp [docO, int]) (by simp [Sym.los, Sym.lo, docO]) (by simp) hsh ?_
  generalize shN n.tier n.par n.rank 1 d.notes = L at hshl
  simp (decide := true) [int, Nt.row]
  have hck := checked_ok { d with notes := insN (L) n } (by show d.tiers.length < _; omega) (by show (insN _ _).length < _; rw [insN_len, hshl]; omega)
  generalize chk { d with notes := insN (L) n } = rr at hck
  refine ECall.mut [5] [docO d 0, .d (.agg n.row)] [(0, .arr 45 7 ((L).map Nt.row))] (by rfl) (by simp [docO, Nt.row, int]) (by simp [Sym.los, Sym.lo, docO]) (by simp) (insertDoc_ok d (L) n (by omega)) ?_
  generalize insN (L) n = ll at hck
  simp (decide := true) [int, docD, Dc.row]
  refine ECall.pure (by rfl) hck (by simp (decide := true) [docD, Dc.row, int]) ?_
  simp (decide := true) [int, resD, docD, Dc.row]
end Go.V
namespace Go.V
open Go Go.Proofs
end Go.V
namespace Go.V
open Go Go.Proofs
theorem atI_get (l : List Nt) (id : Int) : decide (0 ≤ atI l id) = (getN l id).2 := by
  rw [find_get]
  unfold atI idxI
  cases l.findIdx? fun n => decide (n.id = id) with
  | none => rfl
  | some k => simp
end Go.V
namespace Go.V
open Go Go.Proofs
end Go.V
namespace Go.V
open Go Go.Proofs
structure Plc where
  id : Int
  time : Int
  next : Int
def plcD (c : Plc) : D := .agg [int c.id, int c.time, int c.next]
structure Plc.ok (c : Plc) : Prop where
  id : IntOk c.id
  time : IntOk c.time
  next : IntOk c.next
abbrev placeSh : List Sh := [.int .i64, .int .i64, .int .i64]
theorem place_decode {l : List D} (h : FitDs l placeSh) : ∃ c : Plc, D.agg l = plcD c ∧ c.ok := by
  obtain ⟨_, _, rfl, g1, r1⟩ := h.cons_decode
  obtain ⟨_, _, rfl, g2, r2⟩ := r1.cons_decode
  obtain ⟨_, _, rfl, g3, r3⟩ := r2.cons_decode
  obtain rfl := r3.nil_decode
  obtain ⟨a, rfl, wa⟩ := g1.int_decode
  obtain ⟨b, rfl, wb⟩ := g2.int_decode
  obtain ⟨c, rfl, wc⟩ := g3.int_decode
  exact ⟨⟨a, b, c⟩, rfl, wa, wb, wc⟩
end Go.V
namespace Go.V
open Go Go.Proofs
theorem Rgt.ranked {d : Dc} (h : Rgt d) {t : Nat} (ht : t < d.tiers.length) (k3 : (tirAt d t).kind = 3) {n : Nt} (hn : inT d t n) : 0 ≤ n.rank ∧ n.rank < (sibs d.notes t n.par).length := by
  have hte := ter_iff.1 (h.ter t ht)
  have hall : ∀ n ∈ ofT d.notes t, rankP (sibs d.notes t n.par) = true := by
    intro n hn
    have := hte.2 n hn
    rw [k3] at this
    simpa [badR] using this
  have hs := srt_of (ofT d.notes t)
  have hperm := sortN_perm (ofT d.notes t)
  have hl : (sortN (ofT d.notes t)).length < 2^40 := by
    rw [sortN_length]
    have : (ofT d.notes t).length ≤ d.notes.length := List.length_filter_le _ _
    have := h.few
    omega
  have hz : ∀ n ∈ sortN (ofT d.notes t), n.fr = 0 := by
    intro n hn
    have hn := inT_iff.1 (hperm.mem_iff.1 hn)
    exact (flat_of (note_of h.good hn.1) (by rw [hn.2, k3]; rfl)).1
  have hrk := (rk_pos hs hl).1 ((rank_all hperm hs hl hz).2 hall)
  obtain ⟨i, hi, ei⟩ := List.mem_iff_getElem.1 (hperm.mem_iff.2 (inT_iff.2 hn))
  rw [← gN_eq hi] at ei
  have r1 := hrk i hi
  have hlt := (List.getElem?_eq_some_iff.1 (pos_at hi)).1
  rw [(sibs_perm hperm _).length_eq, ei] at hlt
  rw [ei] at r1
  omega
theorem place_rank {d : Dc} {n : Nt} (h : placeE d n = 0) : 0 ≤ n.rank ∧ (n.rank = 0 ∨ (tirAt d n.tier).kind = 3) := by
  unfold placeE at h
  by_cases hr : n.rank < 0 ∨ (n.rank ≠ 0 ∧ (tirAt d n.tier).kind ≠ 3)
  · exfalso
    rw [if_pos hr] at h
    repeat' split at h
    all_goals cases h
  · omega
theorem Rgt.rank300 {d : Dc} (h : Rgt d) : ∀ n ∈ d.notes, 0 ≤ n.rank ∧ n.rank ≤ 300 := by
  intro n hn
  have hok := note_of h.good hn
  obtain ⟨t, et⟩ : ∃ t : Nat, n.tier = t := ⟨n.tier.toNat, by have := hok.t0; omega⟩
  have ht : t < d.tiers.length := by have := hok.t1; omega
  have hp := place_rank hok.place
  rcases hp.2 with r0 | k3
  · omega
  · rw [et] at k3
    have := h.ranked ht k3 ⟨hn, et⟩
    have hl := sibs_len d.notes t n.par
    have := h.few
    omega
theorem Rgt.rank {d : Dc} (h : Rgt d) : ∀ n ∈ d.notes, -1099511627776 ≤ n.rank ∧ n.rank ≤ 1099511627776 := by
  intro n hn
  have := h.rank300 n hn
  omega
end Go.V
