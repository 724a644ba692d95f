/- Contracts: a slice with one element more at a place (slices.Insert). -/
import Derived.Test.YtmpknkjlhapcmaaGreatE7
import Derived.Test.YtmpknkjlhapcmaaGreatW1
set_option linter.unusedSimpArgs false
set_option linter.unusedVariables false
set_option maxRecDepth 10000
namespace Go.V
open Go Go.Proofs

theorem over_D : OverFn Tryz.prog 63 22 :=
  ⟨Tryz.f63, 4, 33, Tryz.func63, by kernel_rfl, by kernel_rfl, by kernel_rfl, by kernel_rfl, Tryz.underlying22, by kernel_rfl⟩
theorem ECall.overL {P : Program} {st : St} {f : Operand} {xs : List Operand} {dst : Option Tmp} {K : St → Prop} {g t i j s1 s2 sz lo n T1 T2 : Nat} {r1 r2 : List (List D)} (hc : scallee (st.val f) = some (g, [])) (hx : xs.map st.val = [.ar i, .av j sz lo n]) (hij : i ≠ j) (hov : OverFn P g t)
    (h1 : st.look i = some (.arr T1 s1 r1)) (h2 : st.look j = some (.arr T2 s2 r2)) (p1 : 0 < r1.length) (p2 : 0 < r2.length) (hs : s2 ≠ 0) (hk : K (st.put dst (.d (.bool false)))) : ECall P st f xs dst K := by
  refine ECall.over ?_
  unfold eOver
  rw [hc, hx]
  simp only
  refine ⟨hij, ⟨t, hov⟩, ?_⟩
  rw [h1, h2]
  cases r1 with
  | nil => simp at p1
  | cons x1 y1 =>
    cases r2 with
    | nil => simp at p2
    | cons x2 y2 => exact ⟨hs, hk⟩
theorem draw_last2 {P : Program} (hmix : P.follows .mixedOrders = true) {id : Nat} {ops : List Oper} {st : St} {Q : DE → St → Prop} (hne : ops ≠ []) (hok : drawOk ops = true) (hcut : cutB ops (ops.length - 1) = true) (hg : (ops.getLast hne).guard = none)
    (hkeys : (st.own.map (·.1)).Nodup) (h : ddrawL P ops st.next (ops.getLast hne) ops.dropLast st (Q .normal)) : Triple P (.region id ops.toArray true) Q st := by
  obtain ⟨pre, o, rfl⟩ : ∃ pre o, ops = pre ++ [o] := ⟨ops.dropLast, ops.getLast hne, (List.dropLast_concat_getLast hne).symm⟩
  have hgl : (pre ++ [o]).getLast hne = o := by simp
  rw [hgl] at hg h
  rw [List.dropLast_concat] at h
  refine draw_last hmix hok ?_ hg hkeys h
  simpa using hcut
theorem take_mid {α : Type} (A X : List α) (b : α) : (A ++ b :: X).take (A.length + 1) = A ++ [b] := by
  rw [show A ++ b :: X = (A ++ [b]) ++ X by simp, List.take_left' (by simp)]
theorem drop_mid {α : Type} (A B X : List α) (b c : α) : (A ++ b :: (B ++ c :: X)).drop (A.length + 1 + (B.length + 1)) = X := by
  rw [show A ++ b :: (B ++ c :: X) = (A ++ b :: (B ++ [c])) ++ X by simp, List.drop_left' (by simp; omega)]
theorem drop_end {α : Type} (A X : List α) (b : α) (n : Nat) (h : X.length = n) : (A ++ b :: X).drop (A.length + 1 + n) = [] := by
  rw [List.drop_of_length_le (by simp; omega)]
def insertL {α : Type} (l : List α) (i : Nat) (x : α) : List α := l.take i ++ x :: l.drop i
set_option maxHeartbeats 1000000 in
theorem insertAt_ok (A B : List (List D)) (b0 r : List D) (hA : ∀ x ∈ A, x.length = 4) (hB : ∀ x ∈ B, x.length = 4) (h0 : b0.length = 4) (hr : r.length = 4) (hl : A.length + B.length < 2^40) :
    CallC Tryz.prog 43 [.ar 0, .d (int A.length), .ar 1] [(0, .arr 33 4 (A ++ b0 :: B)), (1, .arr 33 4 [r])] 2
      (.d (.sl (A ++ r :: b0 :: B))) 2 [] [0] := by
  refine callC_of_body_frz mixed Tryz.func43 rfl call_43 [0, 3] (by simp) ?_
  have e1 : ((A.length : Int) + ((B.length : Int) + 1) + 1 - (A.length : Int)) = (B.length : Int) + 2 := by omega
  have e2 : ¬ (A.length : Int) = (A.length : Int) + ((B.length : Int) + 1) := by omega
  have e3 : ¬ (A.length : Int) = (A.length : Int) + ((B.length : Int) + 2) := by omega
  simp (decide := true) [Tryz.f43, int, maxLen, I64, e2, -eCap]
  refine ⟨by omega, by omega, ?_⟩
  simp only [eCap, ti_22]
  simp (decide := true) [-dopsK_app]
  refine ⟨by omega, fun junk hj hjl => ?_⟩
  rcases junk with _ | ⟨j0, rest⟩
  · have f1 : 0 < A.length + (B.length + 1) := by omega
    have f2 : (A.length : Int) + ((B.length : Int) + 1) < (A.length : Int) + ((B.length : Int) + 1) + 1 := by omega
    have f3 : ¬ (A.length : Int) + ((B.length : Int) + 1) + 1 ≤ (A.length : Int) + ((B.length : Int) + 1) := by omega
    have f4 : max ((B.length : Int) + 2) 0 = (B.length : Int) + 2 := by omega
    have f5 : ((B.length : Int) + 2).toNat = B.length + 2 := by omega
    have f6 : min A.length (A.length + (B.length + 1)) = A.length := by omega
    simp (decide := true) [int, maxLen, I64, e1, e2, e3, hr, h0, f1, f2, f3, f4, f5, f6]
    refine ⟨by omega, by omega, by omega, by omega, by omega, by omega, by omega, by omega, ?_⟩
    refine draw_last2 mixed (by simp) (by rfl) (by rfl) (by rfl) (by simp) ?_
    have g1 : ((A.length : Int) + ((B.length : Int) + 2)).toNat - A.length = B.length + 2 := by omega
    have g2 : min (B.length + 2) 1 = 1 := by omega
    have g4 : ¬ (1 : Int) = (B.length : Int) + 1 + 1 := by omega
    have g5 : ((A.length : Int) + ((B.length : Int) + 1 + 1)).toNat - (A.length + 1) = B.length + 1 := by omega
    have g6 : ((A.length : Int) + ((B.length : Int) + 1)).toNat - A.length = B.length + 1 := by omega
    have g7 : (A.length : Int) + ((B.length : Int) + 1) ≤ (B.length : Int) + 1 + (A.length : Int) := by omega
    simp (decide := true) [int, maxLen, I64, e1, e2, e3, hr, h0, f1, f2, f3, f4, f5, f6, g1, g2, g4, g5, g6, g7]
    refine ⟨by omega, by omega, by omega, hB, by omega, ?_⟩
    rw [take_mid, drop_end _ _ _ _ (by simp)]
    simp
  · have f1 : 0 < A.length + (B.length + (rest.length + 1) + 1) := by omega
    have f2 : ¬ (rest.length : Int) + 1 < 1 := by omega
    have f3 : 1 ≤ (rest.length : Int) + 1 := by omega
    have f4 : max ((A.length : Int) + ((B.length : Int) + 1) + 1) 0 = ((A.length + B.length + 2 : Nat) : Int) := by omega
    have f5 : ((A.length : Int) + ((B.length : Int) + 1) + 1).toNat = A.length + B.length + 2 := by omega
    have f6 : 0 < B.length + (rest.length + 1) := by omega
    simp (decide := true) [int, maxLen, I64, e1, e2, e3, hr, h0, f1, f2, f3, f4, f5, f6]
    refine ⟨by omega, by omega, by omega, by omega, ?_⟩
    refine ECall.overL (by rfl) (by rfl) (by decide) over_D (by rfl) (by rfl) (by simp) (by simp; omega) (by decide) ?_
    simp (decide := true) [int, maxLen, I64, e1, e2, e3, hr, h0, f1, f2, f3, f4, f5, f6]
    refine draw_last2 mixed (by simp) (by rfl) (by rfl) (by rfl) (by simp) ?_
    have g1 : A.length + B.length + 2 - (A.length + 1) = B.length + 1 := by omega
    have g2 : A.length + B.length + 2 - A.length = B.length + 2 := by omega
    have g3 : (B ++ j0 :: rest).take (B.length + 1) = B ++ [j0] := by rw [show B ++ j0 :: rest = (B ++ [j0]) ++ rest by simp, List.take_left' (by simp)]
    have g4 : (A.length : Int) + 1 ≤ ((A.length + B.length + 2 : Nat) : Int) := by omega
    have k1 : (A.length : Int) + (B.length : Int) + 2 ≤ (B.length : Int) + ((rest.length : Int) + 1) + 1 + (A.length : Int) := by omega
    have k2 : ((A.length : Int) + (B.length : Int) + 2).toNat - A.length = B.length + 2 := by omega
    have k3 : ((A.length : Int) + (B.length : Int) + 2).toNat - (A.length + 1) = B.length + 1 := by omega
    simp (decide := true) [int, maxLen, I64, hr, h0, f4, f5, f6, g1, g2, g3, g4, k1, k2, k3, take_mid, drop_mid]
    refine ⟨by omega, by omega, by omega, fun a ha => ha.elim (hB a) (fun e => by rw [e]; exact hj j0 (by simp)), by omega, by omega, ?_⟩
    rw [if_pos]
    · rw [show A ++ r :: b0 :: (B ++ rest) = (A ++ r :: b0 :: B) ++ rest by simp, List.take_left' (by simp; omega)]
    · refine ⟨by omega, ?_⟩
      cases A with
      | nil => exact hr
      | cons a0 A' => exact hA a0 (by simp)
theorem insertEnd_ok (A : List (List D)) (r : List D) (hA : ∀ x ∈ A, x.length = 4) (hr : r.length = 4) (hl : A.length < 2^40) :
    CallC Tryz.prog 43 [.ar 0, .d (int A.length), .ar 1] [(0, .arr 33 4 A), (1, .arr 33 4 [r])] 2
      (.d (.sl (A ++ [r]))) 2 [] [0] := by
  refine callC_of_body_frz mixed Tryz.func43 rfl call_43 [0, 3] (by simp) ?_
  simp (decide := true) [Tryz.f43, int, maxLen, I64, hr]
  omega
theorem insertD_ok (l : List Dec) (d : Dec) (i : Nat) (hi : i ≤ l.length) (hl : l.length < 2^40) :
    CallC Tryz.prog 43 [.ar 0, .d (int i), .ar 1] [(0, .arr 33 4 (l.map Dec.row)), (1, .arr 33 4 [d.row])] 2
      (.d (.sl ((insertL l i d).map Dec.row))) 2 [] [0] := by
  have hrow : ∀ (m : List Dec), ∀ x ∈ m.map Dec.row, x.length = 4 := by
    intro m x hx
    obtain ⟨e, _, rfl⟩ := List.mem_map.1 hx
    rfl
  by_cases hin : i = l.length
  · subst hin
    have := insertEnd_ok (l.map Dec.row) d.row (hrow l) rfl (by simpa using hl)
    simp only [List.length_map] at this
    simpa [insertL] using this
  · have hlt : i < l.length := by omega
    have hd : l.drop i = l[i] :: l.drop (i + 1) := List.drop_eq_getElem_cons hlt
    have hl' : l = l.take i ++ l[i] :: l.drop (i + 1) := by rw [← hd, List.take_append_drop]
    have hti : ((l.take i).map Dec.row).length = i := by simp; omega
    have := insertAt_ok ((l.take i).map Dec.row) ((l.drop (i + 1)).map Dec.row) l[i].row d.row (hrow _) (hrow _) rfl rfl (by simp; omega)
    rw [hti] at this
    have e1 : (l.take i).map Dec.row ++ l[i].row :: (l.drop (i + 1)).map Dec.row = l.map Dec.row := by
      have := congrArg (List.map Dec.row) hl'
      rw [List.map_append, List.map_cons] at this
      exact this.symm
    have e2 : (l.take i).map Dec.row ++ d.row :: l[i].row :: (l.drop (i + 1)).map Dec.row = (insertL l i d).map Dec.row := by
      unfold insertL
      rw [hd, List.map_append, List.map_cons, List.map_cons]
    rw [e1, e2] at this
    exact this
end Go.V
