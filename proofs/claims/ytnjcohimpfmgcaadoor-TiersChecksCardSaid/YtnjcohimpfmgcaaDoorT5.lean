/- Contracts: the reference's points and text; the law on texts. -/
import Derived.Test.YtnjcohimpfmgcaaDoorT4
import Derived.Test.YtnjcohimpfmgcaaDoorK1
set_option linter.unusedSimpArgs false
set_option linter.unusedVariables false
set_option maxRecDepth 10000
namespace Go.V
open Go Go.Proofs

def ptsD : Option (List Int) → D
  | none => .tup [.sl [], .bool false]
  | some l => .tup [ints l, .bool true]
def ptsS (s : ByteArray) (x : List Int × Nat × Nat) : St :=
  { n := 28, next := 2, slots := [(0, .d (.str s)), (4, .ar 1), (5, .d (int x.2.1))], own := [(1, .arr 3 1 (x.1.map fun n => [.int .i64 n]))], moved := [1] }
theorem pts_len (s : ByteArray) : ∀ (m pos : Nat) (l : List Int), ptsGo s m pos = some l → l.length ≤ m
  | 0, pos, l, h => by simp [ptsGo] at h; subst h; simp
  | m + 1, pos, l, h => by
    simp only [ptsGo] at h
    split at h
    · split at h
      · cases h
      · rw [Option.map_eq_some_iff] at h
        obtain ⟨l', h', rfl⟩ := h
        have := pts_len s m _ l' h'
        simp; omega
    · cases h; simp
set_option maxHeartbeats 1000000 in
theorem refPoints_ok (s : ByteArray) (hs : s.size ≤ 1000000) : PureR Tryd.prog 32 [.str s] (ptsD (ptsGo s s.size 0)) := by
  refine pure_of_body_frz mixed Tryd.func32 rfl call_32 [1, 2] ?_
  simp (decide := true) [Tryd.f32]
  refine loop_rule mixed (ptsS s) (fun x => x.2.1 ≤ s.size ∧ s.size ≤ x.2.1 + x.2.2 ∧ x.1.length ≤ x.2.1 ∧ ptsGo s s.size 0 = (ptsGo s x.2.2 x.2.1).map (x.1 ++ ·)) (fun x => x.2.2) ([], 0, s.size)
    ⟨by simp, by simp, by simp, by simp⟩ (by simp (decide := true) [ptsS, int]) ?_
  rintro ⟨acc, pos, m⟩ ⟨h1, h2, h3, h4⟩
  simp only at h1 h2 h3 h4
  by_cases hlt : pos < s.size
  · have hlt' : (pos : Int) < s.size := by omega
    obtain ⟨m, rfl⟩ : ∃ k, m = k + 1 := ⟨m - 1, by omega⟩
    simp only [ptsGo, if_pos hlt] at h4
    have hg := firstS_good hlt
    have hf0 := first_ok s pos hlt hs
    simp (decide := true) [ptsS, int, hlt']
    refine ECall.pure (by rfl) hf0 (by simp) ?_
    cases hf : firstS s pos with
    | none =>
      rw [hf] at h4
      simp (decide := true) [firstD', int, ptsD, h4]
    | some r =>
      rw [hf] at h4 hg
      simp only at h4 hg
      obtain ⟨_, _, g3, g4⟩ := hg
      have e1 : ¬ r.2 = 0 := by omega
      simp (decide := true) [firstD', int, e1, I64]
      refine ⟨by omega, by unfold maxLen; omega, ⟨by omega, by omega⟩, acc ++ [(r.1 : Int)], pos + r.2, m, ⟨by omega, by omega, by simp; omega, by rw [h4]; cases ptsGo s m (pos + r.2) <;> simp⟩, by omega, ?_⟩
      simp (decide := true) [ptsS, int]
  · have hlt' : ¬ (pos : Int) < s.size := by omega
    have hm : ptsGo s m pos = some [] := by cases m <;> simp [ptsGo, hlt]
    rw [hm] at h4
    simp (decide := true) [ptsS, int, hlt', h4, ptsD, ints]
theorem refText_ok (s : ByteArray) : PureR Tryd.prog 14 [.str s] (int (textE s)) := by
  refine pure_of_body mixed Tryd.func14 rfl call_14 ?_
  rw [textE_eq]
  by_cases h0 : 200 < s.size
  · have h0' : (200 : Int) < s.size := by omega
    simp (decide := true) [Tryd.f14, h0', h0, int]
  have h0' : ¬ (200 : Int) < s.size := by omega
  simp (decide := true) [Tryd.f14, h0', h0, int]
  refine ECall.pure (by rfl) (refPoints_ok s (by omega)) (by simp) ?_
  cases hp : ptsGo s s.size 0 with
  | none => simp (decide := true) [ptsD, int]
  | some l =>
    have hll : l.length ≤ s.size := pts_len s _ _ _ hp
    simp (decide := true) [ptsD, ints, int]
    refine loop_rule mixed (fun k : Nat => { n := 34, next := 0, slots := [(3, .d (ints l)), (5, .d (int k))], own := [] })
      (fun k => k ≤ l.length ∧ ∀ x ∈ l.take k, badI x = false) (fun k => l.length - k) 0 (by simp) (by simp (decide := true) [int, ints]) ?_
    intro k ⟨hk, hq⟩
    by_cases hlt : k < l.length
    · have e1 : l[k]? = some l[k] := List.getElem?_eq_getElem hlt
      have hbad : badI l[k] = true → l.any badI = true := fun hb => List.any_eq_true.2 ⟨l[k], List.getElem_mem hlt, hb⟩
      by_cases b1 : l[k] < 32
      · have hb := hbad (by simp [badI, b1])
        simp (decide := true) [ints, int, e1, hlt, b1]
        exact List.any_eq_true.1 hb
      · by_cases b2 : l[k] = 127
        · have hb := hbad (by simp [badI, b2])
          simp (decide := true) [ints, int, e1, hlt, b1, b2]
          exact List.any_eq_true.1 hb
        · simp (decide := true) [ints, int, e1, hlt, b1, b2, I64]
          refine ⟨by omega, k + 1, ⟨hlt, ?_⟩, by omega, by omega⟩
          rw [List.take_succ_eq_append_getElem hlt]
          intro x hx
          rcases List.mem_append.1 hx with hx | hx
          · exact hq x hx
          · simp at hx; rw [hx]; simp [badI, b1, b2]
    · have : k = l.length := by omega
      subst this
      rw [List.take_length] at hq
      have hb : l.any badI = false := by rw [List.any_eq_false]; intro x hx; simp [hq x hx]
      simp (decide := true) [ints, int]
      exact hq
theorem law_texts (s : ByteArray) : PureR Tryd.prog 3 [.str s] (.bool true) := by
  refine pure_of_body mixed Tryd.func3 rfl call_3 ?_
  simp (decide := true) [Tryd.f3]
  refine ECall.pure (by rfl) (text_ok s) (by simp) ?_
  simp (decide := true)
  refine ECall.pure (by rfl) (refText_ok s) (by simp) ?_
  simp (decide := true) [int]
  refine ECall.pure (by rfl) awake12_R (by simp) ?_
  simp
end Go.V
