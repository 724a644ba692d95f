/- The text of a note: the program and the reference agree, whatever the string. -/
import Derived.Test.YtnjcohimpfmgcaaDoorT3
set_option linter.unusedSimpArgs false
set_option linter.unusedVariables false
set_option maxRecDepth 10000
namespace Go.V
open Go Go.Proofs Go.Lib

/-- The scalars from a place on. -/
def ptsGo (s : ByteArray) : Nat → Nat → Option (List Int)
  | 0, _ => some []
  | n + 1, pos => if pos < s.size then (match firstS s pos with
    | none => none
    | some r => (ptsGo s n (pos + r.2)).map ((r.1 : Int) :: ·)) else some []
theorem firstS_good {s : ByteArray} {pos : Nat} (h : pos < s.size) : match firstS s pos with
    | none => decodeN (s.size - pos) (byteN s pos) (byteN s (pos + 1)) (byteN s (pos + 2)) (byteN s (pos + 3)) = (65533, 1)
    | some r => decodeN (s.size - pos) (byteN s pos) (byteN s (pos + 1)) (byteN s (pos + 2)) (byteN s (pos + 3)) = r ∧ ¬ (r.1 = 65533 ∧ r.2 = 1) ∧ r.2 ≤ s.size - pos ∧ 1 ≤ r.2 :=
  firstR_decode _ _ _ _ _ (by omega) (UInt8.toNat_lt _) (UInt8.toNat_lt _) (UInt8.toNat_lt _) (UInt8.toNat_lt _)
theorem valid_at {s : ByteArray} {pos : Nat} (h : pos < s.size) : validD (s.data.toList.drop pos) = match firstS s pos with
    | none => false
    | some r => validD (s.data.toList.drop (pos + r.2)) := by
  have hsz : s.size = s.data.toList.length := by rw [Array.length_toList]; rfl
  have hne : s.data.toList.drop pos ≠ [] := by
    intro e; have := congrArg List.length e; rw [List.length_drop] at this; simp at this; omega
  have hd : decodeL (s.data.toList.drop pos) = decodeN (s.size - pos) (byteN s pos) (byteN s (pos + 1)) (byteN s (pos + 2)) (byteN s (pos + 3)) := by
    rw [decodeL_N, List.length_drop, ← hsz, getD_dropU, getD_dropU, getD_dropU, getD_dropU]; rfl
  rw [validD_step _ hne, hd]
  have hg := firstS_good h
  cases hf : firstS s pos with
  | none => rw [hf] at hg; simp only at hg; rw [hg]; simp
  | some r =>
    rw [hf] at hg; simp only at hg
    obtain ⟨h1, h2, _, _⟩ := hg
    rw [h1, if_neg h2, List.drop_drop]
def badI (p : Int) : Bool := decide (p < 32) || decide (p = 127)
set_option maxHeartbeats 1000000 in
theorem decodeN_bytes (n b0 b1 b2 b3 : Nat) (h0 : b0 < 256) (h1 : b1 < 256) (h2 : b2 < 256) (h3 : b3 < 256) (hb : ¬ ((decodeN n b0 b1 b2 b3).1 = 65533 ∧ (decodeN n b0 b1 b2 b3).2 = 1)) :
    (decodeN n b0 b1 b2 b3 = (b0, 1)) ∨ (128 ≤ (decodeN n b0 b1 b2 b3).1 ∧ 128 ≤ b0 ∧ (1 < (decodeN n b0 b1 b2 b3).2 → 128 ≤ b1) ∧ (2 < (decodeN n b0 b1 b2 b3).2 → 128 ≤ b2) ∧ (3 < (decodeN n b0 b1 b2 b3).2 → 128 ≤ b3) ∧ (decodeN n b0 b1 b2 b3).2 ≤ 4) := by
  revert hb
  unfold decodeN
  repeat' split
  all_goals intro hb
  all_goals first | (left; rfl) | (exfalso; exact hb ⟨rfl, rfl⟩) | (right; simp only; refine ⟨by omega, by omega, fun _ => by omega, fun _ => by omega, fun _ => by omega, by omega⟩)
theorem bad_step {s : ByteArray} {pos : Nat} (h : pos < s.size) {r : Nat × Nat} (hf : firstS s pos = some r) :
    badI (r.1 : Int) = true ↔ ∃ j, pos ≤ j ∧ j < pos + r.2 ∧ badByte (byteN s j) = true := by
  have hg := firstS_good h
  rw [hf] at hg
  simp only at hg
  obtain ⟨h1, h2, h3, h4⟩ := hg
  have hk := decodeN_bytes (s.size - pos) (byteN s pos) (byteN s (pos + 1)) (byteN s (pos + 2)) (byteN s (pos + 3)) (UInt8.toNat_lt _) (UInt8.toNat_lt _) (UInt8.toNat_lt _) (UInt8.toNat_lt _) (by rw [h1]; exact h2)
  rw [h1] at hk
  rcases hk with hk | ⟨g1, g2, g3, g4, g5, g6⟩
  · rw [hk]
    simp only [badI, badByte, Bool.or_eq_true, decide_eq_true_eq]
    constructor
    · intro hb; exact ⟨pos, by omega, by omega, by omega⟩
    · rintro ⟨j, a, b, c⟩
      obtain rfl : j = pos := by omega
      omega
  · simp only [badI, badByte, Bool.or_eq_true, decide_eq_true_eq]
    constructor
    · intro hb; omega
    · rintro ⟨j, a, b, c⟩
      exfalso
      have hj : j = pos ∨ j = pos + 1 ∨ j = pos + 2 ∨ j = pos + 3 := by omega
      rcases hj with rfl | rfl | rfl | rfl
      · omega
      · have := g3 (by omega); omega
      · have := g4 (by omega); omega
      · have := g5 (by omega); omega
theorem pts_valid (s : ByteArray) : ∀ (m pos : Nat), s.size ≤ pos + m → pos ≤ s.size → validD (s.data.toList.drop pos) = (ptsGo s m pos).isSome ∧
    ∀ l, ptsGo s m pos = some l → (l.any badI = true ↔ ∃ j, pos ≤ j ∧ j < s.size ∧ badByte (byteN s j) = true)
  | 0, pos, hm, hp => by
    have hsz : s.size = s.data.toList.length := by rw [Array.length_toList]; rfl
    rw [List.drop_eq_nil_of_le (by omega), validD_nil]
    refine ⟨rfl, fun l hl => ?_⟩
    simp only [ptsGo, Option.some.injEq] at hl
    subst hl
    simp only [List.any_nil, Bool.false_eq_true, false_iff]
    rintro ⟨j, _, _, _⟩; omega
  | m + 1, pos, hm, hp => by
    have hsz : s.size = s.data.toList.length := by rw [Array.length_toList]; rfl
    by_cases h : pos < s.size
    · rw [valid_at h]
      simp only [ptsGo, if_pos h]
      have hg := firstS_good h
      cases hf : firstS s pos with
      | none => exact ⟨rfl, fun l hl => by cases hl⟩
      | some r =>
        rw [hf] at hg
        simp only at hg
        obtain ⟨i1, i2⟩ := pts_valid s m (pos + r.2) (by omega) (by omega)
        simp only
        refine ⟨by rw [i1]; cases ptsGo s m (pos + r.2) <;> rfl, fun l hl => ?_⟩
        rw [Option.map_eq_some_iff] at hl
        obtain ⟨l', hl', rfl⟩ := hl
        rw [List.any_cons, Bool.or_eq_true, i2 l' hl', bad_step h hf]
        constructor
        · rintro (⟨j, a, b, c⟩ | ⟨j, a, b, c⟩)
          · exact ⟨j, by omega, by omega, c⟩
          · exact ⟨j, by omega, b, c⟩
        · rintro ⟨j, a, b, c⟩
          rcases Nat.lt_or_ge j (pos + r.2) with hj | hj
          · exact .inl ⟨j, a, hj, c⟩
          · exact .inr ⟨j, hj, b, c⟩
    · rw [List.drop_eq_nil_of_le (by omega), validD_nil]
      simp only [ptsGo, if_neg h]
      refine ⟨rfl, fun l hl => ?_⟩
      simp only [Option.some.injEq] at hl
      subst hl
      simp only [List.any_nil, Bool.false_eq_true, false_iff]
      rintro ⟨j, _, _, _⟩; omega
theorem textE_eq (s : ByteArray) : textE s = if 200 < s.size then 5 else match ptsGo s s.size 0 with
    | none => 3
    | some l => if l.any badI = true then 3 else 0 := by
  unfold textE
  split
  · rfl
  · obtain ⟨h1, h2⟩ := pts_valid s s.size 0 (by omega) (by omega)
    rw [List.drop_zero] at h1
    have hv : validB s = (ptsGo s s.size 0).isSome := h1
    rw [hv]
    cases hp : ptsGo s s.size 0 with
    | none => rfl
    | some l =>
      simp only [Option.isSome_some, if_true]
      have := h2 l hp
      have hb : badText s = true ↔ l.any badI = true := by
        rw [this]
        unfold badText
        rw [List.any_eq_true]
        constructor
        · rintro ⟨j, hj, hb⟩; exact ⟨j, by omega, by simpa using hj, hb⟩
        · rintro ⟨j, _, hj, hb⟩; exact ⟨j, by simpa using hj, hb⟩
      by_cases h : l.any badI = true
      · rw [if_pos h, if_pos (hb.2 h)]
      · rw [if_neg h, if_neg (fun h' => h (hb.1 h'))]
end Go.V
