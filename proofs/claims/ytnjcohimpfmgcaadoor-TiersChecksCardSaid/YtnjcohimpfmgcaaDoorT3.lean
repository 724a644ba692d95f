/- Contracts: the first scalar at a place, by the reference of chapter 2. -/
import Derived.Test.YtnjcohimpfmgcaaDoorT2
set_option linter.unusedSimpArgs false
set_option linter.unusedVariables false
set_option maxRecDepth 10000
namespace Go.V
open Go Go.Proofs

theorem bytes_inj {a b : ByteArray} (h : a.toList = b.toList) : a = b := by
  rw [← MapKept.bytes_beq, beq_toListBytes, beq_iff_eq]; exact h
/-- The scalar as it grows, byte by byte. -/
def accR (s : ByteArray) (at_ p0 : Nat) : Nat → Nat
  | 0 => p0
  | k + 1 => accR s at_ p0 k * 64 + byteN s (at_ + (k + 1)) % 64
theorem accR_lt {s : ByteArray} {at_ p0 : Nat} (h : p0 < 256) : ∀ k, accR s at_ p0 k < 256 * 64 ^ k
  | 0 => by simpa [accR] using h
  | k + 1 => by
    have := accR_lt (s := s) (at_ := at_) h k
    simp only [accR, Nat.pow_succ]
    omega
def bytes4 (s : ByteArray) (at_ : Nat) : List Nat := [byteN s at_, byteN s (at_ + 1), byteN s (at_ + 2), byteN s (at_ + 3)]
theorem accR_fold (s : ByteArray) (at_ p0 : Nat) : ∀ n, n ≤ 4 → foldR p0 ([byteN s (at_ + 1), byteN s (at_ + 2), byteN s (at_ + 3)].take (n - 1)) = accR s at_ p0 (n - 1)
  | 0, _ => rfl
  | 1, _ => rfl
  | 2, _ => rfl
  | 3, _ => rfl
  | 4, _ => rfl
theorem toNat_inj_map : ∀ {a b : List UInt8}, a.map UInt8.toNat = b.map UInt8.toNat → a = b
  | [], [], _ => rfl
  | [], _ :: _, h => by simp at h
  | _ :: _, [], h => by simp at h
  | x :: a, y :: b, h => by
    simp only [List.map_cons, List.cons.injEq] at h
    rw [UInt8.toNat_inj.1 h.1, toNat_inj_map h.2]
theorem ext_bytes {s : ByteArray} {at_ n : Nat} (hn : n ≤ 4) (h : at_ + n ≤ s.size) : (s.extract at_ (at_ + n)).data.toList.map UInt8.toNat = (bytes4 s at_).take n := by
  have hsz : s.size = s.data.toList.length := by rw [Array.length_toList]; rfl
  have he : (s.extract at_ (at_ + n)).data.toList = (s.data.toList.drop at_).take n := by
    simp only [ByteArray.data_extract, Array.toList_extract, List.extract_eq_take_drop]
    congr 1; omega
  rw [he]
  apply List.ext_getElem?
  intro j
  rw [List.getElem?_map, List.getElem?_take, List.getElem?_take]
  by_cases hj : j < n
  · rw [if_pos hj, if_pos hj, List.getElem?_drop, List.getElem?_eq_getElem (by omega)]
    have hb : ∀ k, (hk : k < s.data.toList.length) → (s.data.toList[k]'hk).toNat = byteN s k := fun k hk => by simp [byteN, List.getD, List.getElem?_eq_getElem hk]
    have hj4 : j = 0 ∨ j = 1 ∨ j = 2 ∨ j = 3 := by omega
    rw [Option.map_some, hb]
    rcases hj4 with rfl | rfl | rfl | rfl <;> rfl
  · rw [if_neg hj, if_neg hj]; rfl
theorem encS_bytes (p : Nat) : (encS p).data.toList.map UInt8.toNat = (encR p).map (· % 256) := by
  simp only [encS, List.map_map]
  apply List.map_congr_left
  intro b _
  simp
theorem enc_eq {s : ByteArray} {at_ n p : Nat} (hn : n ≤ 4) (h : at_ + n ≤ s.size) : encS p = s.extract at_ (at_ + n) ↔ (encR p).map (· % 256) = (bytes4 s at_).take n := by
  rw [← encS_bytes, ← ext_bytes hn h]
  constructor
  · intro e; rw [e]
  · intro e
    have := toNat_inj_map e
    have e2 : (encS p).data = (s.extract at_ (at_ + n)).data := Array.ext' this
    cases hA : encS p; cases hB : s.extract at_ (at_ + n)
    rw [hA, hB] at e2
    simp only at e2; rw [e2]
def firstS (s : ByteArray) (at_ : Nat) : Option (Nat × Nat) := firstR (s.size - at_) (byteN s at_) (byteN s (at_ + 1)) (byteN s (at_ + 2)) (byteN s (at_ + 3))
def firstD' : Option (Nat × Nat) → D
  | none => .tup [int (-1), int 0]
  | some r => .tup [int r.1, int r.2]
theorem firstS_eq {s : ByteArray} {at_ p0 n : Nat} (hl : leadR (byteN s at_) = (p0, n)) (hn : n ≤ 4) : firstS s at_ = if s.size - at_ < n then none else if scalarR (accR s at_ p0 (n - 1)) ∧ (encR (accR s at_ p0 (n - 1))).map (· % 256) = (bytes4 s at_).take n then some (accR s at_ p0 (n - 1), n) else none := by
  unfold firstS firstR
  rw [hl]
  simp only
  rw [accR_fold s at_ p0 n hn]
  rfl
set_option maxHeartbeats 4000000 in
theorem first_ok (s : ByteArray) (at_ : Nat) (hat : at_ < s.size) (hs : s.size ≤ 1000000) : PureR Tryd.prog 50 [.str s, int at_] (firstD' (firstS s at_)) := by
  refine pure_of_body mixed Tryd.func50 rfl call_50 ?_
  have hb : byteN s at_ < 256 := UInt8.toNat_lt _
  have e0 := byteAt_nat s at_
  have w0 := wrap_byte s at_
  by_cases c4 : 240 ≤ byteN s at_
  · have q4 : (240 : Int) ≤ byteN s at_ := by omega
    have hl : leadR (byteN s at_) = (byteN s at_ - 240, 4) := by simp [leadR, c4]
    rw [firstS_eq hl (by omega)]
    by_cases hsz : s.size - at_ < 4
    · have g1 : (s.size : Int) < (at_ : Int) + 4 := by omega
      rw [if_pos hsz]
      have ep0 : (byteN s at_ : Int) - 240 = ((byteN s at_ - 240 : Nat) : Int) := by omega
      simp (decide := true) [Tryd.f50, int, hat, e0, w0, q4, g1, I64, eBytes, firstD', ep0]
      omega
    have g1 : ¬ (s.size : Int) < (at_ : Int) + 4 := by omega
    rw [if_neg hsz]
    have hp0 : byteN s at_ - 240 < 256 := by omega
    have ep0 : (byteN s at_ : Int) - 240 = ((byteN s at_ - 240 : Nat) : Int) := by omega
    simp (decide := true) [Tryd.f50, int, hat, e0, w0, q4, g1, I64, eBytes, ep0]
    refine ⟨by omega, ⟨by omega, by omega⟩, ?_⟩
    refine loop_rule mixed (fun j : Nat => { n := 65, next := 0, slots := [(0, .d (.str s)), (1, .d (int at_)), (6, .d (int (accR s at_ (byteN s at_ - 240) j))), (7, .d (int 4)), (8, .d (int (j + 1)))], own := [] })
      (fun j => j + 1 ≤ 4) (fun j => 4 - j) 0 (by simp) (by simp (decide := true) [int, accR]) ?_
    intro j hj
    have hac := accR_lt (s := s) (at_ := at_) hp0 j
    have hac2 : accR s at_ (byteN s at_ - 240) j < 2^30 := Nat.lt_of_lt_of_le hac (Nat.le_trans (Nat.mul_le_mul_left _ (Nat.pow_le_pow_right (by omega) (show j ≤ 3 by omega))) (by decide))
    by_cases hjn : j + 1 < 4
    · have k1 : (j : Int) + 1 < 4 := by omega
      have e1 : byteAt s ((at_ : Int) + ((j : Int) + 1)) = (byteN s (at_ + (j + 1)) : Int) := byteAt_nat s (at_ + (j + 1))
      have w1 := wrap_byte s (at_ + (j + 1))
      have t1 : (byteN s (at_ + (j + 1)) : Int).tmod 64 = ((byteN s (at_ + (j + 1)) % 64 : Nat) : Int) := rfl
      simp (decide := true) [int, k1, e1, w1, t1, I64, eBytes]
      exact ⟨by omega, by omega, ⟨by omega, by omega⟩, by omega, by omega, j + 1, by omega, by omega, by simp only [accR]; omega, by omega⟩
    · obtain rfl : j = 3 := by omega
      simp (decide := true) [int, I64, eBytes]
      generalize hq : accR s at_ (byteN s at_ - 240) 3 = q at hac2 ⊢
      refine scall_pure (by rfl) (by rfl) (scalar_ok q) (by simp) ?_
      by_cases hsc : scalarR q
      case neg => simp (decide := true) [hsc, int, firstD']
      simp (decide := true) [hsc, int]
      refine scall_pure (by rfl) (by rfl) (enc_ok q (by omega)) (by simp) ?_
      have z1 : ((at_ : Int) + 4).toNat = at_ + 4 := by omega
      have he := enc_eq (s := s) (at_ := at_) (n := 4) (p := q) (by omega) (by omega)
      by_cases hE : encS q = s.extract at_ (at_ + 4)
      · simp (decide := true) [hsc, int, z1, hE, he.1 hE, firstD', I64]
        omega
      · have hE2 : ¬ ((encR q).map (· % 256) = (bytes4 s at_).take 4) := fun h => hE (he.2 h)
        have hE3 : ¬ (encS q).toList = (s.extract at_ (at_ + 4)).toList := fun h => hE (bytes_inj h)
        simp (decide := true) [hsc, int, z1, hE2, hE3, firstD', I64]
        omega
  have q4 : ¬ (240 : Int) ≤ byteN s at_ := by omega
  by_cases c3 : 224 ≤ byteN s at_
  · have q3 : (224 : Int) ≤ byteN s at_ := by omega
    have hl : leadR (byteN s at_) = (byteN s at_ - 224, 3) := by simp [leadR, c4, c3]
    rw [firstS_eq hl (by omega)]
    by_cases hsz : s.size - at_ < 3
    · have g1 : (s.size : Int) < (at_ : Int) + 3 := by omega
      rw [if_pos hsz]
      have ep0 : (byteN s at_ : Int) - 224 = ((byteN s at_ - 224 : Nat) : Int) := by omega
      simp (decide := true) [Tryd.f50, int, hat, e0, w0, q4, q3, g1, I64, eBytes, firstD', ep0]
      omega
    have g1 : ¬ (s.size : Int) < (at_ : Int) + 3 := by omega
    rw [if_neg hsz]
    have hp0 : byteN s at_ - 224 < 256 := by omega
    have ep0 : (byteN s at_ : Int) - 224 = ((byteN s at_ - 224 : Nat) : Int) := by omega
    simp (decide := true) [Tryd.f50, int, hat, e0, w0, q4, q3, g1, I64, eBytes, ep0]
    refine ⟨by omega, ⟨by omega, by omega⟩, ?_⟩
    refine loop_rule mixed (fun j : Nat => { n := 65, next := 0, slots := [(0, .d (.str s)), (1, .d (int at_)), (6, .d (int (accR s at_ (byteN s at_ - 224) j))), (7, .d (int 3)), (8, .d (int (j + 1)))], own := [] })
      (fun j => j + 1 ≤ 3) (fun j => 3 - j) 0 (by simp) (by simp (decide := true) [int, accR]) ?_
    intro j hj
    have hac := accR_lt (s := s) (at_ := at_) hp0 j
    have hac2 : accR s at_ (byteN s at_ - 224) j < 2^30 := Nat.lt_of_lt_of_le hac (Nat.le_trans (Nat.mul_le_mul_left _ (Nat.pow_le_pow_right (by omega) (show j ≤ 3 by omega))) (by decide))
    by_cases hjn : j + 1 < 3
    · have k1 : (j : Int) + 1 < 3 := by omega
      have e1 : byteAt s ((at_ : Int) + ((j : Int) + 1)) = (byteN s (at_ + (j + 1)) : Int) := byteAt_nat s (at_ + (j + 1))
      have w1 := wrap_byte s (at_ + (j + 1))
      have t1 : (byteN s (at_ + (j + 1)) : Int).tmod 64 = ((byteN s (at_ + (j + 1)) % 64 : Nat) : Int) := rfl
      simp (decide := true) [int, k1, e1, w1, t1, I64, eBytes]
      exact ⟨by omega, by omega, ⟨by omega, by omega⟩, by omega, by omega, j + 1, by omega, by omega, by simp only [accR]; omega, by omega⟩
    · obtain rfl : j = 2 := by omega
      simp (decide := true) [int, I64, eBytes]
      generalize hq : accR s at_ (byteN s at_ - 224) 2 = q at hac2 ⊢
      refine scall_pure (by rfl) (by rfl) (scalar_ok q) (by simp) ?_
      by_cases hsc : scalarR q
      case neg => simp (decide := true) [hsc, int, firstD']
      simp (decide := true) [hsc, int]
      refine scall_pure (by rfl) (by rfl) (enc_ok q (by omega)) (by simp) ?_
      have z1 : ((at_ : Int) + 3).toNat = at_ + 3 := by omega
      have he := enc_eq (s := s) (at_ := at_) (n := 3) (p := q) (by omega) (by omega)
      by_cases hE : encS q = s.extract at_ (at_ + 3)
      · simp (decide := true) [hsc, int, z1, hE, he.1 hE, firstD', I64]
        omega
      · have hE2 : ¬ ((encR q).map (· % 256) = (bytes4 s at_).take 3) := fun h => hE (he.2 h)
        have hE3 : ¬ (encS q).toList = (s.extract at_ (at_ + 3)).toList := fun h => hE (bytes_inj h)
        simp (decide := true) [hsc, int, z1, hE2, hE3, firstD', I64]
        omega
  have q3 : ¬ (224 : Int) ≤ byteN s at_ := by omega
  by_cases c2 : 192 ≤ byteN s at_
  · have q2 : (192 : Int) ≤ byteN s at_ := by omega
    have hl : leadR (byteN s at_) = (byteN s at_ - 192, 2) := by simp [leadR, c4, c3, c2]
    rw [firstS_eq hl (by omega)]
    by_cases hsz : s.size - at_ < 2
    · have g1 : (s.size : Int) < (at_ : Int) + 2 := by omega
      rw [if_pos hsz]
      have ep0 : (byteN s at_ : Int) - 192 = ((byteN s at_ - 192 : Nat) : Int) := by omega
      simp (decide := true) [Tryd.f50, int, hat, e0, w0, q4, q3, q2, g1, I64, eBytes, firstD', ep0]
      omega
    have g1 : ¬ (s.size : Int) < (at_ : Int) + 2 := by omega
    rw [if_neg hsz]
    have hp0 : byteN s at_ - 192 < 256 := by omega
    have ep0 : (byteN s at_ : Int) - 192 = ((byteN s at_ - 192 : Nat) : Int) := by omega
    simp (decide := true) [Tryd.f50, int, hat, e0, w0, q4, q3, q2, g1, I64, eBytes, ep0]
    refine ⟨by omega, ⟨by omega, by omega⟩, ?_⟩
    refine loop_rule mixed (fun j : Nat => { n := 65, next := 0, slots := [(0, .d (.str s)), (1, .d (int at_)), (6, .d (int (accR s at_ (byteN s at_ - 192) j))), (7, .d (int 2)), (8, .d (int (j + 1)))], own := [] })
      (fun j => j + 1 ≤ 2) (fun j => 2 - j) 0 (by simp) (by simp (decide := true) [int, accR]) ?_
    intro j hj
    have hac := accR_lt (s := s) (at_ := at_) hp0 j
    have hac2 : accR s at_ (byteN s at_ - 192) j < 2^30 := Nat.lt_of_lt_of_le hac (Nat.le_trans (Nat.mul_le_mul_left _ (Nat.pow_le_pow_right (by omega) (show j ≤ 3 by omega))) (by decide))
    by_cases hjn : j + 1 < 2
    · have k1 : (j : Int) + 1 < 2 := by omega
      have e1 : byteAt s ((at_ : Int) + ((j : Int) + 1)) = (byteN s (at_ + (j + 1)) : Int) := byteAt_nat s (at_ + (j + 1))
      have w1 := wrap_byte s (at_ + (j + 1))
      have t1 : (byteN s (at_ + (j + 1)) : Int).tmod 64 = ((byteN s (at_ + (j + 1)) % 64 : Nat) : Int) := rfl
      simp (decide := true) [int, k1, e1, w1, t1, I64, eBytes]
      exact ⟨by omega, by omega, ⟨by omega, by omega⟩, by omega, by omega, j + 1, by omega, by omega, by simp only [accR]; omega, by omega⟩
    · obtain rfl : j = 1 := by omega
      simp (decide := true) [int, I64, eBytes]
      generalize hq : accR s at_ (byteN s at_ - 192) 1 = q at hac2 ⊢
      refine scall_pure (by rfl) (by rfl) (scalar_ok q) (by simp) ?_
      by_cases hsc : scalarR q
      case neg => simp (decide := true) [hsc, int, firstD']
      simp (decide := true) [hsc, int]
      refine scall_pure (by rfl) (by rfl) (enc_ok q (by omega)) (by simp) ?_
      have z1 : ((at_ : Int) + 2).toNat = at_ + 2 := by omega
      have he := enc_eq (s := s) (at_ := at_) (n := 2) (p := q) (by omega) (by omega)
      by_cases hE : encS q = s.extract at_ (at_ + 2)
      · simp (decide := true) [hsc, int, z1, hE, he.1 hE, firstD', I64]
        omega
      · have hE2 : ¬ ((encR q).map (· % 256) = (bytes4 s at_).take 2) := fun h => hE (he.2 h)
        have hE3 : ¬ (encS q).toList = (s.extract at_ (at_ + 2)).toList := fun h => hE (bytes_inj h)
        simp (decide := true) [hsc, int, z1, hE2, hE3, firstD', I64]
        omega
  have q2 : ¬ (192 : Int) ≤ byteN s at_ := by omega
  have hl : leadR (byteN s at_) = (byteN s at_, 1) := by simp [leadR, c4, c3, c2]
  rw [firstS_eq hl (by omega)]
  by_cases hsz : s.size - at_ < 1
  · omega
  have g1 : ¬ (s.size : Int) < (at_ : Int) + 1 := by omega
  rw [if_neg hsz]
  have hp0 : byteN s at_ < 256 := by omega
  simp (decide := true) [Tryd.f50, int, hat, e0, w0, q4, q3, q2, g1, I64, eBytes]
  refine ⟨⟨by omega, by omega⟩, ?_⟩
  refine loop_rule mixed (fun j : Nat => { n := 65, next := 0, slots := [(0, .d (.str s)), (1, .d (int at_)), (6, .d (int (accR s at_ (byteN s at_) j))), (7, .d (int 1)), (8, .d (int (j + 1)))], own := [] })
    (fun j => j + 1 ≤ 1) (fun j => 1 - j) 0 (by simp) (by simp (decide := true) [int, accR]) ?_
  intro j hj
  have hac := accR_lt (s := s) (at_ := at_) hp0 j
  have hac2 : accR s at_ (byteN s at_) j < 2^30 := Nat.lt_of_lt_of_le hac (Nat.le_trans (Nat.mul_le_mul_left _ (Nat.pow_le_pow_right (by omega) (show j ≤ 3 by omega))) (by decide))
  by_cases hjn : j + 1 < 1
  · omega
  · obtain rfl : j = 0 := by omega
    simp (decide := true) [int, I64, eBytes]
    generalize hq : accR s at_ (byteN s at_) 0 = q at hac2 ⊢
    refine scall_pure (by rfl) (by rfl) (scalar_ok q) (by simp) ?_
    by_cases hsc : scalarR q
    case neg => simp (decide := true) [hsc, int, firstD']
    simp (decide := true) [hsc, int]
    refine scall_pure (by rfl) (by rfl) (enc_ok q (by omega)) (by simp) ?_
    have z1 : ((at_ : Int) + 1).toNat = at_ + 1 := by omega
    have he := enc_eq (s := s) (at_ := at_) (n := 1) (p := q) (by omega) (by omega)
    by_cases hE : encS q = s.extract at_ (at_ + 1)
    · simp (decide := true) [hsc, int, z1, hE, he.1 hE, firstD', I64]
      omega
    · have hE2 : ¬ ((encR q).map (· % 256) = (bytes4 s at_).take 1) := fun h => hE (he.2 h)
      have hE3 : ¬ (encS q).toList = (s.extract at_ (at_ + 1)).toList := fun h => hE (bytes_inj h)
      simp (decide := true) [hsc, int, z1, hE2, hE3, firstD', I64]
      omega
end Go.V
