/- Contracts of chapter 2: the scalars of a string, by the reference. -/
import Derived.Test.YtgglheknmlfghaaGreatG17
import Derived.Test.YtgglheknmlfghaaGreatU0
set_option linter.unusedSimpArgs false
set_option linter.unusedVariables false
set_option maxRecDepth 10000
namespace Go.V
open Go Go.Proofs Go.Lib

def byteN (s : ByteArray) (k : Nat) : Nat := (s.data.toList.getD k 0).toNat
theorem byteAt_nat (s : ByteArray) (k : Nat) : byteAt s (k : Int) = (byteN s k : Int) := by simp [byteAt, byteN]

theorem wrap_u8 (n : Int) : IntKind.wrap .u8 n = n % 256 := by
  simp [IntKind.wrap, IntKind.bits, IntKind.signed]
theorem u8_of {n : Int} {m : Nat} (h : n = (m : Int)) : UInt8.ofNat (IntKind.wrap .u8 n).toNat = UInt8.ofNat m := by
  subst h
  apply UInt8.toNat_inj.1
  rw [wrap_u8]
  simp only [UInt8.toNat_ofNat']
  omega
theorem wrap_i64 {n : Int} (h : I64 n) : IntKind.wrap .i64 n = n := by
  obtain ⟨h1, h2⟩ := h
  simp [IntKind.wrap, IntKind.bits, IntKind.signed]
  split <;> omega
theorem wrap_byte (s : ByteArray) (k : Nat) : IntKind.wrap .i64 (byteN s k : Int) = (byteN s k : Int) := by
  have : byteN s k < 256 := UInt8.toNat_lt _
  exact wrap_i64 ⟨by omega, by omega⟩
theorem scalar_ok (p : Nat) : PureR Tryz.prog 182 [int p] (.bool (decide (scalarR p))) := by
  refine pure_of_body mixed Tryz.func182 rfl call_182 ?_
  by_cases h1 : (p : Int) ≤ 1114111
  · by_cases h2 : (p : Int) < 55296
    · have : scalarR p := ⟨by omega, by omega⟩
      simp (decide := true) [Tryz.f182, int, h1, h2, this]
    · have h3 : scalarR p ↔ (57343 : Int) < p := ⟨fun h => by have := h.2; omega, fun h => ⟨by omega, by omega⟩⟩
      simp (decide := true) [Tryz.f182, int, h1, h2, h3]
  · have : ¬ scalarR p := fun h => h1 (by have := h.1; omega)
    simp (decide := true) [Tryz.f182, int, h1, this]
/-- The string of a scalar. -/
def encS (p : Nat) : ByteArray := ⟨((encR p).map UInt8.ofNat).toArray⟩
theorem enc_ok (p : Nat) (hp : p < 2^40) : PureR Tryz.prog 183 [int p] (.str (encS p)) := by
  refine pure_of_body mixed Tryz.func183 rfl call_183 ?_
  have t1 : (p : Int).tmod 64 = ((p % 64 : Nat) : Int) := rfl
  have t2 : ((p : Int) / 64).tmod 64 = ((p / 64 % 64 : Nat) : Int) := by rw [show (p : Int) / 64 = ((p / 64 : Nat) : Int) by omega]; rfl
  have t3 : ((p : Int) / 4096).tmod 64 = ((p / 4096 % 64 : Nat) : Int) := by rw [show (p : Int) / 4096 = ((p / 4096 : Nat) : Int) by omega]; rfl
  by_cases h1 : p < 128
  · have h1' : (p : Int) < 128 := by omega
    simp (decide := true) [Tryz.f183, int, h1', t1, t2, t3, eBytes, bytesOf]
    rw [u8_of (m := p) (by omega)]
    simp [encS, encR, h1]
  have h1' : ¬ (p : Int) < 128 := by omega
  by_cases h2 : p < 2048
  · have h2' : (p : Int) < 2048 := by omega
    simp (decide := true) [Tryz.f183, int, h1', h2', t1, t2, t3, eBytes, bytesOf, I64]
    rw [u8_of (m := 192 + p / 64) (by omega), u8_of (m := 128 + p % 64) (by omega)]
    refine ⟨by omega, by omega, by omega, ?_⟩
    simp [encS, encR, h1, h2]
  have h2' : ¬ (p : Int) < 2048 := by omega
  by_cases h3 : p < 65536
  · have h3' : (p : Int) < 65536 := by omega
    simp (decide := true) [Tryz.f183, int, h1', h2', h3', t1, t2, t3, eBytes, bytesOf, I64]
    rw [u8_of (m := 224 + p / 4096) (by omega), u8_of (m := 128 + p / 64 % 64) (by omega), u8_of (m := 128 + p % 64) (by omega)]
    refine ⟨by omega, by omega, by omega, by omega, by omega, ?_⟩
    simp [encS, encR, h1, h2, h3]
  have h3' : ¬ (p : Int) < 65536 := by omega
  simp (decide := true) [Tryz.f183, int, h1', h2', h3', t1, t2, t3, eBytes, bytesOf, I64]
  rw [u8_of (m := 240 + p / 262144) (by omega), u8_of (m := 128 + p / 4096 % 64) (by omega), u8_of (m := 128 + p / 64 % 64) (by omega), u8_of (m := 128 + p % 64) (by omega)]
  refine ⟨by omega, by omega, by omega, by omega, by omega, by omega, by omega, ?_⟩
  simp [encS, encR, h1, h2, h3]

theorem bytes_inj {a b : ByteArray} (h : a.toList = b.toList) : a = b := by
  rw [← MapKept.bytes_beq, beq_toListBytes, beq_iff_eq]; exact h
/-- The scalar as it grows, byte by byte. -/
def accR (s : ByteArray) (at_ p0 : Nat) : Nat → Nat
  | 0 => p0
  | k + 1 => accR s at_ p0 k * 64 + byteN s (at_ + (k + 1)) % 64
theorem accR_lt {s : ByteArray} {at_ p0 : Nat} (h : p0 < 256) : ∀ k, accR s at_ p0 k < 256 * 64 ^ k
  | 0 => by simpa [accR] using h
  | k + 1 => by
    have := accR_lt (s := s) (at_ := at_) h k
    simp only [accR, Nat.pow_succ]
    omega
def bytes4 (s : ByteArray) (at_ : Nat) : List Nat := [byteN s at_, byteN s (at_ + 1), byteN s (at_ + 2), byteN s (at_ + 3)]
theorem accR_fold (s : ByteArray) (at_ p0 : Nat) : ∀ n, n ≤ 4 → foldR p0 ([byteN s (at_ + 1), byteN s (at_ + 2), byteN s (at_ + 3)].take (n - 1)) = accR s at_ p0 (n - 1)
  | 0, _ => rfl
  | 1, _ => rfl
  | 2, _ => rfl
  | 3, _ => rfl
  | 4, _ => rfl
theorem toNat_inj_map : ∀ {a b : List UInt8}, a.map UInt8.toNat = b.map UInt8.toNat → a = b
  | [], [], _ => rfl
  | [], _ :: _, h => by simp at h
  | _ :: _, [], h => by simp at h
  | x :: a, y :: b, h => by
    simp only [List.map_cons, List.cons.injEq] at h
    rw [UInt8.toNat_inj.1 h.1, toNat_inj_map h.2]
theorem ext_bytes {s : ByteArray} {at_ n : Nat} (hn : n ≤ 4) (h : at_ + n ≤ s.size) : (s.extract at_ (at_ + n)).data.toList.map UInt8.toNat = (bytes4 s at_).take n := by
  have hsz : s.size = s.data.toList.length := by rw [Array.length_toList]; rfl
  have he : (s.extract at_ (at_ + n)).data.toList = (s.data.toList.drop at_).take n := by
    simp only [ByteArray.data_extract, Array.toList_extract, List.extract_eq_take_drop]
    congr 1; omega
  rw [he]
  apply List.ext_getElem?
  intro j
  rw [List.getElem?_map, List.getElem?_take, List.getElem?_take]
  by_cases hj : j < n
  · rw [if_pos hj, if_pos hj, List.getElem?_drop, List.getElem?_eq_getElem (by omega)]
    have hb : ∀ k, (hk : k < s.data.toList.length) → (s.data.toList[k]'hk).toNat = byteN s k := fun k hk => by simp [byteN, List.getD, List.getElem?_eq_getElem hk]
    have hj4 : j = 0 ∨ j = 1 ∨ j = 2 ∨ j = 3 := by omega
    rw [Option.map_some, hb]
    rcases hj4 with rfl | rfl | rfl | rfl <;> rfl
  · rw [if_neg hj, if_neg hj]; rfl
theorem encS_bytes (p : Nat) : (encS p).data.toList.map UInt8.toNat = (encR p).map (· % 256) := by
  simp only [encS, List.map_map]
  apply List.map_congr_left
  intro b _
  simp
theorem enc_eq {s : ByteArray} {at_ n p : Nat} (hn : n ≤ 4) (h : at_ + n ≤ s.size) : encS p = s.extract at_ (at_ + n) ↔ (encR p).map (· % 256) = (bytes4 s at_).take n := by
  rw [← encS_bytes, ← ext_bytes hn h]
  constructor
  · intro e; rw [e]
  · intro e
    have := toNat_inj_map e
    have e2 : (encS p).data = (s.extract at_ (at_ + n)).data := Array.ext' this
    cases hA : encS p; cases hB : s.extract at_ (at_ + n)
    rw [hA, hB] at e2
    simp only at e2; rw [e2]
def firstS (s : ByteArray) (at_ : Nat) : Option (Nat × Nat) := firstR (s.size - at_) (byteN s at_) (byteN s (at_ + 1)) (byteN s (at_ + 2)) (byteN s (at_ + 3))
def firstD' : Option (Nat × Nat) → D
  | none => .tup [int (-1), int 0]
  | some r => .tup [int r.1, int r.2]
theorem firstS_eq {s : ByteArray} {at_ p0 n : Nat} (hl : leadR (byteN s at_) = (p0, n)) (hn : n ≤ 4) : firstS s at_ = if s.size - at_ < n then none else if scalarR (accR s at_ p0 (n - 1)) ∧ (encR (accR s at_ p0 (n - 1))).map (· % 256) = (bytes4 s at_).take n then some (accR s at_ p0 (n - 1), n) else none := by
  unfold firstS firstR
  rw [hl]
  simp only
  rw [accR_fold s at_ p0 n hn]
  rfl
set_option maxHeartbeats 4000000 in
theorem first_ok (s : ByteArray) (at_ : Nat) (hat : at_ < s.size) (hs : s.size ≤ 1048576) : PureR Tryz.prog 171 [.str s, int at_] (firstD' (firstS s at_)) := by
  refine pure_of_body mixed Tryz.func171 rfl call_171 ?_
  have hb : byteN s at_ < 256 := UInt8.toNat_lt _
  have e0 := byteAt_nat s at_
  have w0 := wrap_byte s at_
  by_cases c4 : 240 ≤ byteN s at_
  · have q4 : (240 : Int) ≤ byteN s at_ := by omega
    have hl : leadR (byteN s at_) = (byteN s at_ - 240, 4) := by simp [leadR, c4]
    rw [firstS_eq hl (by omega)]
    by_cases hsz : s.size - at_ < 4
    · have g1 : (s.size : Int) < (at_ : Int) + 4 := by omega
      rw [if_pos hsz]
      have ep0 : (byteN s at_ : Int) - 240 = ((byteN s at_ - 240 : Nat) : Int) := by omega
      simp (decide := true) [Tryz.f171, int, hat, e0, w0, q4, g1, I64, eBytes, firstD', ep0]
      omega
    have g1 : ¬ (s.size : Int) < (at_ : Int) + 4 := by omega
    rw [if_neg hsz]
    have hp0 : byteN s at_ - 240 < 256 := by omega
    have ep0 : (byteN s at_ : Int) - 240 = ((byteN s at_ - 240 : Nat) : Int) := by omega
    simp (decide := true) [Tryz.f171, int, hat, e0, w0, q4, g1, I64, eBytes, ep0]
    refine ⟨by omega, ⟨by omega, by omega⟩, ?_⟩
    refine loop_rule mixed (fun j : Nat => { n := 65, next := 0, slots := [(0, .d (.str s)), (1, .d (int at_)), (6, .d (int (accR s at_ (byteN s at_ - 240) j))), (7, .d (int 4)), (8, .d (int (j + 1)))], own := [] })
      (fun j => j + 1 ≤ 4) (fun j => 4 - j) 0 (by simp) (by simp (decide := true) [int, accR]) ?_
    intro j hj
    have hac := accR_lt (s := s) (at_ := at_) hp0 j
    have hac2 : accR s at_ (byteN s at_ - 240) j < 2^30 := Nat.lt_of_lt_of_le hac (Nat.le_trans (Nat.mul_le_mul_left _ (Nat.pow_le_pow_right (by omega) (show j ≤ 3 by omega))) (by decide))
    by_cases hjn : j + 1 < 4
    · have k1 : (j : Int) + 1 < 4 := by omega
      have e1 : byteAt s ((at_ : Int) + ((j : Int) + 1)) = (byteN s (at_ + (j + 1)) : Int) := byteAt_nat s (at_ + (j + 1))
      have w1 := wrap_byte s (at_ + (j + 1))
      have t1 : (byteN s (at_ + (j + 1)) : Int).tmod 64 = ((byteN s (at_ + (j + 1)) % 64 : Nat) : Int) := rfl
      simp (decide := true) [int, k1, e1, w1, t1, I64, eBytes]
      exact ⟨by omega, by omega, ⟨by omega, by omega⟩, by omega, by omega, j + 1, by omega, by omega, by simp only [accR]; omega, by omega⟩
    · obtain rfl : j = 3 := by omega
      simp (decide := true) [int, I64, eBytes]
      generalize hq : accR s at_ (byteN s at_ - 240) 3 = q at hac2 ⊢
      refine scall_pure (by rfl) (by rfl) (scalar_ok q) (by simp) ?_
      by_cases hsc : scalarR q
      case neg => simp (decide := true) [hsc, int, firstD']
      simp (decide := true) [hsc, int]
      refine scall_pure (by rfl) (by rfl) (enc_ok q (by omega)) (by simp) ?_
      have z1 : ((at_ : Int) + 4).toNat = at_ + 4 := by omega
      have he := enc_eq (s := s) (at_ := at_) (n := 4) (p := q) (by omega) (by omega)
      by_cases hE : encS q = s.extract at_ (at_ + 4)
      · simp (decide := true) [hsc, int, z1, hE, he.1 hE, firstD', I64]
        omega
      · have hE2 : ¬ ((encR q).map (· % 256) = (bytes4 s at_).take 4) := fun h => hE (he.2 h)
        have hE3 : ¬ (encS q).toList = (s.extract at_ (at_ + 4)).toList := fun h => hE (bytes_inj h)
        simp (decide := true) [hsc, int, z1, hE2, hE3, firstD', I64]
        omega
  have q4 : ¬ (240 : Int) ≤ byteN s at_ := by omega
  by_cases c3 : 224 ≤ byteN s at_
  · have q3 : (224 : Int) ≤ byteN s at_ := by omega
    have hl : leadR (byteN s at_) = (byteN s at_ - 224, 3) := by simp [leadR, c4, c3]
    rw [firstS_eq hl (by omega)]
    by_cases hsz : s.size - at_ < 3
    · have g1 : (s.size : Int) < (at_ : Int) + 3 := by omega
      rw [if_pos hsz]
      have ep0 : (byteN s at_ : Int) - 224 = ((byteN s at_ - 224 : Nat) : Int) := by omega
      simp (decide := true) [Tryz.f171, int, hat, e0, w0, q4, q3, g1, I64, eBytes, firstD', ep0]
      omega
    have g1 : ¬ (s.size : Int) < (at_ : Int) + 3 := by omega
    rw [if_neg hsz]
    have hp0 : byteN s at_ - 224 < 256 := by omega
    have ep0 : (byteN s at_ : Int) - 224 = ((byteN s at_ - 224 : Nat) : Int) := by omega
    simp (decide := true) [Tryz.f171, int, hat, e0, w0, q4, q3, g1, I64, eBytes, ep0]
    refine ⟨by omega, ⟨by omega, by omega⟩, ?_⟩
    refine loop_rule mixed (fun j : Nat => { n := 65, next := 0, slots := [(0, .d (.str s)), (1, .d (int at_)), (6, .d (int (accR s at_ (byteN s at_ - 224) j))), (7, .d (int 3)), (8, .d (int (j + 1)))], own := [] })
      (fun j => j + 1 ≤ 3) (fun j => 3 - j) 0 (by simp) (by simp (decide := true) [int, accR]) ?_
    intro j hj
    have hac := accR_lt (s := s) (at_ := at_) hp0 j
    have hac2 : accR s at_ (byteN s at_ - 224) j < 2^30 := Nat.lt_of_lt_of_le hac (Nat.le_trans (Nat.mul_le_mul_left _ (Nat.pow_le_pow_right (by omega) (show j ≤ 3 by omega))) (by decide))
    by_cases hjn : j + 1 < 3
    · have k1 : (j : Int) + 1 < 3 := by omega
      have e1 : byteAt s ((at_ : Int) + ((j : Int) + 1)) = (byteN s (at_ + (j + 1)) : Int) := byteAt_nat s (at_ + (j + 1))
      have w1 := wrap_byte s (at_ + (j + 1))
      have t1 : (byteN s (at_ + (j + 1)) : Int).tmod 64 = ((byteN s (at_ + (j + 1)) % 64 : Nat) : Int) := rfl
      simp (decide := true) [int, k1, e1, w1, t1, I64, eBytes]
      exact ⟨by omega, by omega, ⟨by omega, by omega⟩, by omega, by omega, j + 1, by omega, by omega, by simp only [accR]; omega, by omega⟩
    · obtain rfl : j = 2 := by omega
      simp (decide := true) [int, I64, eBytes]
      generalize hq : accR s at_ (byteN s at_ - 224) 2 = q at hac2 ⊢
      refine scall_pure (by rfl) (by rfl) (scalar_ok q) (by simp) ?_
      by_cases hsc : scalarR q
      case neg => simp (decide := true) [hsc, int, firstD']
      simp (decide := true) [hsc, int]
      refine scall_pure (by rfl) (by rfl) (enc_ok q (by omega)) (by simp) ?_
      have z1 : ((at_ : Int) + 3).toNat = at_ + 3 := by omega
      have he := enc_eq (s := s) (at_ := at_) (n := 3) (p := q) (by omega) (by omega)
      by_cases hE : encS q = s.extract at_ (at_ + 3)
      · simp (decide := true) [hsc, int, z1, hE, he.1 hE, firstD', I64]
        omega
      · have hE2 : ¬ ((encR q).map (· % 256) = (bytes4 s at_).take 3) := fun h => hE (he.2 h)
        have hE3 : ¬ (encS q).toList = (s.extract at_ (at_ + 3)).toList := fun h => hE (bytes_inj h)
        simp (decide := true) [hsc, int, z1, hE2, hE3, firstD', I64]
        omega
  have q3 : ¬ (224 : Int) ≤ byteN s at_ := by omega
  by_cases c2 : 192 ≤ byteN s at_
  · have q2 : (192 : Int) ≤ byteN s at_ := by omega
    have hl : leadR (byteN s at_) = (byteN s at_ - 192, 2) := by simp [leadR, c4, c3, c2]
    rw [firstS_eq hl (by omega)]
    by_cases hsz : s.size - at_ < 2
    · have g1 : (s.size : Int) < (at_ : Int) + 2 := by omega
      rw [if_pos hsz]
      have ep0 : (byteN s at_ : Int) - 192 = ((byteN s at_ - 192 : Nat) : Int) := by omega
      simp (decide := true) [Tryz.f171, int, hat, e0, w0, q4, q3, q2, g1, I64, eBytes, firstD', ep0]
      omega
    have g1 : ¬ (s.size : Int) < (at_ : Int) + 2 := by omega
    rw [if_neg hsz]
    have hp0 : byteN s at_ - 192 < 256 := by omega
    have ep0 : (byteN s at_ : Int) - 192 = ((byteN s at_ - 192 : Nat) : Int) := by omega
    simp (decide := true) [Tryz.f171, int, hat, e0, w0, q4, q3, q2, g1, I64, eBytes, ep0]
    refine ⟨by omega, ⟨by omega, by omega⟩, ?_⟩
    refine loop_rule mixed (fun j : Nat => { n := 65, next := 0, slots := [(0, .d (.str s)), (1, .d (int at_)), (6, .d (int (accR s at_ (byteN s at_ - 192) j))), (7, .d (int 2)), (8, .d (int (j + 1)))], own := [] })
      (fun j => j + 1 ≤ 2) (fun j => 2 - j) 0 (by simp) (by simp (decide := true) [int, accR]) ?_
    intro j hj
    have hac := accR_lt (s := s) (at_ := at_) hp0 j
    have hac2 : accR s at_ (byteN s at_ - 192) j < 2^30 := Nat.lt_of_lt_of_le hac (Nat.le_trans (Nat.mul_le_mul_left _ (Nat.pow_le_pow_right (by omega) (show j ≤ 3 by omega))) (by decide))
    by_cases hjn : j + 1 < 2
    · have k1 : (j : Int) + 1 < 2 := by omega
      have e1 : byteAt s ((at_ : Int) + ((j : Int) + 1)) = (byteN s (at_ + (j + 1)) : Int) := byteAt_nat s (at_ + (j + 1))
      have w1 := wrap_byte s (at_ + (j + 1))
      have t1 : (byteN s (at_ + (j + 1)) : Int).tmod 64 = ((byteN s (at_ + (j + 1)) % 64 : Nat) : Int) := rfl
      simp (decide := true) [int, k1, e1, w1, t1, I64, eBytes]
      exact ⟨by omega, by omega, ⟨by omega, by omega⟩, by omega, by omega, j + 1, by omega, by omega, by simp only [accR]; omega, by omega⟩
    · obtain rfl : j = 1 := by omega
      simp (decide := true) [int, I64, eBytes]
      generalize hq : accR s at_ (byteN s at_ - 192) 1 = q at hac2 ⊢
      refine scall_pure (by rfl) (by rfl) (scalar_ok q) (by simp) ?_
      by_cases hsc : scalarR q
      case neg => simp (decide := true) [hsc, int, firstD']
      simp (decide := true) [hsc, int]
      refine scall_pure (by rfl) (by rfl) (enc_ok q (by omega)) (by simp) ?_
      have z1 : ((at_ : Int) + 2).toNat = at_ + 2 := by omega
      have he := enc_eq (s := s) (at_ := at_) (n := 2) (p := q) (by omega) (by omega)
      by_cases hE : encS q = s.extract at_ (at_ + 2)
      · simp (decide := true) [hsc, int, z1, hE, he.1 hE, firstD', I64]
        omega
      · have hE2 : ¬ ((encR q).map (· % 256) = (bytes4 s at_).take 2) := fun h => hE (he.2 h)
        have hE3 : ¬ (encS q).toList = (s.extract at_ (at_ + 2)).toList := fun h => hE (bytes_inj h)
        simp (decide := true) [hsc, int, z1, hE2, hE3, firstD', I64]
        omega
  have q2 : ¬ (192 : Int) ≤ byteN s at_ := by omega
  have hl : leadR (byteN s at_) = (byteN s at_, 1) := by simp [leadR, c4, c3, c2]
  rw [firstS_eq hl (by omega)]
  by_cases hsz : s.size - at_ < 1
  · omega
  have g1 : ¬ (s.size : Int) < (at_ : Int) + 1 := by omega
  rw [if_neg hsz]
  have hp0 : byteN s at_ < 256 := by omega
  simp (decide := true) [Tryz.f171, int, hat, e0, w0, q4, q3, q2, g1, I64, eBytes]
  refine ⟨⟨by omega, by omega⟩, ?_⟩
  refine loop_rule mixed (fun j : Nat => { n := 65, next := 0, slots := [(0, .d (.str s)), (1, .d (int at_)), (6, .d (int (accR s at_ (byteN s at_) j))), (7, .d (int 1)), (8, .d (int (j + 1)))], own := [] })
    (fun j => j + 1 ≤ 1) (fun j => 1 - j) 0 (by simp) (by simp (decide := true) [int, accR]) ?_
  intro j hj
  have hac := accR_lt (s := s) (at_ := at_) hp0 j
  have hac2 : accR s at_ (byteN s at_) j < 2^30 := Nat.lt_of_lt_of_le hac (Nat.le_trans (Nat.mul_le_mul_left _ (Nat.pow_le_pow_right (by omega) (show j ≤ 3 by omega))) (by decide))
  by_cases hjn : j + 1 < 1
  · omega
  · obtain rfl : j = 0 := by omega
    simp (decide := true) [int, I64, eBytes]
    generalize hq : accR s at_ (byteN s at_) 0 = q at hac2 ⊢
    refine scall_pure (by rfl) (by rfl) (scalar_ok q) (by simp) ?_
    by_cases hsc : scalarR q
    case neg => simp (decide := true) [hsc, int, firstD']
    simp (decide := true) [hsc, int]
    refine scall_pure (by rfl) (by rfl) (enc_ok q (by omega)) (by simp) ?_
    have z1 : ((at_ : Int) + 1).toNat = at_ + 1 := by omega
    have he := enc_eq (s := s) (at_ := at_) (n := 1) (p := q) (by omega) (by omega)
    by_cases hE : encS q = s.extract at_ (at_ + 1)
    · simp (decide := true) [hsc, int, z1, hE, he.1 hE, firstD', I64]
      omega
    · have hE2 : ¬ ((encR q).map (· % 256) = (bytes4 s at_).take 1) := fun h => hE (he.2 h)
      have hE3 : ¬ (encS q).toList = (s.extract at_ (at_ + 1)).toList := fun h => hE (bytes_inj h)
      simp (decide := true) [hsc, int, z1, hE2, hE3, firstD', I64]
      omega
/-- The scalars from a place on. -/
def ptsGo (s : ByteArray) : Nat → Nat → Option (List Int)
  | 0, _ => some []
  | n + 1, pos => if pos < s.size then (match firstS s pos with
    | none => none
    | some r => (ptsGo s n (pos + r.2)).map ((r.1 : Int) :: ·)) else some []
theorem firstS_good {s : ByteArray} {pos : Nat} (h : pos < s.size) : match firstS s pos with
    | none => decodeN (s.size - pos) (byteN s pos) (byteN s (pos + 1)) (byteN s (pos + 2)) (byteN s (pos + 3)) = (65533, 1)
    | some r => decodeN (s.size - pos) (byteN s pos) (byteN s (pos + 1)) (byteN s (pos + 2)) (byteN s (pos + 3)) = r ∧ ¬ (r.1 = 65533 ∧ r.2 = 1) ∧ r.2 ≤ s.size - pos ∧ 1 ≤ r.2 :=
  firstR_decode _ _ _ _ _ (by omega) (UInt8.toNat_lt _) (UInt8.toNat_lt _) (UInt8.toNat_lt _) (UInt8.toNat_lt _)
def ptsD : Option (List Int) → D
  | none => .tup [.sl [], .bool false]
  | some l => .tup [ints l, .bool true]
def ptsS (s : ByteArray) (x : List Int × Nat × Nat) : St :=
  { n := 28, next := 2, slots := [(0, .d (.str s)), (4, .ar 1), (5, .d (int x.2.1))], own := [(1, .arr 3 1 (x.1.map fun n => [.int .i64 n]))], moved := [1] }
theorem pts_len (s : ByteArray) : ∀ (m pos : Nat) (l : List Int), ptsGo s m pos = some l → l.length ≤ m
  | 0, pos, l, h => by simp [ptsGo] at h; subst h; simp
  | m + 1, pos, l, h => by
    simp only [ptsGo] at h
    split at h
    · split at h
      · cases h
      · rw [Option.map_eq_some_iff] at h
        obtain ⟨l', h', rfl⟩ := h
        have := pts_len s m _ l' h'
        simp; omega
    · cases h; simp
set_option maxHeartbeats 1000000 in
theorem refPoints_ok (s : ByteArray) (hs : s.size ≤ 1048576) : PureR Tryz.prog 151 [.str s] (ptsD (ptsGo s s.size 0)) := by
  refine pure_of_body_frz mixed Tryz.func151 rfl call_151 [1, 2] ?_
  simp (decide := true) [Tryz.f151]
  refine loop_rule mixed (ptsS s) (fun x => x.2.1 ≤ s.size ∧ s.size ≤ x.2.1 + x.2.2 ∧ x.1.length ≤ x.2.1 ∧ ptsGo s s.size 0 = (ptsGo s x.2.2 x.2.1).map (x.1 ++ ·)) (fun x => x.2.2) ([], 0, s.size)
    ⟨by simp, by simp, by simp, by simp⟩ (by simp (decide := true) [ptsS, int]) ?_
  rintro ⟨acc, pos, m⟩ ⟨h1, h2, h3, h4⟩
  simp only at h1 h2 h3 h4
  by_cases hlt : pos < s.size
  · have hlt' : (pos : Int) < s.size := by omega
    obtain ⟨m, rfl⟩ : ∃ k, m = k + 1 := ⟨m - 1, by omega⟩
    simp only [ptsGo, if_pos hlt] at h4
    have hg := firstS_good hlt
    have hf0 := first_ok s pos hlt hs
    simp (decide := true) [ptsS, int, hlt']
    refine ECall.pure (by rfl) hf0 (by simp) ?_
    cases hf : firstS s pos with
    | none =>
      rw [hf] at h4
      simp (decide := true) [firstD', int, ptsD, h4]
    | some r =>
      rw [hf] at h4 hg
      simp only at h4 hg
      obtain ⟨_, _, g3, g4⟩ := hg
      have e1 : ¬ r.2 = 0 := by omega
      simp (decide := true) [firstD', int, e1, I64]
      refine ⟨by omega, by unfold maxLen; omega, ⟨by omega, by omega⟩, acc ++ [(r.1 : Int)], pos + r.2, m, ⟨by omega, by omega, by simp; omega, by rw [h4]; cases ptsGo s m (pos + r.2) <;> simp⟩, by omega, ?_⟩
      simp (decide := true) [ptsS, int]
  · have hlt' : ¬ (pos : Int) < s.size := by omega
    have hm : ptsGo s m pos = some [] := by cases m <;> simp [ptsGo, hlt]
    rw [hm] at h4
    simp (decide := true) [ptsS, int, hlt', h4, ptsD, ints]
end Go.V
