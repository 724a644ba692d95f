/- Contracts and plain laws of this seat: part MB. It needs no conditions. -/
import Derived.Test.YtknekjalbninmaaGreatMA
import Derived.Test.YtknekjalbninmaaGreatU0
set_option linter.unusedVariables false
set_option linter.unusedSimpArgs false
set_option linter.unusedSectionVars false
set_option maxRecDepth 100000
namespace Go.V
open Go Go.Proofs Go.Lib
def byteN (s : ByteArray) (k : Nat) : Nat := (s.data.toList.getD k 0).toNat
theorem byteAt_nat (s : ByteArray) (k : Nat) : byteAt s (k : Int) = (byteN s k : Int) := by simp [byteAt, byteN]
theorem wrap_u8 (n : Int) : IntKind.wrap .u8 n = n % 256 := by
  simp [IntKind.wrap, IntKind.bits, IntKind.signed]
theorem u8_of {n : Int} {m : Nat} (h : n = (m : Int)) : UInt8.ofNat (IntKind.wrap .u8 n).toNat = UInt8.ofNat m := by
  subst h
  apply UInt8.toNat_inj.1
  rw [wrap_u8]
  simp only [UInt8.toNat_ofNat']
  omega
theorem wrap_i64 {n : Int} (h : I64 n) : IntKind.wrap .i64 n = n := by
  obtain ⟨h1, h2⟩ := h
  simp [IntKind.wrap, IntKind.bits, IntKind.signed]
  split <;> omega
theorem wrap_byte (s : ByteArray) (k : Nat) : IntKind.wrap .i64 (byteN s k : Int) = (byteN s k : Int) := by
  have : byteN s k < 256 := UInt8.toNat_lt _
  exact wrap_i64 ⟨by omega, by omega⟩
theorem scalar_ok (p : Nat) : PureR Tryz.prog 257 [int p] (.bool (decide (scalarR p))) := by
  refine pure_of_body mixed Tryz.func257 rfl call_257 ?_
  by_cases h1 : (p : Int) ≤ 1114111
  · by_cases h2 : (p : Int) < 55296
    · have : scalarR p := ⟨by omega, by omega⟩
      simp (decide := true) [Tryz.f257, int, h1, h2, this]
    · have h3 : scalarR p ↔ (57343 : Int) < p := ⟨fun h => by have := h.2; omega, fun h => ⟨by omega, by omega⟩⟩
      simp (decide := true) [Tryz.f257, int, h1, h2, h3]
  · have : ¬ scalarR p := fun h => h1 (by have := h.1; omega)
    simp (decide := true) [Tryz.f257, int, h1, this]
def encS (p : Nat) : ByteArray := ⟨((encR p).map UInt8.ofNat).toArray⟩
theorem enc_ok (p : Nat) (hp : p < 2^40) : PureR Tryz.prog 258 [int p] (.str (encS p)) := by
  refine pure_of_body mixed Tryz.func258 rfl call_258 ?_
  have t1 : (p : Int).tmod 64 = ((p % 64 : Nat) : Int) := rfl
  have t2 : ((p : Int) / 64).tmod 64 = ((p / 64 % 64 : Nat) : Int) := by rw [show (p : Int) / 64 = ((p / 64 : Nat) : Int) by omega]; rfl
  have t3 : ((p : Int) / 4096).tmod 64 = ((p / 4096 % 64 : Nat) : Int) := by rw [show (p : Int) / 4096 = ((p / 4096 : Nat) : Int) by omega]; rfl
  by_cases h1 : p < 128
  · have h1' : (p : Int) < 128 := by omega
    simp (decide := true) [Tryz.f258, int, h1', t1, t2, t3, eBytes, bytesOf]
    rw [u8_of (m := p) (by omega)]
    simp [encS, encR, h1]
  have h1' : ¬ (p : Int) < 128 := by omega
  by_cases h2 : p < 2048
  · have h2' : (p : Int) < 2048 := by omega
    simp (decide := true) [Tryz.f258, int, h1', h2', t1, t2, t3, eBytes, bytesOf, I64]
    rw [u8_of (m := 192 + p / 64) (by omega), u8_of (m := 128 + p % 64) (by omega)]
    refine ⟨by omega, by omega, by omega, ?_⟩
    simp [encS, encR, h1, h2]
  have h2' : ¬ (p : Int) < 2048 := by omega
  by_cases h3 : p < 65536
  · have h3' : (p : Int) < 65536 := by omega
    simp (decide := true) [Tryz.f258, int, h1', h2', h3', t1, t2, t3, eBytes, bytesOf, I64]
    rw [u8_of (m := 224 + p / 4096) (by omega), u8_of (m := 128 + p / 64 % 64) (by omega), u8_of (m := 128 + p % 64) (by omega)]
    refine ⟨by omega, by omega, by omega, by omega, by omega, ?_⟩
    simp [encS, encR, h1, h2, h3]
  have h3' : ¬ (p : Int) < 65536 := by omega
  simp (decide := true) [Tryz.f258, int, h1', h2', h3', t1, t2, t3, eBytes, bytesOf, I64]
  rw [u8_of (m := 240 + p / 262144) (by omega), u8_of (m := 128 + p / 4096 % 64) (by omega), u8_of (m := 128 + p / 64 % 64) (by omega), u8_of (m := 128 + p % 64) (by omega)]
  refine ⟨by omega, by omega, by omega, by omega, by omega, by omega, by omega, ?_⟩
  simp [encS, encR, h1, h2, h3]
theorem bytes_inj {a b : ByteArray} (h : a.toList = b.toList) : a = b := by
  rw [← MapKept.bytes_beq, beq_toListBytes, beq_iff_eq]; exact h
def accR (s : ByteArray) (at_ p0 : Nat) : Nat → Nat
  | 0 => p0
  | k + 1 => accR s at_ p0 k * 64 + byteN s (at_ + (k + 1)) % 64
theorem accR_lt {s : ByteArray} {at_ p0 : Nat} (h : p0 < 256) : ∀ k, accR s at_ p0 k < 256 * 64 ^ k
  | 0 => by simpa [accR] using h
  | k + 1 => by
    have := accR_lt (s := s) (at_ := at_) h k
    simp only [accR, Nat.pow_succ]
    omega
def bytes4 (s : ByteArray) (at_ : Nat) : List Nat := [byteN s at_, byteN s (at_ + 1), byteN s (at_ + 2), byteN s (at_ + 3)]
theorem accR_fold (s : ByteArray) (at_ p0 : Nat) : ∀ n, n ≤ 4 → foldR p0 ([byteN s (at_ + 1), byteN s (at_ + 2), byteN s (at_ + 3)].take (n - 1)) = accR s at_ p0 (n - 1)
  | 0, _ => rfl
  | 1, _ => rfl
  | 2, _ => rfl
  | 3, _ => rfl
  | 4, _ => rfl
theorem toNat_inj_map : ∀ {a b : List UInt8}, a.map UInt8.toNat = b.map UInt8.toNat → a = b
  | [], [], _ => rfl
  | [], _ :: _, h => by simp at h
  | _ :: _, [], h => by simp at h
  | x :: a, y :: b, h => by
    simp only [List.map_cons, List.cons.injEq] at h
    rw [UInt8.toNat_inj.1 h.1, toNat_inj_map h.2]
theorem ext_bytes {s : ByteArray} {at_ n : Nat} (hn : n ≤ 4) (h : at_ + n ≤ s.size) : (s.extract at_ (at_ + n)).data.toList.map UInt8.toNat = (bytes4 s at_).take n := by
  have hsz : s.size = s.data.toList.length := by rw [Array.length_toList]; rfl
  have he : (s.extract at_ (at_ + n)).data.toList = (s.data.toList.drop at_).take n := by
    simp only [ByteArray.data_extract, Array.toList_extract, List.extract_eq_take_drop]
    congr 1; omega
  rw [he]
  apply List.ext_getElem?
  intro j
  rw [List.getElem?_map, List.getElem?_take, List.getElem?_take]
  by_cases hj : j < n
  · rw [if_pos hj, if_pos hj, List.getElem?_drop, List.getElem?_eq_getElem (by omega)]
    have hb : ∀ k, (hk : k < s.data.toList.length) → (s.data.toList[k]'hk).toNat = byteN s k := fun k hk => by simp [byteN, List.getD, List.getElem?_eq_getElem hk]
    have hj4 : j = 0 ∨ j = 1 ∨ j = 2 ∨ j = 3 := by omega
    rw [Option.map_some, hb]
    rcases hj4 with rfl | rfl | rfl | rfl <;> rfl
  · rw [if_neg hj, if_neg hj]; rfl
theorem encS_bytes (p : Nat) : (encS p).data.toList.map UInt8.toNat = (encR p).map (· % 256) := by
  simp only [encS, List.map_map]
  apply List.map_congr_left
  intro b _
  simp
theorem enc_eq {s : ByteArray} {at_ n p : Nat} (hn : n ≤ 4) (h : at_ + n ≤ s.size) : encS p = s.extract at_ (at_ + n) ↔ (encR p).map (· % 256) = (bytes4 s at_).take n := by
  rw [← encS_bytes, ← ext_bytes hn h]
  constructor
  · intro e; rw [e]
  · intro e
    have := toNat_inj_map e
    have e2 : (encS p).data = (s.extract at_ (at_ + n)).data := Array.ext' this
    cases hA : encS p; cases hB : s.extract at_ (at_ + n)
    rw [hA, hB] at e2
    simp only at e2; rw [e2]
def firstS (s : ByteArray) (at_ : Nat) : Option (Nat × Nat) := firstR (s.size - at_) (byteN s at_) (byteN s (at_ + 1)) (byteN s (at_ + 2)) (byteN s (at_ + 3))
def firstD' : Option (Nat × Nat) → D
  | none => .tup [int (-1), int 0]
  | some r => .tup [int r.1, int r.2]
theorem firstS_eq {s : ByteArray} {at_ p0 n : Nat} (hl : leadR (byteN s at_) = (p0, n)) (hn : n ≤ 4) : firstS s at_ = if s.size - at_ < n then none else if scalarR (accR s at_ p0 (n - 1)) ∧ (encR (accR s at_ p0 (n - 1))).map (· % 256) = (bytes4 s at_).take n then some (accR s at_ p0 (n - 1), n) else none := by
  unfold firstS firstR
  rw [hl]
  simp only
  rw [accR_fold s at_ p0 n hn]
  rfl
set_option maxHeartbeats 4000000 in
theorem first_ok (s : ByteArray) (at_ : Nat) (hat : at_ < s.size) (hs : s.size ≤ 1048576) : PureR Tryz.prog 226 [.str s, int at_] (firstD' (firstS s at_)) := by
  refine pure_of_body mixed Tryz.func226 rfl call_226 ?_
  have hb : byteN s at_ < 256 := UInt8.toNat_lt _
  have e0 := byteAt_nat s at_
  have w0 := wrap_byte s at_
  by_cases c4 : 240 ≤ byteN s at_
  · have q4 : (240 : Int) ≤ byteN s at_ := by omega
    have hl : leadR (byteN s at_) = (byteN s at_ - 240, 4) := by simp [leadR, c4]
    rw [firstS_eq hl (by omega)]
    by_cases hsz : s.size - at_ < 4
    · have g1 : (s.size : Int) < (at_ : Int) + 4 := by omega
      rw [if_pos hsz]
      have ep0 : (byteN s at_ : Int) - 240 = ((byteN s at_ - 240 : Nat) : Int) := by omega
      simp (decide := true) [Tryz.f226, int, hat, e0, w0, q4, g1, I64, eBytes, firstD', ep0]
      omega
    have g1 : ¬ (s.size : Int) < (at_ : Int) + 4 := by omega
    rw [if_neg hsz]
    have hp0 : byteN s at_ - 240 < 256 := by omega
    have ep0 : (byteN s at_ : Int) - 240 = ((byteN s at_ - 240 : Nat) : Int) := by omega
    simp (decide := true) [Tryz.f226, int, hat, e0, w0, q4, g1, I64, eBytes, ep0]
    refine ⟨by omega, ⟨by omega, by omega⟩, ?_⟩
    refine loop_rule mixed (fun j : Nat => { n := 65, next := 0, slots := [(0, .d (.str s)), (1, .d (int at_)), (6, .d (int (accR s at_ (byteN s at_ - 240) j))), (7, .d (int 4)), (8, .d (int (j + 1)))], own := [] })
      (fun j => j + 1 ≤ 4) (fun j => 4 - j) 0 (by simp) (by simp (decide := true) [int, accR]) ?_
    intro j hj
    have hac := accR_lt (s := s) (at_ := at_) hp0 j
    have hac2 : accR s at_ (byteN s at_ - 240) j < 2^30 := Nat.lt_of_lt_of_le hac (Nat.le_trans (Nat.mul_le_mul_left _ (Nat.pow_le_pow_right (by omega) (show j ≤ 3 by omega))) (by decide))
    by_cases hjn : j + 1 < 4
    · have k1 : (j : Int) + 1 < 4 := by omega
      have e1 : byteAt s ((at_ : Int) + ((j : Int) + 1)) = (byteN s (at_ + (j + 1)) : Int) := byteAt_nat s (at_ + (j + 1))
      have w1 := wrap_byte s (at_ + (j + 1))
      have t1 : (byteN s (at_ + (j + 1)) : Int).tmod 64 = ((byteN s (at_ + (j + 1)) % 64 : Nat) : Int) := rfl
      simp (decide := true) [int, k1, e1, w1, t1, I64, eBytes]
      exact ⟨by omega, by omega, ⟨by omega, by omega⟩, by omega, by omega, j + 1, by omega, by omega, by simp only [accR]; omega, by omega⟩
    · obtain rfl : j = 3 := by omega
      simp (decide := true) [int, I64, eBytes]
      generalize hq : accR s at_ (byteN s at_ - 240) 3 = q at hac2 ⊢
      refine scall_pure (by rfl) (by rfl) (scalar_ok q) (by simp) ?_
      by_cases hsc : scalarR q
      case neg => simp (decide := true) [hsc, int, firstD']
      simp (decide := true) [hsc, int]
      refine scall_pure (by rfl) (by rfl) (enc_ok q (by omega)) (by simp) ?_
      have z1 : ((at_ : Int) + 4).toNat = at_ + 4 := by omega
      have he := enc_eq (s := s) (at_ := at_) (n := 4) (p := q) (by omega) (by omega)
      by_cases hE : encS q = s.extract at_ (at_ + 4)
      · simp (decide := true) [hsc, int, z1, hE, he.1 hE, firstD', I64]
        omega
      · have hE2 : ¬ ((encR q).map (· % 256) = (bytes4 s at_).take 4) := fun h => hE (he.2 h)
        have hE3 : ¬ (encS q).toList = (s.extract at_ (at_ + 4)).toList := fun h => hE (bytes_inj h)
        simp (decide := true) [hsc, int, z1, hE2, hE3, firstD', I64]
        omega
  have q4 : ¬ (240 : Int) ≤ byteN s at_ := by omega
  by_cases c3 : 224 ≤ byteN s at_
  · have q3 : (224 : Int) ≤ byteN s at_ := by omega
    have hl : leadR (byteN s at_) = (byteN s at_ - 224, 3) := by simp [leadR, c4, c3]
    rw [firstS_eq hl (by omega)]
    by_cases hsz : s.size - at_ < 3
    · have g1 : (s.size : Int) < (at_ : Int) + 3 := by omega
      rw [if_pos hsz]
      have ep0 : (byteN s at_ : Int) - 224 = ((byteN s at_ - 224 : Nat) : Int) := by omega
      simp (decide := true) [Tryz.f226, int, hat, e0, w0, q4, q3, g1, I64, eBytes, firstD', ep0]
      omega
    have g1 : ¬ (s.size : Int) < (at_ : Int) + 3 := by omega
    rw [if_neg hsz]
    have hp0 : byteN s at_ - 224 < 256 := by omega
    have ep0 : (byteN s at_ : Int) - 224 = ((byteN s at_ - 224 : Nat) : Int) := by omega
    simp (decide := true) [Tryz.f226, int, hat, e0, w0, q4, q3, g1, I64, eBytes, ep0]
    refine ⟨by omega, ⟨by omega, by omega⟩, ?_⟩
    refine loop_rule mixed (fun j : Nat => { n := 65, next := 0, slots := [(0, .d (.str s)), (1, .d (int at_)), (6, .d (int (accR s at_ (byteN s at_ - 224) j))), (7, .d (int 3)), (8, .d (int (j + 1)))], own := [] })
      (fun j => j + 1 ≤ 3) (fun j => 3 - j) 0 (by simp) (by simp (decide := true) [int, accR]) ?_
    intro j hj
    have hac := accR_lt (s := s) (at_ := at_) hp0 j
    have hac2 : accR s at_ (byteN s at_ - 224) j < 2^30 := Nat.lt_of_lt_of_le hac (Nat.le_trans (Nat.mul_le_mul_left _ (Nat.pow_le_pow_right (by omega) (show j ≤ 3 by omega))) (by decide))
    by_cases hjn : j + 1 < 3
    · have k1 : (j : Int) + 1 < 3 := by omega
      have e1 : byteAt s ((at_ : Int) + ((j : Int) + 1)) = (byteN s (at_ + (j + 1)) : Int) := byteAt_nat s (at_ + (j + 1))
      have w1 := wrap_byte s (at_ + (j + 1))
      have t1 : (byteN s (at_ + (j + 1)) : Int).tmod 64 = ((byteN s (at_ + (j + 1)) % 64 : Nat) : Int) := rfl
      simp (decide := true) [int, k1, e1, w1, t1, I64, eBytes]
      exact ⟨by omega, by omega, ⟨by omega, by omega⟩, by omega, by omega, j + 1, by omega, by omega, by simp only [accR]; omega, by omega⟩
    · obtain rfl : j = 2 := by omega
      simp (decide := true) [int, I64, eBytes]
      generalize hq : accR s at_ (byteN s at_ - 224) 2 = q at hac2 ⊢
      refine scall_pure (by rfl) (by rfl) (scalar_ok q) (by simp) ?_
      by_cases hsc : scalarR q
      case neg => simp (decide := true) [hsc, int, firstD']
      simp (decide := true) [hsc, int]
      refine scall_pure (by rfl) (by rfl) (enc_ok q (by omega)) (by simp) ?_
      have z1 : ((at_ : Int) + 3).toNat = at_ + 3 := by omega
      have he := enc_eq (s := s) (at_ := at_) (n := 3) (p := q) (by omega) (by omega)
      by_cases hE : encS q = s.extract at_ (at_ + 3)
      · simp (decide := true) [hsc, int, z1, hE, he.1 hE, firstD', I64]
        omega
      · have hE2 : ¬ ((encR q).map (· % 256) = (bytes4 s at_).take 3) := fun h => hE (he.2 h)
        have hE3 : ¬ (encS q).toList = (s.extract at_ (at_ + 3)).toList := fun h => hE (bytes_inj h)
        simp (decide := true) [hsc, int, z1, hE2, hE3, firstD', I64]
        omega
  have q3 : ¬ (224 : Int) ≤ byteN s at_ := by omega
  by_cases c2 : 192 ≤ byteN s at_
  · have q2 : (192 : Int) ≤ byteN s at_ := by omega
    have hl : leadR (byteN s at_) = (byteN s at_ - 192, 2) := by simp [leadR, c4, c3, c2]
    rw [firstS_eq hl (by omega)]
    by_cases hsz : s.size - at_ < 2
    · have g1 : (s.size : Int) < (at_ : Int) + 2 := by omega
      rw [if_pos hsz]
      have ep0 : (byteN s at_ : Int) - 192 = ((byteN s at_ - 192 : Nat) : Int) := by omega
      simp (decide := true) [Tryz.f226, int, hat, e0, w0, q4, q3, q2, g1, I64, eBytes, firstD', ep0]
      omega
    have g1 : ¬ (s.size : Int) < (at_ : Int) + 2 := by omega
    rw [if_neg hsz]
    have hp0 : byteN s at_ - 192 < 256 := by omega
    have ep0 : (byteN s at_ : Int) - 192 = ((byteN s at_ - 192 : Nat) : Int) := by omega
    simp (decide := true) [Tryz.f226, int, hat, e0, w0, q4, q3, q2, g1, I64, eBytes, ep0]
    refine ⟨by omega, ⟨by omega, by omega⟩, ?_⟩
    refine loop_rule mixed (fun j : Nat => { n := 65, next := 0, slots := [(0, .d (.str s)), (1, .d (int at_)), (6, .d (int (accR s at_ (byteN s at_ - 192) j))), (7, .d (int 2)), (8, .d (int (j + 1)))], own := [] })
      (fun j => j + 1 ≤ 2) (fun j => 2 - j) 0 (by simp) (by simp (decide := true) [int, accR]) ?_
    intro j hj
    have hac := accR_lt (s := s) (at_ := at_) hp0 j
    have hac2 : accR s at_ (byteN s at_ - 192) j < 2^30 := Nat.lt_of_lt_of_le hac (Nat.le_trans (Nat.mul_le_mul_left _ (Nat.pow_le_pow_right (by omega) (show j ≤ 3 by omega))) (by decide))
    by_cases hjn : j + 1 < 2
    · have k1 : (j : Int) + 1 < 2 := by omega
      have e1 : byteAt s ((at_ : Int) + ((j : Int) + 1)) = (byteN s (at_ + (j + 1)) : Int) := byteAt_nat s (at_ + (j + 1))
      have w1 := wrap_byte s (at_ + (j + 1))
      have t1 : (byteN s (at_ + (j + 1)) : Int).tmod 64 = ((byteN s (at_ + (j + 1)) % 64 : Nat) : Int) := rfl
      simp (decide := true) [int, k1, e1, w1, t1, I64, eBytes]
      exact ⟨by omega, by omega, ⟨by omega, by omega⟩, by omega, by omega, j + 1, by omega, by omega, by simp only [accR]; omega, by omega⟩
    · obtain rfl : j = 1 := by omega
      simp (decide := true) [int, I64, eBytes]
      generalize hq : accR s at_ (byteN s at_ - 192) 1 = q at hac2 ⊢
      refine scall_pure (by rfl) (by rfl) (scalar_ok q) (by simp) ?_
      by_cases hsc : scalarR q
      case neg => simp (decide := true) [hsc, int, firstD']
      simp (decide := true) [hsc, int]
      refine scall_pure (by rfl) (by rfl) (enc_ok q (by omega)) (by simp) ?_
      have z1 : ((at_ : Int) + 2).toNat = at_ + 2 := by omega
      have he := enc_eq (s := s) (at_ := at_) (n := 2) (p := q) (by omega) (by omega)
      by_cases hE : encS q = s.extract at_ (at_ + 2)
      · simp (decide := true) [hsc, int, z1, hE, he.1 hE, firstD', I64]
        omega
      · have hE2 : ¬ ((encR q).map (· % 256) = (bytes4 s at_).take 2) := fun h => hE (he.2 h)
        have hE3 : ¬ (encS q).toList = (s.extract at_ (at_ + 2)).toList := fun h => hE (bytes_inj h)
        simp (decide := true) [hsc, int, z1, hE2, hE3, firstD', I64]
        omega
  have q2 : ¬ (192 : Int) ≤ byteN s at_ := by omega
  have hl : leadR (byteN s at_) = (byteN s at_, 1) := by simp [leadR, c4, c3, c2]
  rw [firstS_eq hl (by omega)]
  by_cases hsz : s.size - at_ < 1
  · omega
  have g1 : ¬ (s.size : Int) < (at_ : Int) + 1 := by omega
  rw [if_neg hsz]
  have hp0 : byteN s at_ < 256 := by omega
  simp (decide := true) [Tryz.f226, int, hat, e0, w0, q4, q3, q2, g1, I64, eBytes]
  refine ⟨⟨by omega, by omega⟩, ?_⟩
  refine loop_rule mixed (fun j : Nat => { n := 65, next := 0, slots := [(0, .d (.str s)), (1, .d (int at_)), (6, .d (int (accR s at_ (byteN s at_) j))), (7, .d (int 1)), (8, .d (int (j + 1)))], own := [] })
    (fun j => j + 1 ≤ 1) (fun j => 1 - j) 0 (by simp) (by simp (decide := true) [int, accR]) ?_
  intro j hj
  have hac := accR_lt (s := s) (at_ := at_) hp0 j
  have hac2 : accR s at_ (byteN s at_) j < 2^30 := Nat.lt_of_lt_of_le hac (Nat.le_trans (Nat.mul_le_mul_left _ (Nat.pow_le_pow_right (by omega) (show j ≤ 3 by omega))) (by decide))
  by_cases hjn : j + 1 < 1
  · omega
  · obtain rfl : j = 0 := by omega
    simp (decide := true) [int, I64, eBytes]
    generalize hq : accR s at_ (byteN s at_) 0 = q at hac2 ⊢
    refine scall_pure (by rfl) (by rfl) (scalar_ok q) (by simp) ?_
    by_cases hsc : scalarR q
    case neg => simp (decide := true) [hsc, int, firstD']
    simp (decide := true) [hsc, int]
    refine scall_pure (by rfl) (by rfl) (enc_ok q (by omega)) (by simp) ?_
    have z1 : ((at_ : Int) + 1).toNat = at_ + 1 := by omega
    have he := enc_eq (s := s) (at_ := at_) (n := 1) (p := q) (by omega) (by omega)
    by_cases hE : encS q = s.extract at_ (at_ + 1)
    · simp (decide := true) [hsc, int, z1, hE, he.1 hE, firstD', I64]
      omega
    · have hE2 : ¬ ((encR q).map (· % 256) = (bytes4 s at_).take 1) := fun h => hE (he.2 h)
      have hE3 : ¬ (encS q).toList = (s.extract at_ (at_ + 1)).toList := fun h => hE (bytes_inj h)
      simp (decide := true) [hsc, int, z1, hE2, hE3, firstD', I64]
      omega
def ptsGo (s : ByteArray) : Nat → Nat → Option (List Int)
  | 0, _ => some []
  | n + 1, pos => if pos < s.size then (match firstS s pos with
    | none => none
    | some r => (ptsGo s n (pos + r.2)).map ((r.1 : Int) :: ·)) else some []
theorem firstS_good {s : ByteArray} {pos : Nat} (h : pos < s.size) : match firstS s pos with
    | none => decodeN (s.size - pos) (byteN s pos) (byteN s (pos + 1)) (byteN s (pos + 2)) (byteN s (pos + 3)) = (65533, 1)
    | some r => decodeN (s.size - pos) (byteN s pos) (byteN s (pos + 1)) (byteN s (pos + 2)) (byteN s (pos + 3)) = r ∧ ¬ (r.1 = 65533 ∧ r.2 = 1) ∧ r.2 ≤ s.size - pos ∧ 1 ≤ r.2 :=
  firstR_decode _ _ _ _ _ (by omega) (UInt8.toNat_lt _) (UInt8.toNat_lt _) (UInt8.toNat_lt _) (UInt8.toNat_lt _)
def ptsD : Option (List Int) → D
  | none => .tup [.sl [], .bool false]
  | some l => .tup [ints l, .bool true]
def ptsS (s : ByteArray) (x : List Int × Nat × Nat) : St :=
  { n := 28, next := 2, slots := [(0, .d (.str s)), (4, .ar 1), (5, .d (int x.2.1))], own := [(1, .arr 3 1 (x.1.map fun n => [.int .i64 n]))], moved := [1] }
theorem pts_len (s : ByteArray) : ∀ (m pos : Nat) (l : List Int), ptsGo s m pos = some l → l.length ≤ m
  | 0, pos, l, h => by simp [ptsGo] at h; subst h; simp
  | m + 1, pos, l, h => by
    simp only [ptsGo] at h
    split at h
    · split at h
      · cases h
      · rw [Option.map_eq_some_iff] at h
        obtain ⟨l', h', rfl⟩ := h
        have := pts_len s m _ l' h'
        simp; omega
    · cases h; simp
set_option maxHeartbeats 1000000 in
theorem refPoints_ok (s : ByteArray) (hs : s.size ≤ 1048576) : PureR Tryz.prog 192 [.str s] (ptsD (ptsGo s s.size 0)) := by
  refine pure_of_body_frz mixed Tryz.func192 rfl call_192 [1, 2] ?_
  simp (decide := true) [Tryz.f192]
  refine loop_rule mixed (ptsS s) (fun x => x.2.1 ≤ s.size ∧ s.size ≤ x.2.1 + x.2.2 ∧ x.1.length ≤ x.2.1 ∧ ptsGo s s.size 0 = (ptsGo s x.2.2 x.2.1).map (x.1 ++ ·)) (fun x => x.2.2) ([], 0, s.size)
    ⟨by simp, by simp, by simp, by simp⟩ (by simp (decide := true) [ptsS, int]) ?_
  rintro ⟨acc, pos, m⟩ ⟨h1, h2, h3, h4⟩
  simp only at h1 h2 h3 h4
  by_cases hlt : pos < s.size
  · have hlt' : (pos : Int) < s.size := by omega
    obtain ⟨m, rfl⟩ : ∃ k, m = k + 1 := ⟨m - 1, by omega⟩
    simp only [ptsGo, if_pos hlt] at h4
    have hg := firstS_good hlt
    have hf0 := first_ok s pos hlt hs
    simp (decide := true) [ptsS, int, hlt']
    refine ECall.pure (by rfl) hf0 (by simp) ?_
    cases hf : firstS s pos with
    | none =>
      rw [hf] at h4
      simp (decide := true) [firstD', int, ptsD, h4]
    | some r =>
      rw [hf] at h4 hg
      simp only at h4 hg
      obtain ⟨_, _, g3, g4⟩ := hg
      have e1 : ¬ r.2 = 0 := by omega
      simp (decide := true) [firstD', int, e1, I64]
      refine ⟨by omega, by unfold maxLen; omega, ⟨by omega, by omega⟩, acc ++ [(r.1 : Int)], pos + r.2, m, ⟨by omega, by omega, by simp; omega, by rw [h4]; cases ptsGo s m (pos + r.2) <;> simp⟩, by omega, ?_⟩
      simp (decide := true) [ptsS, int]
  · have hlt' : ¬ (pos : Int) < s.size := by omega
    have hm : ptsGo s m pos = some [] := by cases m <;> simp [ptsGo, hlt]
    rw [hm] at h4
    simp (decide := true) [ptsS, int, hlt', h4, ptsD, ints]
end Go.V
namespace Go.V
open Go Go.Proofs
def IsB (r : D) : Prop := ∃ b, r = .bool b
def IsI (r : D) : Prop := ∃ e, r = int e
@[simp] theorem isB_mk (b : Bool) : IsB (.bool b) := ⟨b, rfl⟩
@[simp] theorem isI_mk (n : Int) : IsI (.int .i64 n) := ⟨n, rfl⟩
theorem label10_ok (s : ByteArray) (hs : s.size ≤ 1048576) : PureE Tryz.prog 142 [.str s] IsB := by
  refine some_of_body mixed Tryz.func142 rfl call_142 ?_
  simp (decide := true) [Tryz.f142, int]
  refine loop_rule mixed (fun k : Nat => { n := 38, next := 0, slots := [(0, .d (.str s)), (3, .d (int k))], own := [] })
    (fun k => k ≤ s.size) (fun k => s.size - k) 0 (by simp) (by simp (decide := true) [int]) ?_
  intro k hk
  by_cases hlt : k < s.size
  · have hlt' : (k : Int) < s.size := by omega
    have e1 : byteAt s (k : Int) = (byteN s k : Int) := byteAt_nat s k
    by_cases b1 : (byteN s k : Int) < 32
    · simp (decide := true) [int, hlt, hlt', e1, b1]
    · by_cases b2 : (byteN s k : Int) = 127
      · simp (decide := true) [int, hlt, hlt', e1, b1, b2]
      · simp (decide := true) [int, hlt, hlt', e1, b1, b2, I64]
        exact ⟨⟨by omega, by omega⟩, k + 1, hlt, by omega, by omega⟩
  · have hlt' : ¬ (k : Int) < s.size := by omega
    simp (decide := true) [int, hlt']
    refine ECall.pure (by rfl) (refPoints_ok s hs) (by simp) ?_
    cases hp : ptsGo s s.size 0 with
    | none => simp (decide := true) [ptsD, int]
    | some l =>
      by_cases c1 : (1 : Int) ≤ s.size
      · simp (decide := true) [ptsD, int, ints, c1]
      · simp (decide := true) [ptsD, int, ints, c1]
theorem label17_ok (s : ByteArray) (hs : s.size ≤ 1048576) : PureE Tryz.prog 145 [.str s] IsB := by
  refine some_of_body mixed Tryz.func145 rfl call_145 ?_
  simp (decide := true) [Tryz.f145, int]
  refine loop_rule mixed (fun k : Nat => { n := 16, next := 0, slots := [(0, .d (.str s)), (3, .d (int k))], own := [] })
    (fun k => k ≤ s.size) (fun k => s.size - k) 0 (by simp) (by simp (decide := true) [int]) ?_
  intro k hk
  by_cases hlt : k < s.size
  · have hlt' : (k : Int) < s.size := by omega
    have e1 : byteAt s (k : Int) = (byteN s k : Int) := byteAt_nat s k
    by_cases b1 : (byteN s k : Int) = 32
    · simp (decide := true) [int, hlt, hlt', e1, b1]
    · simp (decide := true) [int, hlt, hlt', e1, b1, I64]
      exact ⟨⟨by omega, by omega⟩, k + 1, hlt, by omega, by omega⟩
  · have hlt' : ¬ (k : Int) < s.size := by omega
    simp (decide := true) [int, hlt']
    refine ECall.some (by rfl) (label10_ok s hs) ?_
    rintro r ⟨b, rfl⟩
    simp (decide := true) [int]
end Go.V
namespace Go.V
open Go Go.Proofs
def nmS (b : Nat) : Bool := decide (97 ≤ b) && decide (b ≤ 122)
def nmC (b : Nat) : Bool := nmS b || (decide (48 ≤ b) && decide (b ≤ 57)) || decide (b = 45) || decide (b = 95)
def nameP (s : ByteArray) : Bool := decide (1 ≤ s.size) && decide (s.size ≤ 32) && nmS (byteN s 0) && (List.range s.size).all fun k => nmC (byteN s k)
theorem nm_cases (b : Nat) : (97 ≤ b ∧ b ≤ 122) ∨ (48 ≤ b ∧ b ≤ 57) ∨ b = 45 ∨ b = 95 ∨ (b < 48 ∧ b ≠ 45) ∨ (57 < b ∧ b < 97 ∧ b ≠ 95) ∨ 122 < b := by omega
theorem refName_ok (s : ByteArray) (hs : s.size ≤ 9223372036854775807) : PureR Tryz.prog 143 [.str s] (.bool (nameP s)) := by
  refine pure_of_body mixed Tryz.func143 rfl call_143 ?_
  simp (decide := true) [Tryz.f143]
  refine loop_rule mixed (fun k : Nat => { n := 59, next := 0, slots := [(0, .d (.str s)), (3, .d (.int .i64 k))], own := [] })
    (fun k => k ≤ s.size ∧ ∀ j, j < k → (nmC (byteN s j) = true ∧ (j = 0 → nmS (byteN s 0) = true))) (fun k => s.size - k) 0 (by simp) (by simp (decide := true) [int]) ?_
  intro k ⟨hk, hp⟩
  by_cases hlt : k < s.size
  · have hlt' : (k : Int) < s.size := by omega
    have e0 : byteAt s (k : Int) = (byteN s k : Int) := byteAt_nat s k
    have good : nmC (byteN s k) = true → (k = 0 → nmS (byteN s k) = true) → ∀ j, j < k + 1 → (nmC (byteN s j) = true ∧ (j = 0 → nmS (byteN s 0) = true)) := by
      intro hb h0 j hj
      rcases Nat.lt_or_ge j k with hj' | hj'
      · exact hp j hj'
      · have : j = k := by omega
        subst this; exact ⟨hb, fun e => by subst e; exact h0 rfl⟩
    have bad : nmC (byteN s k) = false → nameP s = false := fun hb => by
      have : (List.range s.size).all (fun k => nmC (byteN s k)) = false := by rw [List.all_eq_false]; exact ⟨k, by simpa using hlt, by simp [hb]⟩
      simp only [nameP, this, Bool.and_false]
    have bad0 : k = 0 → nmS (byteN s k) = false → nameP s = false := fun h0 hb => by
      subst h0
      simp only [nameP, hb, Bool.and_false, Bool.false_and]
    generalize byteN s k = b at e0 good bad bad0
    by_cases hs : 97 ≤ b ∧ b ≤ 122
    · obtain ⟨c1, c2⟩ := hs
      have q1 : (97 : Int) ≤ b := by omega
      have q2 : (b : Int) ≤ 122 := by omega
      have hS : nmS b = true := by simp [nmS]; omega
      simp (decide := true) [hlt, hlt', e0, q1, q2, I64]
      exact ⟨by omega, k + 1, ⟨by omega, good (by simp [nmC, hS]) (fun _ => hS)⟩, by omega, by omega⟩
    · have hS : nmS b = false := by simp [nmS]; omega
      by_cases hk0 : k = 0
      · subst hk0
        have hb := bad0 rfl hS
        have e0' : byteAt s 0 = (b : Int) := e0
        by_cases q1 : (97 : Int) ≤ b
        · have q2 : ¬ (b : Int) ≤ 122 := by omega
          simp (decide := true) [hlt, hlt', e0', q1, q2, hb]
        · simp (decide := true) [hlt, hlt', e0', q1, hb]
      · have hk0' : ¬ (k : Int) = 0 := by omega
        have key : ∀ (r : Bool), nmC b = r → (decide (97 ≤ (b : Int)) && decide ((b : Int) ≤ 122)) = false := fun _ _ => by simp; omega
        by_cases q1 : (97 : Int) ≤ b
        · have q2 : ¬ (b : Int) ≤ 122 := by omega
          have q3 : ¬ (b : Int) = 45 := by omega
          have q4 : ¬ (b : Int) = 95 := by omega
          have q5 : ¬ (b : Int) < 48 := by omega
          have q6 : (57 : Int) < b := by omega
          have hb := bad (by simp [nmC, hS]; omega)
          simp (decide := true) [hlt, hlt', e0, q1, q2, q3, q4, q5, q6, hk0, hk0', hb]
        · rcases nm_cases b with ⟨c1, c2⟩ | ⟨c1, c2⟩ | rfl | rfl | ⟨c1, c2⟩ | ⟨c1, c2, c3⟩ | c1
          · omega
          · have q3 : ¬ (b : Int) = 45 := by omega
            have q4 : ¬ (b : Int) = 95 := by omega
            have q5 : ¬ (b : Int) < 48 := by omega
            have q6 : ¬ (57 : Int) < b := by omega
            simp (decide := true) [hlt, hlt', e0, q1, q3, q4, q5, q6, hk0, hk0', I64]
            exact ⟨by omega, k + 1, ⟨by omega, good (by simp [nmC]; omega) (fun h => absurd h hk0)⟩, by omega, by omega⟩
          · simp (decide := true) [hlt, hlt', e0, hk0, hk0', I64]
            exact ⟨by omega, k + 1, ⟨by omega, good (by decide) (fun h => absurd h hk0)⟩, by omega, by omega⟩
          · simp (decide := true) [hlt, hlt', e0, hk0, hk0', I64]
            exact ⟨by omega, k + 1, ⟨by omega, good (by decide) (fun h => absurd h hk0)⟩, by omega, by omega⟩
          · have q3 : ¬ (b : Int) = 45 := by omega
            have q4 : ¬ (b : Int) = 95 := by omega
            have q5 : (b : Int) < 48 := by omega
            have hb := bad (by simp [nmC, hS]; omega)
            simp (decide := true) [hlt, hlt', e0, q1, q3, q4, q5, hk0, hk0', hb]
          · have q3 : ¬ (b : Int) = 45 := by omega
            have q4 : ¬ (b : Int) = 95 := by omega
            have q5 : ¬ (b : Int) < 48 := by omega
            have q6 : (57 : Int) < b := by omega
            have hb := bad (by simp [nmC, hS]; omega)
            simp (decide := true) [hlt, hlt', e0, q1, q3, q4, q5, q6, hk0, hk0', hb]
          · omega
  · have : k = s.size := by omega
    subst this
    have hall : (List.range s.size).all (fun k => nmC (byteN s k)) = true := by
      rw [List.all_eq_true]; intro j hj; exact (hp j (by simpa using hj)).1
    by_cases h1 : 1 ≤ s.size
    · have h1' : (1 : Int) ≤ s.size := by omega
      have hS := (hp 0 (by omega)).2 rfl
      simp (decide := true) [h1', nameP, hall, hS, h1]
      omega
    · have h1' : ¬ (1 : Int) ≤ s.size := by omega
      simp (decide := true) [h1', nameP, h1]
def strsD (l : List ByteArray) : D := .sl (l.map fun s => [.str s])
theorem has17_ok (l : List ByteArray) (s : ByteArray) (hl : l.length < 2^40) : PureE Tryz.prog 146 [strsD l, .str s] IsB := by
  refine some_of_body mixed Tryz.func146 rfl call_146 ?_
  simp (decide := true) [Tryz.f146, int, strsD]
  refine loop_rule mixed (fun k : Nat => { n := 18, next := 0, slots := [(0, .d (strsD l)), (1, .d (.str s)), (5, .d (int k))], own := [] })
    (fun k => k ≤ l.length) (fun k => l.length - k) 0 (by simp) (by simp (decide := true) [int, strsD]) ?_
  intro k hk
  by_cases hlt : k < l.length
  · have hlt' : (k : Int) < l.length := by omega
    obtain ⟨x, ex⟩ : ∃ x, l[k] = x := ⟨_, rfl⟩
    have e1 : l[k]? = some x := by rw [List.getElem?_eq_getElem hlt, ex]
    by_cases b1 : x = s
    · simp (decide := true) [int, strsD, hlt, hlt', e1, ex, b1]
    · simp (decide := true) [int, strsD, hlt, hlt', e1, ex, b1, I64]
      exact fun _ => ⟨⟨by omega, by omega⟩, k + 1, hlt, by omega, by omega⟩
  · have hlt' : ¬ (k : Int) < l.length := by omega
    simp (decide := true) [int, strsD, hlt']
structure OrthC (o : Orth) : Prop where
  name : o.name.size ≤ 1048576
  units : ∀ u ∈ o.units, u.graph.size ≤ 1048576 ∧ u.segs.length ≤ 1048576
  letters : ∀ l ∈ o.letters, l.length ≤ 1048576 ∧ ∀ s ∈ l, s.size ≤ 1048576
  few : o.units.length ≤ 1048576 ∧ o.letters.length ≤ 1048576
end Go.V
namespace Go.V
open Go Go.Proofs
def InvC (inv : List Phon) : Prop := inv.length ≤ 1048576 ∧ ∀ p ∈ inv, p.name.size ≤ 1048576
set_option maxHeartbeats 4000000 in
theorem check16_ok (inv : List Phon) (hi : InvC inv) : PureE Tryz.prog 86 [.agg [invD inv]] IsI := by
  obtain ⟨hl, hn⟩ := hi
  refine some_of_body mixed Tryz.func86 rfl call_86 ?_
  by_cases h0 : (60 : Int) < inv.length
  · simp (decide := true) [Tryz.f86, int, invD, h0]
  simp (decide := true) [Tryz.f86, int, invD, h0]
  refine loop_rule mixed (fun k : Nat => { n := 58, next := 1, slots := [(1, .bp 0 0), (11, .d (int inv.length)), (12, .d (int k))], own := [(0, .box 24 [.d (invD inv)])] })
    (fun k => k ≤ inv.length) (fun k => inv.length - k) 0 (by simp) (by simp (decide := true) [int, invD]) ?_
  intro k hk
  by_cases hlt : k < inv.length
  · have hlt' : (k : Int) < inv.length := by omega
    have hnk := hn inv[k] (List.getElem_mem hlt)
    obtain ⟨x, ex⟩ : ∃ x, inv[k] = x := ⟨_, rfl⟩
    have ex1 : inv[k]? = some x := by rw [List.getElem?_eq_getElem hlt, ex]
    rw [ex] at hnk
    simp (decide := true) [int, invD, hlt, hlt', ex, ex1, Phon.row]
    refine ECall.some (by rfl) (label10_ok x.name hnk) ?_
    rintro r ⟨b, rfl⟩
    cases b with
    | false => simp (decide := true) [int]
    | true =>
      simp (decide := true) [int]
      refine loop_rule mixed (fun m : Nat => { n := 58, next := 1, slots := [(1, .bp 0 0), (3, .d (int k)), (4, .d (int m)), (11, .d (int inv.length)), (12, .d (int k))], own := [(0, .box 24 [.d (invD inv)])] })
        (fun m => m ≤ k) (fun m => k - m) 0 (by simp) (by simp (decide := true) [int, invD, Phon.row]) ?_
      intro m hm
      by_cases hlm : m < k
      · have hlm' : (m : Int) < k := by omega
        have hmi : m < inv.length := by omega
        have hmi' : (m : Int) < inv.length := by omega
        obtain ⟨y, ey⟩ : ∃ y, inv[m] = y := ⟨_, rfl⟩
        have ey1 : inv[m]? = some y := by rw [List.getElem?_eq_getElem hmi, ey]
        by_cases b1 : y.name = x.name
        · simp (decide := true) [int, invD, hlm, hlm', hmi, hmi', hlt, hlt', ex, ex1, ey, ey1, Phon.row, b1]
        · simp (decide := true) [int, invD, hlm, hlm', hmi, hmi', hlt, hlt', ex, ex1, ey, ey1, Phon.row, b1, I64]
          exact fun _ => ⟨⟨by omega, by omega⟩, m + 1, hlm, by omega, by omega⟩
      · have hlm' : ¬ (m : Int) < k := by omega
        by_cases b1 : x.feat < 0
        · simp (decide := true) [int, invD, hlm', hlt, hlt', ex, ex1, Phon.row, b1]
        · by_cases b2 : 65536 ≤ x.feat
          · simp (decide := true) [int, invD, hlm', hlt, hlt', ex, ex1, Phon.row, b1, b2]
          · simp (decide := true) [int, invD, hlm', hlt, hlt', ex, ex1, Phon.row, b1, b2, I64]
            exact ⟨⟨by omega, by omega⟩, k + 1, hlt, by omega, by omega⟩
  · have hlt' : ¬ (k : Int) < inv.length := by omega
    simp (decide := true) [int, invD, hlt']
def jn (l : List (List ByteArray)) : List ByteArray := l.flatten
end Go.V
namespace Go.V
open Go Go.Proofs
def lessN (l : List Int) (n : Int) : Nat := (l.takeWhile fun x => decide (x < n)).length
def putL (l : List Int) (n : Int) : List Int := l.take (lessN l n) ++ [n] ++ (if l[lessN l n]? = some n then l.drop (lessN l n + 1) else l.drop (lessN l n))
theorem lessN_is {l : List Int} {n : Int} {k : Nat} (hk : k ≤ l.length) (h1 : ∀ x ∈ l.take k, x < n) (h2 : ∀ h : k < l.length, ¬ l[k] < n) : lessN l n = k := by
  unfold lessN
  have e : l = l.take k ++ l.drop k := (List.take_append_drop k l).symm
  have h3 : (l.takeWhile fun x => decide (x < n)) = l.take k := by
    conv => lhs; rw [e]
    rw [List.takeWhile_append_of_pos (by intro a ha; simpa using h1 a ha)]
    by_cases hl : k < l.length
    · rw [List.drop_eq_getElem_cons hl, List.takeWhile_cons_of_neg (by simpa using h2 hl), List.append_nil]
    · rw [List.drop_eq_nil_of_le (by omega)]; simp
  rw [h3, List.length_take]; omega
set_option maxHeartbeats 4000000 in
theorem put_ok (l : List Int) (n : Int) (hl : l.length < 2^40) : PureR Tryz.prog 230 [ints l, int n] (ints (putL l n)) := by
  refine pure_of_body_frz mixed Tryz.func230 rfl call_230 [1] ?_
  simp (decide := true) [Tryz.f230, int, ints]
  refine loop_rule mixed (fun k : Nat => { n := 51, next := 2, slots := [(0, .d (ints l)), (1, .d (int n)), (5, .ar 1), (6, .d (int k))], own := [(1, .arr 3 1 ((l.take k).map fun x => [int x]))], moved := [1] })
    (fun k => k ≤ l.length ∧ ∀ x ∈ l.take k, x < n) (fun k => l.length - k) 0 (by simp) (by simp (decide := true) [int, ints]) ?_
  rintro k ⟨hk, hp⟩
  have hkl : (l.take k).length = k := by rw [List.length_take]; omega
  by_cases hlt : k < l.length
  · have hlt' : (k : Int) < l.length := by omega
    have em : l[k]? = some l[k] := List.getElem?_eq_getElem hlt
    by_cases hx : l[k] < n
    · simp (decide := true) [int, ints, hlt, hlt', em, hx, I64]
      refine ⟨by omega, by unfold maxLen; omega, ⟨by omega, by omega⟩, k + 1, ⟨hlt, fun x hx2 => ?_⟩, by omega, by omega, ?_⟩
      · rw [take_snocG hlt] at hx2
        rcases List.mem_append.1 hx2 with h | h
        · exact hp x h
        · rw [List.mem_singleton] at h; rw [h]; exact hx
      · rw [take_snocG (by rw [List.length_map]; exact hlt), List.getElem_map]
    · have hE : putL l n = l.take k ++ [n] ++ (if l[k]? = some n then l.drop (k + 1) else l.drop k) := by
        unfold putL
        rw [lessN_is hk hp fun _ => hx]
      rw [hE, em]
      by_cases hy : l[k] = n
      · rw [if_pos (by rw [hy])]
        simp (decide := true) [int, ints, hlt, hlt', em, hx, hy, I64]
        refine ⟨by omega, by unfold maxLen; omega, ⟨by omega, by omega⟩, ⟨by omega, by omega⟩, fun r hr => ?_, by omega, by unfold maxLen; omega, ?_⟩
        · have := List.mem_of_mem_take (List.mem_of_mem_drop hr)
          rw [List.mem_map] at this
          obtain ⟨z, _, rfl⟩ := this; rfl
        · rw [List.take_of_length_le (by simp)]
      · rw [if_neg (by simpa using hy)]
        simp (decide := true) [int, ints, hlt, hlt', em, hx, hy, I64]
        refine ⟨by omega, by unfold maxLen; omega, by omega, fun r hr => ?_, by omega, by unfold maxLen; omega, ?_⟩
        · have := List.mem_of_mem_take (List.mem_of_mem_drop hr)
          rw [List.mem_map] at this
          obtain ⟨z, _, rfl⟩ := this; rfl
        · rw [List.take_of_length_le (by simp)]
  · have : k = l.length := by omega
    subst this
    have hE : putL l n = l.take l.length ++ [n] ++ [] := by
      unfold putL
      rw [lessN_is hk hp fun h => absurd h (by omega)]
      simp
    rw [hE]
    simp (decide := true) [int, ints, I64]
    exact ⟨by omega, by unfold maxLen; omega, by omega, by unfold maxLen; omega⟩
theorem lessN_le (l : List Int) (n : Int) : lessN l n ≤ l.length := (List.takeWhile_sublist _).length_le
theorem takeW_mem {p : Int → Bool} : ∀ {l : List Int} {x : Int}, x ∈ l.takeWhile p → p x = true
  | [], x, h => by cases h
  | a :: r, x, h => by
    by_cases e : p a = true
    · rw [List.takeWhile_cons_of_pos e] at h
      rcases List.mem_cons.1 h with rfl | h
      · exact e
      · exact takeW_mem h
    · rw [List.takeWhile_cons_of_neg e] at h; cases h
theorem lessN_take (l : List Int) (n : Int) : ∀ x ∈ l.take (lessN l n), x < n := by
  intro x hx
  have : l.take (lessN l n) = l.takeWhile fun x => decide (x < n) := by
    unfold lessN
    have := List.takeWhile_prefix (l := l) fun x => decide (x < n)
    exact (List.prefix_iff_eq_take.1 this).symm
  rw [this] at hx
  simpa using takeW_mem hx
theorem lessN_stop {l : List Int} {n : Int} (h : lessN l n < l.length) : ¬ l[lessN l n] < n := by
  intro hx
  have e1 : (l.takeWhile fun x => decide (x < n)) ++ (l.dropWhile fun x => decide (x < n)) = l := List.takeWhile_append_dropWhile
  cases hd : l.dropWhile fun x => decide (x < n) with
  | nil =>
    rw [hd, List.append_nil] at e1
    have : lessN l n = l.length := by unfold lessN; rw [e1]
    omega
  | cons y r =>
    have hy := List.head_dropWhile_not (fun x => decide (x < n)) (by rw [hd]; simp : l.dropWhile (fun x => decide (x < n)) ≠ [])
    simp only [hd, List.head_cons, decide_eq_false_iff_not] at hy
    have e0 : ∀ A B : List Int, B = y :: r → (A ++ B)[A.length]? = some y := by
      intro A B h
      rw [h, List.getElem?_append_right (Nat.le_refl _), Nat.sub_self]; rfl
    have e3 := e0 (l.takeWhile fun x => decide (x < n)) _ hd
    rw [e1] at e3
    change l[lessN l n]? = some y at e3
    rw [List.getElem?_eq_getElem h] at e3
    have := Option.some.inj e3
    rw [this] at hx
    exact hy hx
theorem putL_rest {l : List Int} (hs : l.Pairwise fun x y => x < y) (n : Int) : ∀ x, x ∈ (if l[lessN l n]? = some n then l.drop (lessN l n + 1) else l.drop (lessN l n)) ↔ x ∈ l ∧ n < x := by
  intro x
  have hpw := List.pairwise_iff_getElem.1 hs
  have hmem : x ∈ l → n < x → x ∈ l.drop (lessN l n) := fun hx hn => by
    have hx' := hx
    rw [← List.take_append_drop (lessN l n) l] at hx'
    rcases List.mem_append.1 hx' with h | h
    · have := lessN_take l n x h; omega
    · exact h
  by_cases hlt : lessN l n < l.length
  · have hst := lessN_stop hlt
    have hge : ∀ y ∈ l.drop (lessN l n + 1), l[lessN l n] < y := fun y hy => by
      obtain ⟨i, hi, rfl⟩ := List.mem_iff_getElem.1 hy
      rw [List.length_drop] at hi
      rw [List.getElem_drop]
      exact hpw _ _ hlt (by omega) (by omega)
    rw [List.getElem?_eq_getElem hlt]
    by_cases e : l[lessN l n] = n
    · rw [if_pos (by rw [e])]
      constructor
      · intro hx
        have := hge x hx
        exact ⟨List.mem_of_mem_drop hx, by omega⟩
      · rintro ⟨hx, hn⟩
        have := hmem hx hn
        rw [List.drop_eq_getElem_cons hlt] at this
        rcases List.mem_cons.1 this with h | h
        · omega
        · exact h
    · rw [if_neg (by simpa using e)]
      constructor
      · intro hx
        refine ⟨List.mem_of_mem_drop hx, ?_⟩
        rw [List.drop_eq_getElem_cons hlt] at hx
        rcases List.mem_cons.1 hx with h | h
        · omega
        · have := hge x h; omega
      · rintro ⟨hx, hn⟩; exact hmem hx hn
  · have hd : l.drop (lessN l n) = [] := List.drop_eq_nil_of_le (by omega)
    rw [List.getElem?_eq_none (by omega), if_neg (by simp), hd]
    constructor
    · intro h; cases h
    · rintro ⟨hx, hn⟩
      have := hmem hx hn
      rwa [hd] at this
theorem putL_mem {l : List Int} (hs : l.Pairwise fun x y => x < y) {n x : Int} : x ∈ putL l n ↔ x = n ∨ x ∈ l := by
  unfold putL
  rw [List.mem_append, List.mem_append, List.mem_singleton, putL_rest hs]
  constructor
  · rintro ((h | h) | h)
    · exact .inr (List.mem_of_mem_take h)
    · exact .inl h
    · exact .inr h.1
  · rintro (h | h)
    · exact .inl (.inr h)
    · rcases Int.lt_trichotomy x n with q | q | q
      · have h' := h
        rw [← List.take_append_drop (lessN l n) l] at h'
        rcases List.mem_append.1 h' with h2 | h2
        · exact .inl (.inl h2)
        · exfalso
          have hpw := List.pairwise_iff_getElem.1 hs
          obtain ⟨i, hi, rfl⟩ := List.mem_iff_getElem.1 h2
          rw [List.length_drop] at hi
          rw [List.getElem_drop] at q
          have hst := lessN_stop (l := l) (n := n) (by omega)
          rcases Nat.eq_zero_or_pos i with rfl | hi0
          · exact hst q
          · have := hpw (lessN l n) (lessN l n + i) (by omega) (by omega) (by omega)
            omega
      · exact .inl (.inr q)
      · exact .inr ⟨h, q⟩
theorem putL_sorted {l : List Int} (hs : l.Pairwise fun x y => x < y) (n : Int) : (putL l n).Pairwise fun x y => x < y := by
  unfold putL
  rw [List.pairwise_append, List.pairwise_append]
  have hA := lessN_take l n
  have hB := fun x => (putL_rest hs n x).1
  refine ⟨⟨hs.sublist (List.take_sublist _ _), by simp, fun a ha b hb => ?_⟩, ?_, fun a ha b hb => ?_⟩
  · rw [List.mem_singleton] at hb; rw [hb]; exact hA a ha
  · split
    · exact hs.sublist (List.drop_sublist _ _)
    · exact hs.sublist (List.drop_sublist _ _)
  · have h1 := (hB b hb).2
    rcases List.mem_append.1 ha with h | h
    · have := hA a h; omega
    · rw [List.mem_singleton] at h; omega
def sortL (l : List Int) : List Int := l.foldl putL []
theorem sortL_snoc (l : List Int) (n : Int) : sortL (l ++ [n]) = putL (sortL l) n := by unfold sortL; rw [List.foldl_append]; rfl
theorem putL_len {l : List Int} (hs : l.Pairwise fun x y => x < y) (n : Int) : (putL l n).length = l.length + (if n ∈ l then 0 else 1) := by
  have hle := lessN_le l n
  have hin : n ∈ l ↔ l[lessN l n]? = some n := by
    constructor
    · intro hm
      obtain ⟨k, hk, ek⟩ := List.mem_iff_getElem.1 hm
      have hpw := List.pairwise_iff_getElem.1 hs
      have : lessN l n = k := by
        refine lessN_is (Nat.le_of_lt hk) (fun x hx => ?_) (fun h => by rw [ek]; omega)
        obtain ⟨i, hi, rfl⟩ := List.mem_iff_getElem.1 hx
        rw [List.length_take] at hi
        rw [List.getElem_take, ← ek]
        exact hpw i k (by omega) hk (by omega)
      rw [this, List.getElem?_eq_getElem hk, ek]
    · intro h; exact List.mem_of_getElem? h
  unfold putL
  by_cases h : l[lessN l n]? = some n
  · rw [if_pos h, if_pos (hin.2 h)]
    have : lessN l n < l.length := by
      rcases Nat.lt_or_ge (lessN l n) l.length with h' | h'
      · exact h'
      · rw [List.getElem?_eq_none h'] at h; cases h
    simp; omega
  · rw [if_neg h, if_neg (fun h' => h (hin.1 h'))]
    simp; omega
theorem sortL_facts : ∀ (m : Nat) (l : List Int), l.length = m → (sortL l).Pairwise (fun x y => x < y) ∧ (∀ x, x ∈ sortL l ↔ x ∈ l) ∧ (sortL l).length ≤ l.length ∧ ((sortL l).length = l.length → l.Nodup)
  | 0, l, h => by
    have : l = [] := List.length_eq_zero_iff.mp h
    subst this
    exact ⟨List.Pairwise.nil, fun x => Iff.rfl, Nat.le_refl _, fun _ => List.nodup_nil⟩
  | m + 1, l, h => by
    have hne : l ≠ [] := by intro e; subst e; cases h
    obtain ⟨a, n, rfl⟩ : ∃ a n, l = a ++ [n] := ⟨l.dropLast, l.getLast hne, (List.dropLast_concat_getLast hne).symm⟩
    have hm : a.length = m := by simpa using h
    obtain ⟨h1, h2, h3, h4⟩ := sortL_facts m a hm
    rw [sortL_snoc]
    have hl := putL_len h1 n
    refine ⟨putL_sorted h1 n, fun x => ?_, ?_, fun he => ?_⟩
    · rw [putL_mem h1, h2, List.mem_append, List.mem_singleton]
      exact Or.comm
    · rw [hl, List.length_append]; split <;> simp <;> omega
    · rw [hl, List.length_append] at he
      simp only [List.length_singleton] at he
      by_cases hn : n ∈ sortL a
      · rw [if_pos hn] at he; omega
      · rw [if_neg hn] at he
        rw [List.nodup_append]
        refine ⟨h4 (by omega), by simp, fun x hx y hy => ?_⟩
        rw [List.mem_singleton] at hy
        subst hy
        intro e; subst e
        exact hn ((h2 x).2 hx)
theorem sortL_nodup {l : List Int} (h : (sortL l).length = l.length) : l.Nodup := (sortL_facts _ l rfl).2.2.2 h
theorem sortL_len (l : List Int) : (sortL l).length ≤ l.length := (sortL_facts _ l rfl).2.2.1
set_option maxHeartbeats 4000000 in
theorem sorted_ok (l : List Int) (hl : l.length < 2^40) : PureR Tryz.prog 198 [ints l] (ints (sortL l)) := by
  refine pure_of_body mixed Tryz.func198 rfl call_198 ?_
  simp (decide := true) [Tryz.f198, int, ints]
  refine triple_frz [1] ?_
  refine loop_rule mixed (fun k : Nat => { n := 18, next := 2, slots := [(0, .d (ints l)), (3, .d (ints (sortL (l.take k)))), (6, .d (int l.length)), (7, .d (int k))], own := [], moved := [] })
    (fun k => k ≤ l.length) (fun k => l.length - k) 0 (by simp) (by simp (decide := true) [int, ints, sortL]) ?_
  intro k hk
  by_cases hlt : k < l.length
  case neg =>
    have : k = l.length := by omega
    subst this
    rw [List.take_length]
    simp (decide := true) [int, ints]
  have hlt' : (k : Int) < l.length := by omega
  have hsn : sortL (l.take (k + 1)) = putL (sortL (l.take k)) l[k] := by rw [take_snocG hlt, sortL_snoc]
  have hsl := sortL_len (l.take k)
  rw [List.length_take] at hsl
  obtain ⟨n, en⟩ : ∃ n, l[k] = n := ⟨_, rfl⟩
  have e1 : l[k]? = some n := by rw [List.getElem?_eq_getElem hlt, en]
  rw [en] at hsn
  have hP := put_ok (sortL (l.take k)) n (by omega)
  rw [← hsn] at hP
  simp (decide := true) [int, ints, hlt, hlt', e1, en]
  refine ECall.pure (by rfl) hP (by simp [int, ints]) ?_
  simp (decide := true) [int, ints]
  exact ⟨⟨by omega, by omega⟩, k + 1, hlt, by omega, rfl, by omega⟩
def segBad (inv : List Phon) (r : Rule) (k : Nat) : Bool := !(isSeg inv (r.src[k]?.getD 0)) || (decide (r.dst[k]?.getD 0 ≠ 0) && !(isSeg inv (r.dst[k]?.getD 0)))
def ruleC (inv : List Phon) (r : Rule) : Int :=
  if r.src.length = 0 ∨ r.dst.length ≠ r.src.length then 1 else if ((List.range r.src.length).any fun k => segBad inv r k) = true then 19
  else if (sortL r.src).length ≠ r.src.length then 8 else if 2 < r.left.length ∨ 2 < r.right.length then 5 else 0
set_option maxHeartbeats 8000000 in
theorem check22_ok (inv : List Phon) (r : Rule) (hs : r.src.length ≤ 1048576) (hd : r.dst.length ≤ 1048576) : PureR Tryz.prog 147 [.agg [invD inv], .agg r.row] (int (ruleC inv r)) := by
  obtain ⟨src, dst, left, right, beg, fin⟩ := r
  simp only at hs hd
  have hS := sorted_ok src (by omega)
  refine pure_of_body mixed Tryz.func147 rfl call_147 ?_
  obtain ⟨R, hR⟩ : ∃ R, ruleC inv ⟨src, dst, left, right, beg, fin⟩ = R := ⟨_, rfl⟩
  rw [hR]
  unfold ruleC at hR
  simp only at hR
  by_cases h0 : src.length = 0
  · have : R = 1 := by rw [← hR, if_pos (.inl h0)]
    subst this
    have h0' : (src.length : Int) = 0 := by omega
    simp (decide := true) [Tryz.f147, int, ints, Rule.row, h0, h0']
    done
  have h0' : ¬ (src.length : Int) = 0 := by omega
  by_cases h1 : dst.length = src.length
  case neg =>
    have : R = 1 := by rw [← hR, if_pos (.inr h1)]
    subst this
    have h1' : ¬ (dst.length : Int) = src.length := by omega
    simp (decide := true) [Tryz.f147, int, ints, Rule.row, h0, h0', h1, h1']
    done
  have h1' : (dst.length : Int) = src.length := by omega
  rw [if_neg (by rintro (h | h); exact h0 h; exact h h1)] at hR
  simp (decide := true) [Tryz.f147, int, ints, Rule.row, h0, h0', h1, h1']
  refine loop_rule mixed (fun k : Nat => { n := 70, next := 2, slots := [(2, .bp 0 0), (3, .bp 1 0), (21, .d (int src.length)), (22, .d (int k))], own := [(0, .box 24 [.d (invD inv)]), (1, .box 90 [.d (ints src), .d (ints dst), .d (clsD left), .d (clsD right), .d (.bool beg), .d (.bool fin)])] })
    (fun k => k ≤ src.length ∧ ∀ j, j < k → segBad inv ⟨src, dst, left, right, beg, fin⟩ j = false) (fun k => src.length - k) 0 (by simp) (by simp (decide := true) [int, ints]) ?_
  intro k ⟨hk, hp⟩
  by_cases hlt : k < src.length
  · have hlt' : (k : Int) < src.length := by omega
    have hld : k < dst.length := by omega
    have hld' : (k : Int) < dst.length := by omega
    obtain ⟨x, ex⟩ : ∃ x, src[k] = x := ⟨_, rfl⟩
    obtain ⟨y, ey⟩ : ∃ y, dst[k] = y := ⟨_, rfl⟩
    have ex1 : src[k]? = some x := by rw [List.getElem?_eq_getElem hlt, ex]
    have ey1 : dst[k]? = some y := by rw [List.getElem?_eq_getElem hld, ey]
    have hI := refIs_ok inv x
    have hJ := refIs_ok inv y
    have hsb : segBad inv ⟨src, dst, left, right, beg, fin⟩ k = (!(isSeg inv x) || (decide (y ≠ 0) && !(isSeg inv y))) := by unfold segBad; simp only; rw [ex1, ey1]; rfl
    have hbad : segBad inv ⟨src, dst, left, right, beg, fin⟩ k = true → R = 19 := by
      intro h
      rw [← hR, if_pos (List.any_eq_true.2 ⟨k, List.mem_range.2 hlt, h⟩)]
    have hgood : segBad inv ⟨src, dst, left, right, beg, fin⟩ k = false → ∀ j, j < k + 1 → segBad inv ⟨src, dst, left, right, beg, fin⟩ j = false := by
      intro h j hj
      rcases Nat.lt_succ_iff_lt_or_eq.mp hj with h' | h'
      · exact hp j h'
      · rw [h']; exact h
    rw [hsb] at hbad hgood
    simp (decide := true) [int, ints, hlt, hlt', ex, ex1]
    refine scall_pure (by rfl) (by rfl) hI (by simp [int]) ?_
    cases hx : isSeg inv x with
    | false =>
      rw [hx] at hbad
      have := hbad rfl
      subst this
      simp (decide := true) [int]
    | true =>
      rw [hx] at hbad hgood
      by_cases hy : y = 0
      · rw [decide_eq_false (by simpa using hy)] at hgood
        have hg := hgood rfl
        simp (decide := true) [int, ints, hlt, hlt', hld, hld', ex, ex1, ey, ey1, hy, I64]
        exact ⟨⟨by omega, by omega⟩, k + 1, ⟨hlt, hg⟩, by omega, by omega⟩
      · rw [decide_eq_true (by simpa using hy)] at hgood hbad
        simp (decide := true) [int, ints, hlt, hlt', hld, hld', ex, ex1, ey, ey1, hy, I64]
        refine scall_pure (by rfl) (by rfl) hJ (by simp [int]) ?_
        cases hz : isSeg inv y with
        | false =>
          rw [hz] at hbad
          have := hbad rfl
          subst this
          simp (decide := true) [int]
        | true =>
          rw [hz] at hgood
          have hg := hgood rfl
          simp (decide := true) [int, I64]
          exact ⟨⟨by omega, by omega⟩, k + 1, ⟨hlt, hg⟩, by omega, by omega⟩
  · have : k = src.length := by omega
    subst this
    have hany : ((List.range src.length).any fun k => segBad inv ⟨src, dst, left, right, beg, fin⟩ k) = false := by
      rw [List.any_eq_false]
      intro j hj
      rw [hp j (List.mem_range.1 hj)]; decide
    rw [if_neg (by rw [hany]; decide)] at hR
    simp (decide := true) [int, ints]
    refine scall_pure (by rfl) (by rfl) hS (by simp [int, ints]) ?_
    by_cases hn : (sortL src).length = src.length
    · have hn' : ((sortL src).length : Int) = src.length := by omega
      rw [if_neg (by simpa using hn)] at hR
      by_cases hl : 2 < left.length
      · have hl' : (2 : Int) < left.length := by omega
        rw [if_pos (.inl hl)] at hR
        subst hR
        simp (decide := true) [int, ints, clsD, hn, hn', hl, hl']
      · have hl' : ¬ (2 : Int) < left.length := by omega
        by_cases hr : 2 < right.length
        · have hr' : (2 : Int) < right.length := by omega
          rw [if_pos (.inr hr)] at hR
          subst hR
          simp (decide := true) [int, ints, clsD, hn, hn', hl, hl', hr, hr']
        · have hr' : ¬ (2 : Int) < right.length := by omega
          rw [if_neg (by rintro (h | h); exact hl h; exact hr h)] at hR
          subst hR
          simp (decide := true) [int, ints, clsD, hn, hn', hl, hl', hr, hr']
    · have hn' : ¬ ((sortL src).length : Int) = src.length := by omega
      rw [if_pos (by simpa using hn)] at hR
      subst hR
      simp (decide := true) [int, ints, clsD, hn, hn']
theorem ruleC_zero {inv : List Phon} {r : Rule} (h : ruleC inv r = 0) (hs : r.src.length ≤ 1048576) : RuleL r := by
  unfold ruleC at h
  split at h
  · cases h
  rename_i h1
  split at h
  · cases h
  split at h
  · cases h
  rename_i h3
  split at h
  · cases h
  rename_i h4
  have h1' : r.dst.length = r.src.length := Classical.byContradiction fun e => h1 (.inr e)
  have h3' : (sortL r.src).length = r.src.length := Classical.byContradiction fun e => h3 e
  exact { src := by omega, left := by omega, right := by omega, dst := h1', once := sortL_nodup h3' }
def DstF (inv : List Phon) (r : Rule) : Prop := ∀ x ∈ r.dst, x = 0 ∨ isSeg inv x = true
theorem ruleC_dst {inv : List Phon} {r : Rule} (h : ruleC inv r = 0) : DstF inv r := by
  unfold ruleC at h
  split at h
  · cases h
  rename_i h1
  split at h
  · cases h
  rename_i h2
  have h1' : r.dst.length = r.src.length := Classical.byContradiction fun e => h1 (.inr e)
  intro x hx
  obtain ⟨k, hk, ek⟩ := List.mem_iff_getElem.1 hx
  have h3 : ((List.range r.src.length).any fun k => segBad inv r k) = false := by simpa using h2
  rw [List.any_eq_false] at h3
  have h4 := h3 k (List.mem_range.2 (by omega))
  unfold segBad at h4
  rw [List.getElem?_eq_getElem hk, ek, Option.getD_some] at h4
  by_cases hz : x = 0
  · exact .inl hz
  · right
    cases hs : isSeg inv x with
    | true => rfl
    | false => rw [hs] at h4; simp [hz] at h4
structure RulesC (rs : List Rule) : Prop where
  few : rs.length ≤ 1048576
  each : ∀ r ∈ rs, r.src.length ≤ 1048576 ∧ r.dst.length ≤ 1048576
set_option maxHeartbeats 4000000 in
theorem rules29_ok (g : Lang) (hr : RulesC g.rules) : PureE Tryz.prog 88 [g.d] (fun x => ∃ e, x = int e ∧ (e = 0 → ∀ r ∈ g.rules, RuleL r ∧ DstF g.inv r)) := by
  have hfew := hr.few
  refine some_of_body mixed Tryz.func88 rfl call_88 ?_
  by_cases h0 : (12 : Int) < g.rules.length
  · simp (decide := true) [Tryz.f88, Lang.d, int, rulesD, h0]
  simp (decide := true) [Tryz.f88, Lang.d, int, rulesD, h0]
  refine loop_rule mixed (fun k : Nat => { n := 27, next := 1, slots := [(1, .bp 0 0), (3, .d (int k))], own := [(0, .box 36 (unAgg g.d))] })
    (fun k => k ≤ g.rules.length ∧ ∀ r ∈ g.rules.take k, RuleL r ∧ DstF g.inv r) (fun k => g.rules.length - k) 0 (by simp) (by simp (decide := true) [int, rulesD, unAgg, Lang.d]) ?_
  intro k ⟨hk, hp⟩
  by_cases hlt : k < g.rules.length
  · have hlt' : (k : Int) < g.rules.length := by omega
    have he := hr.each g.rules[k] (List.getElem_mem hlt)
    obtain ⟨r, er⟩ : ∃ r, g.rules[k] = r := ⟨_, rfl⟩
    have er1 : g.rules[k]? = some r := by rw [List.getElem?_eq_getElem hlt, er]
    have hsn := take_snocG hlt
    rw [er] at he hsn
    have hC := check22_ok g.inv r he.1 he.2
    simp (decide := true) [int, rulesD, unAgg, Lang.d, hlt, hlt', er, er1, Rule.row]
    refine scall_pure (by rfl) (by rfl) hC (by simp [int, Rule.row]) ?_
    by_cases hz : ruleC g.inv r = 0
    · rw [hz]
      simp (decide := true) [int, I64, unAgg, Lang.d, rulesD]
      refine ⟨⟨by omega, by omega⟩, k + 1, ⟨hlt, fun x hx => ?_⟩, by omega, by omega⟩
      rw [hsn] at hx
      rcases List.mem_append.1 hx with h | h
      · exact hp x h
      · rw [List.mem_singleton] at h; rw [h]; exact ⟨ruleC_zero hz he.1, ruleC_dst hz⟩
    · simp (decide := true) [int, hz]
  · have : k = g.rules.length := by omega
    subst this
    rw [List.take_length] at hp
    simp (decide := true) [int, rulesD, unAgg, Lang.d]
    exact hp
end Go.V
namespace Go.V
open Go Go.Proofs
theorem state23_ok (n : Nett) (q : Int) : PureR Tryz.prog 148 [.agg n.cells, int q] (.bool (decide (0 ≤ q ∧ q < n.states))) := by
  refine pure_of_body mixed Tryz.func148 rfl call_148 ?_
  by_cases h0 : 0 ≤ q
  · simp (decide := true) [Tryz.f148, int, Nett.cells, h0]
  · simp (decide := true) [Tryz.f148, int, Nett.cells, h0]
def StpIn (n : Nett) (s : Stp) : Prop := (0 ≤ s.src ∧ s.src < n.states) ∧ (0 ≤ s.dst ∧ s.dst < n.states) ∧ 1 ≤ s.cls ∧ s.cls ≤ 20
structure NetF (n : Nett) : Prop where
  lo : 1 ≤ n.states
  steps : ∀ s ∈ n.steps, StpIn n s
  final : ∀ q ∈ n.final, 0 ≤ q ∧ q < n.states
set_option maxHeartbeats 16000000 in
theorem check23_ok (n : Nett) (hs : n.steps.length ≤ 1048576) (hf : n.final.length ≤ 1048576) : PureE Tryz.prog 89 [.agg n.cells] (fun x => ∃ e, x = int e ∧ (e = 0 → NetF n)) := by
  refine some_of_body mixed Tryz.func89 rfl call_89 ?_
  by_cases h0 : n.states < 1
  · simp (decide := true) [Tryz.f89, int, Nett.cells, h0]
  by_cases h1 : 24 < n.states
  · simp (decide := true) [Tryz.f89, int, Nett.cells, h0, h1]
  by_cases h2 : (200 : Int) < n.steps.length
  · simp (decide := true) [Tryz.f89, int, Nett.cells, stepsD, h0, h1, h2]
  simp (decide := true) [Tryz.f89, int, Nett.cells, stepsD, h0, h1, h2]
  refine loop_rule mixed (fun k : Nat => { n := 98, next := 1, slots := [(1, .bp 0 0), (3, .d (int k))], own := [(0, .box 33 (n.cells.map .d))] })
    (fun k => k ≤ n.steps.length ∧ ∀ s ∈ n.steps.take k, StpIn n s) (fun k => n.steps.length - k) 0 (by simp) (by simp (decide := true) [int, ints, stepsD, Nett.cells]) ?_
  intro k ⟨hk, hp⟩
  by_cases hlt : k < n.steps.length
  · have hlt' : (k : Int) < n.steps.length := by omega
    obtain ⟨x, ex⟩ : ∃ x, n.steps[k] = x := ⟨_, rfl⟩
    have ex1 : n.steps[k]? = some x := by rw [List.getElem?_eq_getElem hlt, ex]
    have hsn := take_snocG hlt
    rw [ex] at hsn
    have hA := state23_ok n x.src
    have hB := state23_ok n x.dst
    simp (decide := true) [int, ints, stepsD, Nett.cells, hlt, hlt', ex, ex1, Stp.row]
    refine ECall.pure (by rfl) hA (by simp [int]) ?_
    by_cases a1 : 0 ≤ x.src ∧ x.src < n.states
    case neg => simp (decide := true) [int, a1]
    simp (decide := true) [int, ints, stepsD, a1]
    refine ECall.pure (by rfl) hB (by simp [int]) ?_
    by_cases a2 : 0 ≤ x.dst ∧ x.dst < n.states
    case neg => simp (decide := true) [int, a2]
    by_cases a3 : x.cls < 1
    · simp (decide := true) [int, a2, a3]
    by_cases a4 : 20 < x.cls
    · simp (decide := true) [int, a2, a3, a4]
    simp (decide := true) [int, ints, stepsD, Nett.cells, a2, a3, a4]
    refine loop_rule mixed (fun m : Nat => { n := 98, next := 2, slots := [(1, .bp 0 0), (3, .d (int k)), (4, .bp 1 0), (5, .d (int m))], own := [(0, .box 33 (n.cells.map .d)), (1, .box 156 (x.row.map .d))] })
      (fun m => m ≤ k) (fun m => k - m) 0 (by simp) (by simp (decide := true) [int, ints, stepsD, Nett.cells, Stp.row]) ?_
    intro m hm
    by_cases hlm : m < k
    · have hlm' : (m : Int) < k := by omega
      have hml : m < n.steps.length := by omega
      have hml' : (m : Int) < n.steps.length := by omega
      obtain ⟨y, ey⟩ : ∃ y, n.steps[m] = y := ⟨_, rfl⟩
      have ey1 : n.steps[m]? = some y := by rw [List.getElem?_eq_getElem hml, ey]
      simp (decide := true) [int, ints, stepsD, Nett.cells, hlm, hlm', hml, hml', ey, ey1, Stp.row, I64]
      exact fun _ => ⟨⟨by omega, by omega⟩, m + 1, hlm, by omega, by omega⟩
    · have hlm' : ¬ (m : Int) < k := by omega
      simp (decide := true) [int, ints, stepsD, Nett.cells, hlm', I64]
      refine ⟨⟨by omega, by omega⟩, k + 1, ⟨hlt, fun s hm2 => ?_⟩, by omega, by omega⟩
      rw [hsn] at hm2
      rcases List.mem_append.1 hm2 with h | h
      · exact hp s h
      · rw [List.mem_singleton] at h; rw [h]; exact ⟨a1, a2, by omega, by omega⟩
  · have : k = n.steps.length := by omega
    subst this
    rw [List.take_length] at hp
    simp (decide := true) [int, ints, stepsD, Nett.cells]
    refine loop_rule mixed (fun k : Nat => { n := 98, next := 1, slots := [(1, .bp 0 0), (6, .d (int ((k : Int) + 1)))], own := [(0, .box 33 (n.cells.map .d))] })
      (fun k => k ≤ n.final.length) (fun k => n.final.length - k) 0 (by simp) (by simp (decide := true) [int, ints, stepsD, Nett.cells]) ?_
    intro i hi
    by_cases hli : i + 1 < n.final.length
    · have hli' : (i : Int) + 1 < n.final.length := by omega
      have hl0 : i < n.final.length := by omega
      have hl0' : (i : Int) < n.final.length := by omega
      obtain ⟨u, eu⟩ : ∃ u, n.final[i + 1] = u := ⟨_, rfl⟩
      have eu1 : n.final[i + 1]? = some u := by rw [List.getElem?_eq_getElem hli, eu]
      obtain ⟨v, ev⟩ : ∃ v, n.final[i] = v := ⟨_, rfl⟩
      have ev1 : n.final[i]? = some v := by rw [List.getElem?_eq_getElem hl0, ev]
      have t1 : ((i : Int) + 1).toNat = i + 1 := by omega
      have t2 : 0 ≤ (i : Int) + 1 := by omega
      by_cases b1 : u ≤ v
      · simp (decide := true) [int, ints, stepsD, Nett.cells, hli, hli', hl0, hl0', eu, eu1, ev, ev1, t1, t2, b1, I64]
        omega
      · simp (decide := true) [int, ints, stepsD, Nett.cells, hli, hli', hl0, hl0', eu, eu1, ev, ev1, t1, t2, b1, I64]
        exact ⟨by omega, ⟨by omega, by omega⟩, i + 1, by omega, by omega, by omega⟩
    · have hli' : ¬ (i : Int) + 1 < n.final.length := by omega
      simp (decide := true) [int, ints, stepsD, Nett.cells, hli']
      refine loop_rule mixed (fun k : Nat => { n := 98, next := 1, slots := [(1, .bp 0 0), (7, .d (int k))], own := [(0, .box 33 (n.cells.map .d))] })
        (fun k => k ≤ n.final.length ∧ ∀ q ∈ n.final.take k, 0 ≤ q ∧ q < n.states) (fun k => n.final.length - k) 0 (by simp) (by simp (decide := true) [int, ints, stepsD, Nett.cells]) ?_
      intro j ⟨hj, hq⟩
      by_cases hlj : j < n.final.length
      · have hlj' : (j : Int) < n.final.length := by omega
        obtain ⟨u, eu⟩ : ∃ u, n.final[j] = u := ⟨_, rfl⟩
        have eu1 : n.final[j]? = some u := by rw [List.getElem?_eq_getElem hlj, eu]
        have hsn := take_snocG hlj
        rw [eu] at hsn
        have hC := state23_ok n u
        simp (decide := true) [int, ints, stepsD, Nett.cells, hlj, hlj', eu, eu1]
        refine scall_pure (by rfl) (by rfl) hC (by simp [int, ints, stepsD, Nett.cells]) ?_
        by_cases a1 : 0 ≤ u ∧ u < n.states
        · simp (decide := true) [int, a1, I64, ints, stepsD, Nett.cells]
          refine ⟨⟨by omega, by omega⟩, j + 1, ⟨hlj, fun q hm => ?_⟩, by omega, by omega⟩
          rw [hsn] at hm
          rcases List.mem_append.1 hm with h | h
          · exact hq q h
          · rw [List.mem_singleton] at h; rw [h]; exact a1
        · simp (decide := true) [int, a1]
      · have : j = n.final.length := by omega
        subst this
        rw [List.take_length] at hq
        simp (decide := true) [int, ints, stepsD, Nett.cells]
        exact ⟨by omega, hp, hq⟩
end Go.V
namespace Go.V
open Go Go.Proofs
def identP (n : Int) : Bool := decide (1 ≤ n ∧ n ≤ 1099511627776)
theorem ident10_ok (n : Int) : PureR Tryz.prog 117 [int n] (.bool (identP n)) := by
  refine pure_of_body mixed Tryz.func117 rfl call_117 ?_
  by_cases h0 : 1 ≤ n
  · simp (decide := true) [Tryz.f117, int, identP, h0]
  · simp (decide := true) [Tryz.f117, int, identP, h0]
def wordC (inv : List Phon) (w : List Int) : Int := if w.length = 0 then 4 else if 24 < w.length then 5 else if (w.all fun x => isSeg inv x) = true then 0 else 19
set_option maxHeartbeats 4000000 in
theorem word16_ok (inv : List Phon) (w : List Int) (hw : w.length ≤ 1048576) : PureR Tryz.prog 231 [.agg [invD inv], ints w] (int (wordC inv w)) := by
  refine pure_of_body mixed Tryz.func231 rfl call_231 ?_
  obtain ⟨R, hR⟩ : ∃ R, wordC inv w = R := ⟨_, rfl⟩
  rw [hR]
  unfold wordC at hR
  by_cases h0 : w.length = 0
  · rw [if_pos h0] at hR
    subst hR
    have h0' : (w.length : Int) = 0 := by omega
    simp (decide := true) [Tryz.f231, int, ints, h0, h0']
    done
  rw [if_neg h0] at hR
  have h0' : ¬ (w.length : Int) = 0 := by omega
  by_cases h1 : 24 < w.length
  · rw [if_pos h1] at hR
    subst hR
    have h1' : (24 : Int) < w.length := by omega
    simp (decide := true) [Tryz.f231, int, ints, h0, h0', h1, h1']
    done
  rw [if_neg h1] at hR
  have h1' : ¬ (24 : Int) < w.length := by omega
  simp (decide := true) [Tryz.f231, int, ints, h0, h0', h1, h1']
  refine loop_rule mixed (fun k : Nat => { n := 25, next := 1, slots := [(1, .d (ints w)), (2, .bp 0 0), (13, .d (int w.length)), (14, .d (int k))], own := [(0, .box 24 [.d (invD inv)])] })
    (fun k => k ≤ w.length ∧ ∀ x ∈ w.take k, isSeg inv x = true) (fun k => w.length - k) 0 (by simp) (by simp (decide := true) [int, ints]) ?_
  intro k ⟨hk, hp⟩
  by_cases hlt : k < w.length
  · have hlt' : (k : Int) < w.length := by omega
    have hmem := List.getElem_mem hlt
    obtain ⟨x, ex⟩ : ∃ x, w[k] = x := ⟨_, rfl⟩
    have ex1 : w[k]? = some x := by rw [List.getElem?_eq_getElem hlt, ex]
    have hsn := take_snocG hlt
    rw [ex] at hsn hmem
    simp (decide := true) [int, ints, hlt, hlt', ex, ex1]
    refine scall_pure (by rfl) (by rfl) (refIs_ok inv x) (by simp [int]) ?_
    cases hs : isSeg inv x with
    | false =>
      have : ¬ (w.all fun x => isSeg inv x) = true := by
        rw [List.all_eq_true]; intro h; rw [h x hmem] at hs; cases hs
      rw [if_neg this] at hR
      subst hR
      simp (decide := true) [int]
    | true =>
      simp (decide := true) [int]
      refine ⟨⟨by omega, by omega⟩, k + 1, ⟨hlt, fun y hy => ?_⟩, by omega, by omega⟩
      rw [hsn] at hy
      rcases List.mem_append.1 hy with h | h
      · exact hp y h
      · rw [List.mem_singleton] at h; rw [h]; exact hs
  · have : k = w.length := by omega
    subst this
    rw [List.take_length] at hp
    rw [if_pos (List.all_eq_true.2 hp)] at hR
    subst hR
    simp (decide := true) [int, ints]
structure WordF (inv : List Phon) (w : List Int) : Prop where
  pos : 1 ≤ w.length
  len : w.length ≤ 24
  segs : ∀ x ∈ w, isSeg inv x = true
theorem wordC_zero {inv : List Phon} {w : List Int} (h : wordC inv w = 0) : WordF inv w := by
  unfold wordC at h
  split at h
  · cases h
  split at h
  · cases h
  split at h
  · rename_i h3; exact ⟨by omega, by omega, List.all_eq_true.1 h3⟩
  · cases h
structure EntC (e : Ent) : Prop where
  form : e.form.length ≤ 1048576
  alts : e.alts.length ≤ 1048576 ∧ ∀ w ∈ e.alts, w.length ≤ 1048576
  senses : e.senses.length ≤ 1048576 ∧ ∀ s ∈ e.senses, s.gloss.size ≤ 1048576 ∧ s.defn.size ≤ 1048576
  links : e.links.length ≤ 1048576
  refs : e.refs.length ≤ 1048576
structure WordsF (inv : List Phon) (e : Ent) : Prop where
  id : identP e.id = true
  form : WordF inv e.form
  cls : 1 ≤ e.cls ∧ e.cls ≤ 20
  alts : ∀ w ∈ e.alts, WordF inv w
set_option maxHeartbeats 8000000 in
theorem words24_ok (inv : List Phon) (e : Ent) (he : EntC e) : PureE Tryz.prog 199 [.agg [invD inv], .agg e.row] (fun x => ∃ n, x = int n ∧ (n = 0 → WordsF inv e)) := by
  have hfl := he.form
  have hal := he.alts.1
  refine some_of_body mixed Tryz.func199 rfl call_199 ?_
  simp (decide := true) [Tryz.f199, int, Ent.row]
  refine ECall.pure (by rfl) (ident10_ok e.id) (by simp [int]) ?_
  cases hid : identP e.id with
  | false => simp (decide := true) [int]
  | true =>
    simp (decide := true) [int]
    refine ECall.pure (by rfl) (word16_ok inv e.form hfl) (by simp [int]) ?_
    by_cases hw : wordC inv e.form = 0
    case neg => simp (decide := true) [int, hw]
    by_cases c1 : e.cls < 1
    · simp (decide := true) [int, hw, c1]
    by_cases c2 : 20 < e.cls
    · simp (decide := true) [int, hw, c1, c2]
    by_cases c3 : (3 : Int) < e.alts.length
    · simp (decide := true) [int, hw, listsD, c1, c2, c3]
    simp (decide := true) [int, hw, listsD, c1, c2, c3]
    refine loop_rule mixed (fun k : Nat => { n := 73, next := 2, slots := [(2, .bp 0 0), (3, .bp 1 0), (6, .d (int k))], own := [(0, .box 24 [.d (invD inv)]), (1, .box 102 (e.row.map .d))] })
      (fun k => k ≤ e.alts.length ∧ ∀ w ∈ e.alts.take k, WordF inv w) (fun k => e.alts.length - k) 0 (by simp) (by simp (decide := true) [int, ints, Ent.row, listsD]) ?_
    intro k ⟨hk, hp⟩
    by_cases hlt : k < e.alts.length
    · have hlt' : (k : Int) < e.alts.length := by omega
      have hkl := he.alts.2 e.alts[k] (List.getElem_mem hlt)
      obtain ⟨w, ew⟩ : ∃ w, e.alts[k] = w := ⟨_, rfl⟩
      have ew1 : e.alts[k]? = some w := by rw [List.getElem?_eq_getElem hlt, ew]
      have hsn := take_snocG hlt
      rw [ew] at hsn hkl
      simp (decide := true) [int, ints, listsD, Ent.row, hlt, hlt', ew, ew1]
      refine scall_pure (by rfl) (by rfl) (word16_ok inv w hkl) (by simp [int, ints]) ?_
      by_cases hz : wordC inv w = 0
      case neg => simp (decide := true) [int, hz]
      simp (decide := true) [int, ints, listsD, Ent.row, hz, hlt, hlt', ew, ew1]
      refine scall_pure (by rfl) (by rfl) (refSame01_ok w e.form (by omega) (by omega)) (by simp [int, ints]) ?_
      by_cases hs : w = e.form
      · simp (decide := true) [int, hs]
      simp (decide := true) [int, ints, listsD, Ent.row, hs]
      refine loop_rule mixed (fun m : Nat => { n := 73, next := 2, slots := [(2, .bp 0 0), (3, .bp 1 0), (6, .d (int k)), (8, .d (int m))], own := [(0, .box 24 [.d (invD inv)]), (1, .box 102 (e.row.map .d))] })
        (fun m => m ≤ k) (fun m => k - m) 0 (by simp) (by simp (decide := true) [int, ints, Ent.row, listsD]) ?_
      intro m hm
      by_cases hlm : m < k
      · have hlm' : (m : Int) < k := by omega
        have hml : m < e.alts.length := by omega
        have hml' : (m : Int) < e.alts.length := by omega
        have hyl := he.alts.2 e.alts[m] (List.getElem_mem hml)
        obtain ⟨y, ey⟩ : ∃ y, e.alts[m] = y := ⟨_, rfl⟩
        have ey1 : e.alts[m]? = some y := by rw [List.getElem?_eq_getElem hml, ey]
        rw [ey] at hyl
        simp (decide := true) [int, ints, listsD, Ent.row, hlm, hlm', hml, hml', hlt, hlt', ew, ew1, ey, ey1]
        refine scall_pure (by rfl) (by rfl) (refSame01_ok w y (by omega) (by omega)) (by simp [int, ints]) ?_
        by_cases hs2 : w = y
        · simp (decide := true) [int, hs2]
        · simp (decide := true) [int, hs2, I64, ints, listsD, Ent.row]
          exact ⟨⟨by omega, by omega⟩, m + 1, hlm, by omega, by omega⟩
      · have hlm' : ¬ (m : Int) < k := by omega
        simp (decide := true) [int, ints, listsD, Ent.row, hlm', I64]
        refine ⟨⟨by omega, by omega⟩, k + 1, ⟨hlt, fun y hy => ?_⟩, by omega, by omega⟩
        rw [hsn] at hy
        rcases List.mem_append.1 hy with h | h
        · exact hp y h
        · rw [List.mem_singleton] at h; rw [h]; exact wordC_zero hz
    · have : k = e.alts.length := by omega
      subst this
      rw [List.take_length] at hp
      simp (decide := true) [int, ints, listsD, Ent.row]
      exact ⟨hid, wordC_zero hw, ⟨by omega, by omega⟩, hp⟩
end Go.V
namespace Go.V
open Go Go.Proofs
def bytesAll (f : Nat → Bool) (s : ByteArray) : Bool := (List.range s.size).all fun k => f (byteN s k)
theorem bytesAll_no {f : Nat → Bool} {s : ByteArray} {k : Nat} (hk : k < s.size) (h : f (byteN s k) = false) : bytesAll f s = false := by
  unfold bytesAll; rw [List.all_eq_false]; exact ⟨k, List.mem_range.2 hk, by rw [h]; decide⟩
theorem bytesAll_yes {f : Nat → Bool} {s : ByteArray} (h : ∀ j, j < s.size → f (byteN s j) = true) : bytesAll f s = true := by
  unfold bytesAll; rw [List.all_eq_true]; intro j hj; exact h j (List.mem_range.1 hj)
theorem upto_snoc {p : Nat → Prop} {k : Nat} (h : ∀ j, j < k → p j) (hk : p k) : ∀ j, j < k + 1 → p j := by
  intro j hj
  rcases Nat.lt_succ_iff_lt_or_eq.mp hj with h' | h'
  · exact h j h'
  · rw [h']; exact hk
def labB (b : Nat) : Bool := decide (¬ b < 32) && decide (¬ b = 127)
def labelP (s : ByteArray) : Bool := bytesAll labB s && ((ptsGo s s.size 0).isSome && decide (1 ≤ s.size) && decide (s.size ≤ 32))
theorem label10X_ok (s : ByteArray) (hs : s.size ≤ 1048576) : PureR Tryz.prog 142 [.str s] (.bool (labelP s)) := by
  refine pure_of_body mixed Tryz.func142 rfl call_142 ?_
  simp (decide := true) [Tryz.f142, int]
  refine loop_rule mixed (fun k : Nat => { n := 38, next := 0, slots := [(0, .d (.str s)), (3, .d (int k))], own := [] })
    (fun k => k ≤ s.size ∧ ∀ j, j < k → labB (byteN s j) = true) (fun k => s.size - k) 0 (by simp) (by simp (decide := true) [int]) ?_
  intro k ⟨hk, hp⟩
  by_cases hlt : k < s.size
  · have hlt' : (k : Int) < s.size := by omega
    have e1 : byteAt s (k : Int) = (byteN s k : Int) := byteAt_nat s k
    by_cases b1 : (byteN s k : Int) < 32
    · have : labelP s = false := by unfold labelP; rw [bytesAll_no hlt (by simp [labB]; omega)]; rfl
      rw [this]
      simp (decide := true) [int, hlt, hlt', e1, b1]
    · by_cases b2 : (byteN s k : Int) = 127
      · have : labelP s = false := by unfold labelP; rw [bytesAll_no hlt (by simp [labB]; omega)]; rfl
        rw [this]
        simp (decide := true) [int, hlt, hlt', e1, b1, b2]
      · have hg := upto_snoc hp (show labB (byteN s k) = true by simp [labB]; omega)
        simp (decide := true) [int, hlt, hlt', e1, b1, b2, I64]
        exact ⟨⟨by omega, by omega⟩, k + 1, ⟨hlt, hg⟩, by omega, by omega⟩
  · have hlt' : ¬ (k : Int) < s.size := by omega
    have hall : bytesAll labB s = true := bytesAll_yes fun j hj => hp j (by omega)
    simp (decide := true) [int, hlt']
    refine ECall.pure (by rfl) (refPoints_ok s hs) (by simp) ?_
    unfold labelP
    rw [hall]
    cases hp : ptsGo s s.size 0 with
    | none => simp (decide := true) [ptsD, int]
    | some l =>
      by_cases c1 : 1 ≤ s.size
      · have c1' : (1 : Int) ≤ s.size := by omega
        simp (decide := true) [ptsD, int, ints, c1, c1']
        try omega
      · have c1' : ¬ (1 : Int) ≤ s.size := by omega
        simp (decide := true) [ptsD, int, ints, c1, c1']
def gloB (b : Nat) : Bool := decide (¬ b = 32) && decide (¬ b = 45)
def glossP (s : ByteArray) : Bool := bytesAll gloB s && labelP s
theorem gloss24X_ok (s : ByteArray) (hs : s.size ≤ 1048576) : PureR Tryz.prog 262 [.str s] (.bool (glossP s)) := by
  refine pure_of_body mixed Tryz.func262 rfl call_262 ?_
  simp (decide := true) [Tryz.f262, int]
  refine loop_rule mixed (fun k : Nat => { n := 22, next := 0, slots := [(0, .d (.str s)), (3, .d (int k))], own := [] })
    (fun k => k ≤ s.size ∧ ∀ j, j < k → gloB (byteN s j) = true) (fun k => s.size - k) 0 (by simp) (by simp (decide := true) [int]) ?_
  intro k ⟨hk, hp⟩
  by_cases hlt : k < s.size
  · have hlt' : (k : Int) < s.size := by omega
    have e1 : byteAt s (k : Int) = (byteN s k : Int) := byteAt_nat s k
    by_cases b1 : (byteN s k : Int) = 32
    · have : glossP s = false := by unfold glossP; rw [bytesAll_no hlt (by simp [gloB]; omega)]; rfl
      rw [this]
      simp (decide := true) [int, hlt, hlt', e1, b1]
    · by_cases b2 : (byteN s k : Int) = 45
      · have : glossP s = false := by unfold glossP; rw [bytesAll_no hlt (by simp [gloB]; omega)]; rfl
        rw [this]
        simp (decide := true) [int, hlt, hlt', e1, b1, b2]
      · have hg := upto_snoc hp (show gloB (byteN s k) = true by simp [gloB]; omega)
        simp (decide := true) [int, hlt, hlt', e1, b1, b2, I64]
        exact ⟨⟨by omega, by omega⟩, k + 1, ⟨hlt, hg⟩, by omega, by omega⟩
  · have hlt' : ¬ (k : Int) < s.size := by omega
    have hall : bytesAll gloB s = true := bytesAll_yes fun j hj => hp j (by omega)
    simp (decide := true) [int, hlt']
    refine ECall.pure (by rfl) (label10X_ok s hs) (by simp) ?_
    unfold glossP
    rw [hall]
    simp (decide := true) [int]
def badI (p : Int) : Bool := decide (p < 32) || decide (p = 127)
def textC (s : ByteArray) : Int := if 200 < s.size then 5 else match ptsGo s s.size 0 with
  | none => 3
  | some l => if l.any badI = true then 3 else 0
theorem text12X_ok (s : ByteArray) : PureR Tryz.prog 132 [.str s] (int (textC s)) := by
  refine pure_of_body mixed Tryz.func132 rfl call_132 ?_
  unfold textC
  by_cases h0 : 200 < s.size
  · have h0' : (200 : Int) < s.size := by omega
    simp (decide := true) [Tryz.f132, h0', h0, int]
  have h0' : ¬ (200 : Int) < s.size := by omega
  simp (decide := true) [Tryz.f132, h0', h0, int]
  refine ECall.pure (by rfl) (refPoints_ok s (by omega)) (by simp) ?_
  cases hp : ptsGo s s.size 0 with
  | none => simp (decide := true) [ptsD, int]
  | some l =>
    have hll : l.length ≤ s.size := pts_len s _ _ _ hp
    simp (decide := true) [ptsD, ints, int]
    refine loop_rule mixed (fun k : Nat => { n := 34, next := 0, slots := [(3, .d (ints l)), (5, .d (int k))], own := [] })
      (fun k => k ≤ l.length ∧ ∀ x ∈ l.take k, badI x = false) (fun k => l.length - k) 0 (by simp) (by simp (decide := true) [int, ints]) ?_
    intro k ⟨hk, hq⟩
    by_cases hlt : k < l.length
    · have e1 : l[k]? = some l[k] := List.getElem?_eq_getElem hlt
      have hbad : badI l[k] = true → l.any badI = true := fun hb => List.any_eq_true.2 ⟨l[k], List.getElem_mem hlt, hb⟩
      by_cases b1 : l[k] < 32
      · have hb := hbad (by simp [badI, b1])
        simp (decide := true) [ints, int, e1, hlt, b1]
        exact List.any_eq_true.1 hb
      · by_cases b2 : l[k] = 127
        · have hb := hbad (by simp [badI, b2])
          simp (decide := true) [ints, int, e1, hlt, b1, b2]
          exact List.any_eq_true.1 hb
        · simp (decide := true) [ints, int, e1, hlt, b1, b2, I64]
          refine ⟨by omega, k + 1, ⟨hlt, ?_⟩, by omega, by omega⟩
          rw [List.take_succ_eq_append_getElem hlt]
          intro x hx
          rcases List.mem_append.1 hx with hx | hx
          · exact hq x hx
          · simp at hx; rw [hx]; simp [badI, b1, b2]
    · have : k = l.length := by omega
      subst this
      rw [List.take_length] at hq
      have hb : l.any badI = false := by rw [List.any_eq_false]; intro x hx; simp [hq x hx]
      simp (decide := true) [ints, int]
      exact hq
def glossIn (l : List Sens) (s : ByteArray) : Bool := l.any fun x => decide (x.gloss = s)
theorem has24X_ok (l : List Sens) (s : ByteArray) (hl : l.length < 2^40) : PureR Tryz.prog 263 [sensD l, .str s] (.bool (glossIn l s)) := by
  refine pure_of_body mixed Tryz.func263 rfl call_263 ?_
  simp (decide := true) [Tryz.f263, int, sensD]
  refine loop_rule mixed (fun k : Nat => { n := 19, next := 0, slots := [(0, .d (sensD l)), (1, .d (.str s)), (5, .d (int k))], own := [] })
    (fun k => k ≤ l.length ∧ ∀ x ∈ l.take k, ¬ x.gloss = s) (fun k => l.length - k) 0 (by simp) (by simp (decide := true) [int, sensD]) ?_
  intro k ⟨hk, hp⟩
  by_cases hlt : k < l.length
  · have hlt' : (k : Int) < l.length := by omega
    have hmem := List.getElem_mem hlt
    have hsn := take_snocG hlt
    obtain ⟨x, ex⟩ : ∃ x, l[k] = x := ⟨_, rfl⟩
    have e1 : l[k]? = some x := by rw [List.getElem?_eq_getElem hlt, ex]
    rw [ex] at hmem hsn
    by_cases b1 : x.gloss = s
    · have : glossIn l s = true := List.any_eq_true.2 ⟨x, hmem, by simpa using b1⟩
      rw [this]
      simp (decide := true) [int, sensD, Sens.row, hlt, hlt', e1, ex, b1]
    · simp (decide := true) [int, sensD, Sens.row, hlt, hlt', e1, ex, b1, I64]
      refine ⟨fun h => absurd (bytes_inj h) b1, fun _ => ⟨⟨by omega, by omega⟩, k + 1, ⟨hlt, fun y hy => ?_⟩, by omega, by omega⟩⟩
      rw [hsn] at hy
      rcases List.mem_append.1 hy with h | h
      · exact hp y h
      · rw [List.mem_singleton] at h; rw [h]; exact b1
  · have : k = l.length := by omega
    subst this
    rw [List.take_length] at hp
    have : glossIn l s = false := by unfold glossIn; rw [List.any_eq_false]; intro x hx; simpa using hp x hx
    rw [this]
    simp (decide := true) [int, sensD]
def senseC (l : List Sens) (s : Sens) : Int := if glossP s.gloss = false then 7 else if textC s.defn ≠ 0 then textC s.defn else if glossIn l s.gloss = true then 8 else 0
theorem sense24X_ok (l : List Sens) (s : Sens) (hl : l.length < 2^40) (hs : s.gloss.size ≤ 1048576) : PureR Tryz.prog 232 [sensD l, .agg s.row] (int (senseC l s)) := by
  refine pure_of_body mixed Tryz.func232 rfl call_232 ?_
  have hH := has24X_ok l s.gloss hl
  unfold senseC
  simp (decide := true) [Tryz.f232, int, Sens.row]
  refine ECall.pure (by rfl) (gloss24X_ok s.gloss hs) (by simp) ?_
  cases hg : glossP s.gloss with
  | false => simp (decide := true) [int]
  | true =>
    simp (decide := true) [int]
    refine ECall.pure (by rfl) (text12X_ok s.defn) (by simp) ?_
    by_cases he : textC s.defn = 0
    case neg => simp (decide := true) [int, he]
    simp (decide := true) [int, he]
    generalize glossIn l s.gloss = b at hH ⊢
    refine ECall.pure (by rfl) hH (by simp [int]) ?_
    cases b <;> simp (decide := true) [int]
set_option maxHeartbeats 8000000 in
theorem senses24_ok (e : Ent) (he : EntC e) : PureE Tryz.prog 200 [.agg e.row] (fun x => ∃ n, x = int n ∧ (n = 0 → (e.senses ≠ [] ∨ e.main ≠ 0) ∧ e.senses.length ≤ 5)) := by
  have hsl := he.senses.1
  refine some_of_body mixed Tryz.func200 rfl call_200 ?_
  by_cases hm : e.main = 0
  · by_cases h2 : e.main = e.id
    · have h2' : e.id = 0 := by omega
      simp (decide := true) [Tryz.f200, int, Ent.row, hm, h2']
    have h2' : ¬ 0 = e.id := by omega
    by_cases h3 : (5 : Int) < e.senses.length
    · simp (decide := true) [Tryz.f200, int, Ent.row, sensD, hm, h2', h3]
    by_cases h4 : (e.senses.length : Int) = 0
    · simp (decide := true) [Tryz.f200, int, Ent.row, sensD, hm, h2', h3, h4]
    simp (decide := true) [Tryz.f200, int, Ent.row, sensD, hm, h2', h3, h4]
    intro hne
    refine loop_rule mixed (fun k : Nat => { n := 52, next := 1, slots := [(1, .bp 0 0), (3, .d (int k))], own := [(0, .box 102 (e.row.map .d))] })
      (fun k => k ≤ e.senses.length) (fun k => e.senses.length - k) 0 (by simp) (by simp (decide := true) [int, ints, Ent.row, sensD, hm]) ?_
    intro k hk
    by_cases hlt : k < e.senses.length
    · have hlt' : (k : Int) < e.senses.length := by omega
      have hkl := he.senses.2 e.senses[k] (List.getElem_mem hlt)
      obtain ⟨s, es⟩ : ∃ s, e.senses[k] = s := ⟨_, rfl⟩
      have es1 : e.senses[k]? = some s := by rw [List.getElem?_eq_getElem hlt, es]
      rw [es] at hkl
      have hS := sense24X_ok (e.senses.take k) s (by rw [List.length_take]; omega) hkl.1
      have eS : sensD (e.senses.take k) = .sl ((e.senses.map Sens.row).take k) := by simp [sensD, List.map_take]
      rw [eS] at hS
      have hrl : ∀ a ∈ e.senses, a.row.length = 2 := fun a _ => rfl
      simp (decide := true) [int, ints, sensD, Ent.row, hlt, hlt', es, es1]
      refine ⟨by omega, hrl, by rfl, by simp [Sens.row], ?_⟩
      refine scall_pure (by rfl) (by rfl) hS (by simp [Sens.row, int]) ?_
      by_cases hz : senseC (e.senses.take k) s = 0
      case neg => simp (decide := true) [int, hz]
      rw [hz]
      simp (decide := true) [int, ints, sensD, Ent.row, I64]
      exact ⟨⟨by omega, by omega⟩, k + 1, hlt, by omega, by omega⟩
    · have hlt' : ¬ (k : Int) < e.senses.length := by omega
      simp (decide := true) [int, ints, sensD, Ent.row, hlt']
      exact ⟨hne, by omega⟩
  · simp (decide := true) [Tryz.f200, int, Ent.row, sensD, hm]
    refine ECall.pure (by rfl) (ident10_ok e.main) (by simp [int]) ?_
    cases hid : identP e.main with
    | false => simp (decide := true) [int]
    | true =>
      by_cases h2 : e.main = e.id
      · simp (decide := true) [int, h2]
      by_cases h3 : (5 : Int) < e.senses.length
      · simp (decide := true) [int, sensD, h2, h3]
      by_cases h4 : (e.senses.length : Int) = 0
      · simp (decide := true) [int, sensD, hm, h2, h3, h4]
        refine loop_rule mixed (fun k : Nat => { n := 52, next := 1, slots := [(1, .bp 0 0), (3, .d (int k))], own := [(0, .box 102 (e.row.map .d))] })
          (fun k => k ≤ e.senses.length) (fun k => e.senses.length - k) 0 (by simp) (by simp (decide := true) [int, ints, Ent.row, sensD, hm]) ?_
        intro k hk
        by_cases hlt : k < e.senses.length
        · have hlt' : (k : Int) < e.senses.length := by omega
          have hkl := he.senses.2 e.senses[k] (List.getElem_mem hlt)
          obtain ⟨s, es⟩ : ∃ s, e.senses[k] = s := ⟨_, rfl⟩
          have es1 : e.senses[k]? = some s := by rw [List.getElem?_eq_getElem hlt, es]
          rw [es] at hkl
          have hS := sense24X_ok (e.senses.take k) s (by rw [List.length_take]; omega) hkl.1
          have eS : sensD (e.senses.take k) = .sl ((e.senses.map Sens.row).take k) := by simp [sensD, List.map_take]
          rw [eS] at hS
          have hrl : ∀ a ∈ e.senses, a.row.length = 2 := fun a _ => rfl
          simp (decide := true) [int, ints, sensD, Ent.row, hlt, hlt', es, es1]
          refine ⟨by omega, hrl, by rfl, by simp [Sens.row], ?_⟩
          refine scall_pure (by rfl) (by rfl) hS (by simp [Sens.row, int]) ?_
          by_cases hz : senseC (e.senses.take k) s = 0
          case neg => simp (decide := true) [int, hz]
          rw [hz]
          simp (decide := true) [int, ints, sensD, Ent.row, I64]
          exact ⟨⟨by omega, by omega⟩, k + 1, hlt, by omega, by omega⟩
        · have hlt' : ¬ (k : Int) < e.senses.length := by omega
          simp (decide := true) [int, ints, sensD, Ent.row, hlt']
          omega
      · have hne : ¬ e.senses = [] := by intro h; rw [h] at h4; simp at h4
        simp (decide := true) [int, sensD, hm, h2, h3, h4, hne]
        refine loop_rule mixed (fun k : Nat => { n := 52, next := 1, slots := [(1, .bp 0 0), (3, .d (int k))], own := [(0, .box 102 (e.row.map .d))] })
          (fun k => k ≤ e.senses.length) (fun k => e.senses.length - k) 0 (by simp) (by simp (decide := true) [int, ints, Ent.row, sensD, hm]) ?_
        intro k hk
        by_cases hlt : k < e.senses.length
        · have hlt' : (k : Int) < e.senses.length := by omega
          have hkl := he.senses.2 e.senses[k] (List.getElem_mem hlt)
          obtain ⟨s, es⟩ : ∃ s, e.senses[k] = s := ⟨_, rfl⟩
          have es1 : e.senses[k]? = some s := by rw [List.getElem?_eq_getElem hlt, es]
          rw [es] at hkl
          have hS := sense24X_ok (e.senses.take k) s (by rw [List.length_take]; omega) hkl.1
          have eS : sensD (e.senses.take k) = .sl ((e.senses.map Sens.row).take k) := by simp [sensD, List.map_take]
          rw [eS] at hS
          have hrl : ∀ a ∈ e.senses, a.row.length = 2 := fun a _ => rfl
          simp (decide := true) [int, ints, sensD, Ent.row, hlt, hlt', es, es1]
          refine ⟨by omega, hrl, by rfl, by simp [Sens.row], ?_⟩
          refine scall_pure (by rfl) (by rfl) hS (by simp [Sens.row, int]) ?_
          by_cases hz : senseC (e.senses.take k) s = 0
          case neg => simp (decide := true) [int, hz]
          rw [hz]
          simp (decide := true) [int, ints, sensD, Ent.row, I64]
          exact ⟨⟨by omega, by omega⟩, k + 1, hlt, by omega, by omega⟩
        · have hlt' : ¬ (k : Int) < e.senses.length := by omega
          simp (decide := true) [int, ints, sensD, Ent.row, hlt']
          omega
end Go.V
namespace Go.V
open Go Go.Proofs
def precP (a b : Rf) : Bool := decide (a.rcd < b.rcd) || (decide (a.rcd = b.rcd) && decide (a.note < b.note))
theorem prec24_ok (a b : Rf) : PureR Tryz.prog 234 [.agg a.row, .agg b.row] (.bool (precP a b)) := by
  refine pure_of_body mixed Tryz.func234 rfl call_234 ?_
  by_cases h1 : a.rcd < b.rcd
  · simp (decide := true) [Tryz.f234, int, Rf.row, precP, h1]
  · by_cases h2 : a.rcd = b.rcd
    · simp (decide := true) [Tryz.f234, int, Rf.row, precP, h1, h2]
    · simp (decide := true) [Tryz.f234, int, Rf.row, precP, h1, h2]
theorem ref24_ok (a : Rf) : PureR Tryz.prog 233 [.agg a.row] (.bool (identP a.rcd && identP a.note)) := by
  refine pure_of_body mixed Tryz.func233 rfl call_233 ?_
  simp (decide := true) [Tryz.f233, int, Rf.row]
  refine ECall.pure (by rfl) (ident10_ok a.rcd) (by simp [int]) ?_
  cases h : identP a.rcd with
  | false => simp (decide := true) [int]
  | true =>
    simp (decide := true) [int]
    refine ECall.pure (by rfl) (ident10_ok a.note) (by simp [int]) ?_
    simp (decide := true) [int]
set_option maxHeartbeats 8000000 in
theorem refs24_ok (l : List Rf) (n : Int) (hl : l.length ≤ 1048576) : PureE Tryz.prog 202 [rfD l, int n] IsI := by
  refine some_of_body mixed Tryz.func202 rfl call_202 ?_
  by_cases h0 : n < l.length
  · simp (decide := true) [Tryz.f202, int, rfD, h0]
  simp (decide := true) [Tryz.f202, int, rfD, h0]
  refine loop_rule mixed (fun k : Nat => { n := 37, next := 0, slots := [(0, .d (rfD l)), (5, .d (int k))], own := [] })
    (fun k => k ≤ l.length) (fun k => l.length - k) 0 (by simp) (by simp (decide := true) [int, rfD]) ?_
  intro k hk
  by_cases hlt : k < l.length
  · have hlt' : (k : Int) < l.length := by omega
    obtain ⟨x, ex⟩ : ∃ x, l[k] = x := ⟨_, rfl⟩
    have e1 : l[k]? = some x := by rw [List.getElem?_eq_getElem hlt, ex]
    simp (decide := true) [int, rfD, Rf.row, hlt, hlt', e1, ex]
    refine ECall.pure (by rfl) (ref24_ok x) (by simp [int, Rf.row]) ?_
    cases hr : identP x.rcd && identP x.note with
    | false => simp (decide := true) [int]
    | true =>
      by_cases hk0 : k = 0
      · subst hk0
        simp (decide := true) [int, I64, rfD]
        exact ⟨1, hlt, by omega, by omega⟩
      · have hk0' : (0 : Int) < k := by omega
        have hlm : k - 1 < l.length := by omega
        obtain ⟨y, ey⟩ : ∃ y, l[k - 1] = y := ⟨_, rfl⟩
        have ey1 : l[k - 1]? = some y := by rw [List.getElem?_eq_getElem hlm, ey]
        have t1 : ((k : Int) - 1).toNat = k - 1 := by omega
        have t2 : 0 ≤ (k : Int) - 1 := by omega
        have t3 : (k : Int) - 1 < l.length := by omega
        simp (decide := true) [int, I64, rfD, Rf.row, hk0, hk0', hlt, hlt', e1, ex, ey, ey1, t1, t2, t3, hlm]
        intro _
        refine ⟨⟨by omega, by omega⟩, by omega, ?_⟩
        refine scall_pure (by rfl) (by rfl) (prec24_ok y x) (by simp [int, Rf.row]) ?_
        cases hpx : precP y x with
        | false => simp (decide := true) [int]
        | true =>
          simp (decide := true) [int, I64, rfD, hk0']
          exact ⟨⟨by omega, by omega⟩, k + 1, hlt, by omega, by omega⟩
  · have hlt' : ¬ (k : Int) < l.length := by omega
    simp (decide := true) [int, rfD, hlt']
set_option maxHeartbeats 8000000 in
theorem links24_ok (e : Ent) (hl : e.links.length ≤ 1048576) : PureE Tryz.prog 201 [.agg e.row] (fun x => ∃ n, x = int n ∧ (n = 0 → e.links.length ≤ 12 ∧ ∀ l ∈ e.links, 0 ≤ l.kind ∧ l.kind ≤ 5)) := by
  refine some_of_body mixed Tryz.func201 rfl call_201 ?_
  by_cases h0 : (12 : Int) < e.links.length
  · simp (decide := true) [Tryz.f201, int, Ent.row, lnkD, h0]
  simp (decide := true) [Tryz.f201, int, Ent.row, lnkD, h0]
  refine loop_rule mixed (fun k : Nat => { n := 76, next := 1, slots := [(1, .bp 0 0), (3, .d (int k))], own := [(0, .box 102 (e.row.map .d))] })
    (fun k => k ≤ e.links.length ∧ ∀ l ∈ e.links.take k, 0 ≤ l.kind ∧ l.kind ≤ 5) (fun k => e.links.length - k) 0 (by simp) (by simp (decide := true) [int, ints, Ent.row, lnkD]) ?_
  intro k ⟨hk, hp⟩
  by_cases hlt : k < e.links.length
  · have hlt' : (k : Int) < e.links.length := by omega
    obtain ⟨x, ex⟩ : ∃ x, e.links[k] = x := ⟨_, rfl⟩
    have e1 : e.links[k]? = some x := by rw [List.getElem?_eq_getElem hlt, ex]
    have hsn := take_snocG hlt
    rw [ex] at hsn
    by_cases b1 : x.kind < 0
    · simp (decide := true) [int, ints, Ent.row, lnkD, Lnk.row, hlt, hlt', e1, ex, b1]
    by_cases b2 : 5 < x.kind
    · simp (decide := true) [int, ints, Ent.row, lnkD, Lnk.row, hlt, hlt', e1, ex, b1, b2]
    have hgo : ∀ z ∈ e.links.take (k + 1), 0 ≤ z.kind ∧ z.kind ≤ 5 := by
      intro z hz
      rw [hsn] at hz
      rcases List.mem_append.1 hz with h | h
      · exact hp z h
      · rw [List.mem_singleton] at h; rw [h]; omega
    simp (decide := true) [int, ints, Ent.row, lnkD, Lnk.row, hlt, hlt', e1, ex, b1, b2]
    refine ECall.pure (by rfl) (ident10_ok x.dst) (by simp [int]) ?_
    cases hr : identP x.dst with
    | false => simp (decide := true) [int]
    | true =>
      by_cases b3 : x.dst = e.id
      · simp (decide := true) [int, b3]
      by_cases hk0 : k = 0
      · subst hk0
        simp (decide := true) [int, ints, Ent.row, lnkD, Lnk.row, I64, b3]
        exact ⟨1, ⟨hlt, hgo⟩, by omega, by omega⟩
      · have hk0' : (0 : Int) < k := by omega
        have hlm : k - 1 < e.links.length := by omega
        obtain ⟨y, ey⟩ : ∃ y, e.links[k - 1] = y := ⟨_, rfl⟩
        have ey1 : e.links[k - 1]? = some y := by rw [List.getElem?_eq_getElem hlm, ey]
        have t1 : ((k : Int) - 1).toNat = k - 1 := by omega
        have t2 : 0 ≤ (k : Int) - 1 := by omega
        have t3 : (k : Int) - 1 < e.links.length := by omega
        by_cases c1 : x.kind < y.kind
        · simp (decide := true) [int, ints, Ent.row, lnkD, Lnk.row, I64, b3, hk0, hk0', hlt, hlt', e1, ex, ey, ey1, t1, t2, t3, hlm, c1]
          exact fun _ => ⟨⟨by omega, by omega⟩, by omega⟩
        · by_cases c2 : x.kind = y.kind
          · by_cases c3 : x.dst ≤ y.dst
            · simp (decide := true) [int, ints, Ent.row, lnkD, Lnk.row, I64, b3, hk0, hk0', hlt, hlt', e1, ex, ey, ey1, t1, t2, t3, hlm, c1, c2, c3]
              exact fun _ => ⟨⟨by omega, by omega⟩, by omega, ⟨by omega, by omega⟩, by omega, ⟨by omega, by omega⟩, by omega⟩
            · simp (decide := true) [int, ints, Ent.row, lnkD, Lnk.row, I64, b3, hk0, hk0', hlt, hlt', e1, ex, ey, ey1, t1, t2, t3, hlm, c1, c2, c3]
              exact fun _ => ⟨⟨by omega, by omega⟩, by omega, ⟨by omega, by omega⟩, by omega, ⟨by omega, by omega⟩, by omega, ⟨by omega, by omega⟩, k + 1, ⟨hlt, hgo⟩, by omega, by omega⟩
          · simp (decide := true) [int, ints, Ent.row, lnkD, Lnk.row, I64, b3, hk0, hk0', hlt, hlt', e1, ex, ey, ey1, t1, t2, t3, hlm, c1, c2]
            exact fun _ => ⟨⟨by omega, by omega⟩, by omega, ⟨by omega, by omega⟩, by omega, ⟨by omega, by omega⟩, k + 1, ⟨hlt, hgo⟩, by omega, by omega⟩
  · have : k = e.links.length := by omega
    subst this
    rw [List.take_length] at hp
    simp (decide := true) [int, ints, Ent.row, lnkD]
    exact ⟨by omega, hp⟩
structure EntF (inv : List Phon) (e : Ent) : Prop extends WordsF inv e where
  senses : e.senses ≠ [] ∨ e.main ≠ 0
  fewS : e.senses.length ≤ 5
  links : e.links.length ≤ 12
  kinds : ∀ l ∈ e.links, 0 ≤ l.kind ∧ l.kind ≤ 5
set_option maxHeartbeats 4000000 in
theorem check24_ok (inv : List Phon) (e : Ent) (he : EntC e) : PureE Tryz.prog 149 [.agg [invD inv], .agg e.row] (fun x => ∃ n, x = int n ∧ (n = 0 → EntF inv e)) := by
  refine some_of_body mixed Tryz.func149 rfl call_149 ?_
  simp (decide := true) [Tryz.f149, int, Ent.row]
  refine ECall.some (by rfl) (words24_ok inv e he) ?_
  rintro r ⟨n, rfl, hW⟩
  by_cases h1 : n = 0
  case neg => simp (decide := true) [int, h1]
  have hW := hW h1
  simp (decide := true) [int, h1]
  refine ECall.some (by rfl) (senses24_ok e he) ?_
  rintro r ⟨m, rfl, hS⟩
  by_cases h2 : m = 0
  case neg => simp (decide := true) [int, h2]
  have hS := hS h2
  simp (decide := true) [int, h2]
  refine ECall.some (by rfl) (links24_ok e he.links) ?_
  rintro r ⟨j, rfl, hL⟩
  by_cases h3 : j = 0
  case neg => simp (decide := true) [int, h3]
  have hL := hL h3
  simp (decide := true) [int, h3]
  refine ECall.some (by rfl) (refs24_ok e.refs 12 he.refs) ?_
  rintro r ⟨i, rfl⟩
  simp (decide := true) [int]
  exact fun _ => ⟨hW, hS.1, hS.2, hL.1, hL.2⟩
end Go.V
namespace Go.V
open Go Go.Proofs
theorem has25_ok (l : List Ent) (id : Int) (hl : l.length < 2^40) : PureR Tryz.prog 150 [lexD l, int id] (.bool (getE l id).2) := by
  refine pure_of_body mixed Tryz.func150 rfl call_150 ?_
  have hG := get25_ok l id (by omega)
  generalize getE l id = r at hG ⊢
  obtain ⟨e, ok⟩ := r
  simp (decide := true) [Tryz.f150, int, lexD]
  refine ECall.pure (by rfl) hG (by simp [lexD, int]) ?_
  simp (decide := true) [int, Ent.row]
structure LexC (l : List Ent) : Prop where
  few : l.length ≤ 1048576
  each : ∀ e ∈ l, EntC e
structure LexF (inv : List Phon) (l : List Ent) : Prop where
  each : ∀ e ∈ l, EntF inv e
  up : ∀ k (h : k + 1 < l.length), l[k].id < l[k + 1].id
set_option maxHeartbeats 16000000 in
theorem check25_ok (inv : List Phon) (l : List Ent) (hl : LexC l) : PureE Tryz.prog 90 [.agg [invD inv], lexD l] (fun x => ∃ n, x = int n ∧ (n = 0 → LexF inv l)) := by
  have hfew := hl.few
  refine some_of_body mixed Tryz.func90 rfl call_90 ?_
  by_cases h0 : (100 : Int) < l.length
  · simp (decide := true) [Tryz.f90, int, lexD, h0]
  simp (decide := true) [Tryz.f90, int, lexD, h0]
  refine loop_ruleT mixed (fun k : Nat => { n := 87, next := 1, slots := [(1, .d (lexD l)), (2, .bp 0 0), (13, .d (int l.length)), (14, .d (int k))], own := [(0, .box 24 [.d (invD inv)])] })
    (fun k => k ≤ l.length ∧ (∀ e ∈ l.take k, EntF inv e) ∧ ∀ j (h : j + 1 < l.length), j + 1 < k → l[j].id < l[j + 1].id) (fun k => l.length - k) 0 ⟨by simp, by simp, fun j h h' => absurd h' (by omega)⟩ (by simp (decide := true) [int, ints, lexD]) ?_
  intro k ⟨hk, hp, hup⟩
  by_cases hlt : k < l.length
  · have hlt' : (k : Int) < l.length := by omega
    have hC := hl.each l[k] (List.getElem_mem hlt)
    obtain ⟨e, ee⟩ : ∃ e, l[k] = e := ⟨_, rfl⟩
    have e1 : l[k]? = some e := by rw [List.getElem?_eq_getElem hlt, ee]
    have hsn := take_snocG hlt
    rw [ee] at hsn hC
    have hE := check24_ok inv e hC
    refine cut_ev mixed 2 { n := 87, next := 1, slots := [(1, .d (lexD l)), (2, .bp 0 0), (13, .d (int l.length)), (14, .d (int k))], own := [(0, .box 24 [.d (invD inv)])] } rfl (by simp (decide := true) [headC, cutK, int, lexD, hlt, hlt']) ?_
    simp only [tailC]
    refine triple_seqE (triple_block (cut_ev mixed 1 { n := 87, next := 1, slots := [(1, .d (lexD l)), (2, .bp 0 0), (5, .d (int k)), (13, .d (int l.length)), (14, .d (int k))], own := [(0, .box 24 [.d (invD inv)])] } rfl (by simp (decide := true) [headC, cutK, int, lexD]) ?_)) mixed
    simp only [tailC]
    refine triple_seqE ?_ mixed
    refine draw_t mixed 5 (by rfl) (by rfl) (by rfl) (by rfl) (by simp) ?_
    simp (decide := true) [int, lexD, Ent.row, hlt, hlt', ee, e1]
    refine ECall.some (by rfl) hE ?_
    rintro r ⟨n, rfl, hF⟩
    by_cases hn : n = 0
    case neg => simp (decide := true) [int, hn]
    have hF := hF hn
    have hgo : ∀ x ∈ l.take (k + 1), EntF inv x := by
      intro x hx
      rw [hsn] at hx
      rcases List.mem_append.1 hx with h | h
      · exact hp x h
      · rw [List.mem_singleton] at h; rw [h]; exact hF
    by_cases hk0 : k = 0
    · subst hk0
      simp (decide := true) [int, hn, lexD, I64]
      exact ⟨1, ⟨hlt, hgo, fun j h h' => absurd h' (by omega)⟩, by omega, by omega⟩
    · have hk0' : (0 : Int) < k := by omega
      have hlm : k - 1 < l.length := by omega
      obtain ⟨y, ey⟩ : ∃ y, l[k - 1] = y := ⟨_, rfl⟩
      have ey1 : l[k - 1]? = some y := by rw [List.getElem?_eq_getElem hlm, ey]
      have t1 : ((k : Int) - 1).toNat = k - 1 := by omega
      have t2 : 0 ≤ (k : Int) - 1 := by omega
      have t3 : (k : Int) - 1 < l.length := by omega
      by_cases c1 : e.id ≤ y.id
      · simp (decide := true) [int, hn, lexD, Ent.row, I64, hk0, hk0', hlt, hlt', e1, ee, ey, ey1, t1, t2, t3, hlm, c1]
        exact fun _ => ⟨⟨by omega, by omega⟩, by omega⟩
      · simp (decide := true) [int, hn, lexD, Ent.row, I64, hk0, hk0', hlt, hlt', e1, ee, ey, ey1, t1, t2, t3, hlm, c1]
        refine fun _ => ⟨⟨by omega, by omega⟩, by omega, ⟨by omega, by omega⟩, k + 1, ⟨hlt, hgo, fun j h h' => ?_⟩, by omega, by omega⟩
        by_cases hj : j + 1 < k
        · exact hup j h hj
        · have hj1 : j = k - 1 := by omega
          subst hj1
          have hk1 : k - 1 + 1 = k := by omega
          have : l[k - 1 + 1] = e := by rw [← ee]; congr 1
          rw [ey, this]; omega
  · have : k = l.length := by omega
    subst this
    rw [List.take_length] at hp
    refine ev_sound mixed ?_
    simp (decide := true) [int, lexD]
    have hsimp : LexF inv l := ⟨hp, fun j h => hup j h h⟩
    refine loop_rule mixed (fun k : Nat => { n := 87, next := 1, slots := [(1, .d (lexD l)), (2, .bp 0 0), (44, .d (int l.length)), (45, .d (int k))], own := [(0, .box 24 [.d (invD inv)])] })
      (fun k => k ≤ l.length) (fun k => l.length - k) 0 (by simp) (by simp (decide := true) [int, ints, lexD]) ?_
    intro i hi
    by_cases hli : i < l.length
    · have hli' : (i : Int) < l.length := by omega
      have hlk := (hp l[i] (List.getElem_mem hli)).links
      obtain ⟨e, ee⟩ : ∃ e, l[i] = e := ⟨_, rfl⟩
      have e1 : l[i]? = some e := by rw [List.getElem?_eq_getElem hli, ee]
      rw [ee] at hlk
      by_cases hm : e.main = 0
      · simp (decide := true) [int, lexD, Ent.row, lnkD, hli, hli', e1, ee, hm, I64]
        refine loop_rule mixed (fun m : Nat => { n := 87, next := 1, slots := [(1, .d (lexD l)), (2, .bp 0 0), (7, .d (int i)), (44, .d (int l.length)), (45, .d (int i)), (69, .d (int e.links.length)), (70, .d (int m))], own := [(0, .box 24 [.d (invD inv)])] })
          (fun m => m ≤ e.links.length) (fun m => e.links.length - m) 0 (by simp) (by simp (decide := true) [int, ints, lexD]) ?_
        intro m hm2
        by_cases hlm : m < e.links.length
        · have hlm' : (m : Int) < e.links.length := by omega
          obtain ⟨y, ey⟩ : ∃ y, e.links[m] = y := ⟨_, rfl⟩
          have ey1 : e.links[m]? = some y := by rw [List.getElem?_eq_getElem hlm, ey]
          simp (decide := true) [int, lexD, Ent.row, lnkD, Lnk.row, hli, hli', e1, ee, hlm, hlm', ey, ey1, I64]
          refine ECall.pure (by rfl) (has25_ok l y.dst (by omega)) (by simp [int, lexD]) ?_
          cases hg2 : (getE l y.dst).2 with
          | false => simp (decide := true) [int]
          | true =>
            simp (decide := true) [int, I64, lexD]
            exact ⟨⟨by omega, by omega⟩, m + 1, hlm, by omega, by omega⟩
        · have hlm' : ¬ (m : Int) < e.links.length := by omega
          simp (decide := true) [int, lexD, hlm', I64]
          exact ⟨⟨by omega, by omega⟩, i + 1, hli, by omega, by omega⟩
      · simp (decide := true) [int, lexD, Ent.row, lnkD, hli, hli', e1, ee, hm, I64]
        refine ECall.pure (by rfl) (has25_ok l e.main (by omega)) (by simp [int, lexD]) ?_
        cases hg : (getE l e.main).2 with
        | false => simp (decide := true) [int]
        | true =>
          simp (decide := true) [int, lexD, Ent.row, lnkD, hli, hli', e1, ee, hm, I64]
          refine loop_rule mixed (fun m : Nat => { n := 87, next := 1, slots := [(1, .d (lexD l)), (2, .bp 0 0), (7, .d (int i)), (44, .d (int l.length)), (45, .d (int i)), (69, .d (int e.links.length)), (70, .d (int m))], own := [(0, .box 24 [.d (invD inv)])] })
            (fun m => m ≤ e.links.length) (fun m => e.links.length - m) 0 (by simp) (by simp (decide := true) [int, ints, lexD]) ?_
          intro m hm2
          by_cases hlm : m < e.links.length
          · have hlm' : (m : Int) < e.links.length := by omega
            obtain ⟨y, ey⟩ : ∃ y, e.links[m] = y := ⟨_, rfl⟩
            have ey1 : e.links[m]? = some y := by rw [List.getElem?_eq_getElem hlm, ey]
            simp (decide := true) [int, lexD, Ent.row, lnkD, Lnk.row, hli, hli', e1, ee, hlm, hlm', ey, ey1, I64]
            refine ECall.pure (by rfl) (has25_ok l y.dst (by omega)) (by simp [int, lexD]) ?_
            cases hg2 : (getE l y.dst).2 with
            | false => simp (decide := true) [int]
            | true =>
              simp (decide := true) [int, I64, lexD]
              exact ⟨⟨by omega, by omega⟩, m + 1, hlm, by omega, by omega⟩
          · have hlm' : ¬ (m : Int) < e.links.length := by omega
            simp (decide := true) [int, lexD, hlm', I64]
            exact ⟨⟨by omega, by omega⟩, i + 1, hli, by omega, by omega⟩
    · have hli' : ¬ (i : Int) < l.length := by omega
      simp (decide := true) [int, lexD, hli']
      exact hsimp
end Go.V
namespace Go.V
open Go Go.Proofs
def invC (k : Int) : Int := if k = 0 then k else if k = 1 then k else if k = 2 then 3 else if k = 3 then 2 else if k = 4 then 5 else if k = 5 then 4 else -1
theorem inverse26_ok (k : Int) : PureR Tryz.prog 151 [int k] (int (invC k)) := by
  refine pure_of_body mixed Tryz.func151 rfl call_151 ?_
  unfold invC
  by_cases h0 : k = 0
  · simp (decide := true) [Tryz.f151, int, h0]
  by_cases h1 : k = 1
  · simp (decide := true) [Tryz.f151, int, h0, h1]
  by_cases h2 : k = 2
  · simp (decide := true) [Tryz.f151, int, h0, h1, h2]
  by_cases h3 : k = 3
  · simp (decide := true) [Tryz.f151, int, h0, h1, h2, h3]
  by_cases h4 : k = 4
  · simp (decide := true) [Tryz.f151, int, h0, h1, h2, h3, h4]
  by_cases h5 : k = 5
  · simp (decide := true) [Tryz.f151, int, h0, h1, h2, h3, h4, h5]
  simp (decide := true) [Tryz.f151, int, h0, h1, h2, h3, h4, h5]
def linkIn (e : Ent) (x : Lnk) : Bool := e.links.any fun y => decide (y = x)
theorem has26_ok (e : Ent) (x : Lnk) (hl : e.links.length ≤ 1048576) : PureR Tryz.prog 153 [.agg e.row, .agg x.row] (.bool (linkIn e x)) := by
  refine pure_of_body mixed Tryz.func153 rfl call_153 ?_
  simp (decide := true) [Tryz.f153, int, Ent.row, Lnk.row]
  refine loop_rule mixed (fun k : Nat => { n := 20, next := 2, slots := [(2, .bp 0 0), (3, .bp 1 0), (5, .d (int k))], own := [(0, .box 102 (e.row.map .d)), (1, .box 213 (x.row.map .d))] })
    (fun k => k ≤ e.links.length ∧ ∀ y ∈ e.links.take k, ¬ y = x) (fun k => e.links.length - k) 0 (by simp) (by simp (decide := true) [int, ints, Ent.row, Lnk.row, lnkD]) ?_
  intro k ⟨hk, hp⟩
  by_cases hlt : k < e.links.length
  · have hlt' : (k : Int) < e.links.length := by omega
    have hmem := List.getElem_mem hlt
    have hsn := take_snocG hlt
    obtain ⟨y, ey⟩ : ∃ y, e.links[k] = y := ⟨_, rfl⟩
    have e1 : e.links[k]? = some y := by rw [List.getElem?_eq_getElem hlt, ey]
    rw [ey] at hmem hsn
    by_cases b1 : y = x
    · have : linkIn e x = true := List.any_eq_true.2 ⟨y, hmem, by simpa using b1⟩
      rw [this]
      subst b1
      simp (decide := true) [int, ints, Ent.row, lnkD, Lnk.row, hlt, hlt', e1, ey]
    · simp (decide := true) [int, ints, Ent.row, lnkD, Lnk.row, hlt, hlt', e1, ey, I64]
      have hne : y.kind = x.kind → ¬ y.dst = x.dst := by
        intro h1 h2
        obtain ⟨a, b⟩ := y
        obtain ⟨c, d⟩ := x
        simp only at h1 h2
        exact b1 (by rw [h1, h2])
      refine ⟨fun h1 h2 => absurd h2 (hne h1), fun _ => ⟨⟨by omega, by omega⟩, k + 1, ⟨hlt, fun z hz => ?_⟩, by omega, by omega⟩⟩
      rw [hsn] at hz
      rcases List.mem_append.1 hz with h | h
      · exact hp z h
      · rw [List.mem_singleton] at h; rw [h]; exact b1
  · have : k = e.links.length := by omega
    subst this
    rw [List.take_length] at hp
    have : linkIn e x = false := by unfold linkIn; rw [List.any_eq_false]; intro y hy; simpa using hp y hy
    rw [this]
    simp (decide := true) [int, ints, Ent.row, lnkD]
theorem in26_ok (l : List Int) (x : Int) (hl : l.length < 2^40) : PureR Tryz.prog 154 [ints l, int x] (.bool (decide (x ∈ l))) := by
  refine pure_of_body mixed Tryz.func154 rfl call_154 ?_
  simp (decide := true) [Tryz.f154, int, ints]
  refine loop_rule mixed (fun k : Nat => { n := 18, next := 0, slots := [(0, .d (ints l)), (1, .d (int x)), (5, .d (int k))], own := [] })
    (fun k => k ≤ l.length ∧ ∀ y ∈ l.take k, ¬ y = x) (fun k => l.length - k) 0 (by simp) (by simp (decide := true) [int, ints]) ?_
  intro k ⟨hk, hp⟩
  by_cases hlt : k < l.length
  · have hlt' : (k : Int) < l.length := by omega
    have hmem := List.getElem_mem hlt
    have hsn := take_snocG hlt
    obtain ⟨y, ey⟩ : ∃ y, l[k] = y := ⟨_, rfl⟩
    have e1 : l[k]? = some y := by rw [List.getElem?_eq_getElem hlt, ey]
    rw [ey] at hmem hsn
    by_cases b1 : y = x
    · subst b1
      simp (decide := true) [int, ints, hlt, hlt', e1, ey, hmem]
    · simp (decide := true) [int, ints, hlt, hlt', e1, ey, b1, I64]
      refine ⟨⟨by omega, by omega⟩, k + 1, ⟨hlt, fun z hz => ?_⟩, by omega, by omega⟩
      rw [hsn] at hz
      rcases List.mem_append.1 hz with h | h
      · exact hp z h
      · rw [List.mem_singleton] at h; rw [h]; exact b1
  · have : k = l.length := by omega
    subst this
    rw [List.take_length] at hp
    have hn : ¬ x ∈ l := fun h => hp x h rfl
    simp (decide := true) [int, ints, hn]
def rStep (l : List Ent) (kind : Int) (s : List Bool × List Int) (x : Lnk) : List Bool × List Int :=
  if x.kind = kind ∧ 0 ≤ findE l x.dst ∧ s.1[(findE l x.dst).toNat]?.getD true = false then (s.1.set (findE l x.dst).toNat true, s.2 ++ [x.dst]) else s
def rOne (l : List Ent) (kind : Int) (s : List Bool × List Int) (t : Int) : List Bool × List Int := (getE l t).1.links.foldl (rStep l kind) s
def rRound (l : List Ent) (kind : Int) (s : List Bool × List Int) : List Bool × List Int := s.2.foldl (rOne l kind) (s.1, [])
def rN (l : List Ent) (id kind : Int) : Nat → List Bool × List Int
  | 0 => (List.replicate l.length false, [id])
  | n + 1 => rRound l kind (rN l id kind n)
def rOut (l : List Ent) (s : List Bool) (k : Nat) : List Int := ((List.range k).filter fun j => s[j]?.getD false).map fun j => ((l[j]?).map Ent.id).getD 0
def reachF (l : List Ent) (id kind : Int) : List Int := rOut l (rN l id kind (l.length + 1)).1 l.length
theorem rStep_len (l : List Ent) (kind : Int) (s : List Bool × List Int) (x : Lnk) : (rStep l kind s x).1.length = s.1.length ∧ (rStep l kind s x).2.length ≤ s.2.length + 1 := by
  unfold rStep; split <;> simp
theorem rFold_len (l : List Ent) (kind : Int) : ∀ (xs : List Lnk) (s : List Bool × List Int), (xs.foldl (rStep l kind) s).1.length = s.1.length ∧ (xs.foldl (rStep l kind) s).2.length ≤ s.2.length + xs.length
  | [], s => ⟨rfl, Nat.le_refl _⟩
  | x :: xs, s => by
    have h1 := rStep_len l kind s x
    have h2 := rFold_len l kind xs (rStep l kind s x)
    rw [List.foldl_cons, List.length_cons]
    exact ⟨h2.1.trans h1.1, by omega⟩
theorem getE_links {l : List Ent} (hk : ∀ e ∈ l, e.links.length ≤ 12) (t : Int) : (getE l t).1.links.length ≤ 12 := by
  rcases findE_get l t with ⟨_, h2⟩ | ⟨j, hj, _, h2⟩
  · rw [h2]; simp [Ent.zero]
  · rw [h2]; exact hk _ (List.getElem_mem hj)
theorem rOnes_len {l : List Ent} (hk : ∀ e ∈ l, e.links.length ≤ 12) (kind : Int) : ∀ (ts : List Int) (s : List Bool × List Int), (ts.foldl (rOne l kind) s).1.length = s.1.length ∧ (ts.foldl (rOne l kind) s).2.length ≤ s.2.length + 12 * ts.length
  | [], s => ⟨rfl, by simp⟩
  | t :: ts, s => by
    have h1 := rFold_len l kind (getE l t).1.links s
    have h0 := getE_links hk t
    have h2 := rOnes_len hk kind ts (rOne l kind s t)
    rw [List.foldl_cons, List.length_cons]
    unfold rOne at h2 ⊢
    exact ⟨h2.1.trans h1.1, by omega⟩
theorem rN_len {l : List Ent} (hk : ∀ e ∈ l, e.links.length ≤ 12) (id kind : Int) : ∀ n, (rN l id kind n).1.length = l.length ∧ (rN l id kind n).2.length ≤ 12 ^ n
  | 0 => by simp [rN]
  | n + 1 => by
    have h := rN_len hk id kind n
    have h2 := rOnes_len hk kind (rN l id kind n).2 ((rN l id kind n).1, [])
    unfold rN rRound
    simp only [List.length_nil, Nat.zero_add] at h2
    refine ⟨h2.1.trans h.1, Nat.le_trans h2.2 ?_⟩
    rw [Nat.pow_succ]; omega
theorem rOut_snoc (l : List Ent) (s : List Bool) (k : Nat) : rOut l s (k + 1) = rOut l s k ++ (if s[k]?.getD false = true then [((l[k]?).map Ent.id).getD 0] else []) := by
  unfold rOut
  rw [List.range_succ, List.filter_append, List.map_append]
  congr 1
  by_cases h : s[k]?.getD false = true
  · simp [h]
  · simp [h]
theorem rOut_len (l : List Ent) (s : List Bool) (k : Nat) : (rOut l s k).length ≤ k := by
  unfold rOut
  rw [List.length_map]
  have := List.length_filter_le (fun j => s[j]?.getD false) (List.range k)
  simpa using this
def rB (l : List Bool) : List (List D) := l.map fun b => [.bool b]
def rI (l : List Int) : List (List D) := l.map fun n => [int n]
def rH (l : List Ent) (id kind : Int) (i : Nat) : St :=
  { n := 110, next := 3, slots := [(0, .d (lexD l)), (1, .d (int id)), (2, .d (int kind)), (7, .ar 1), (8, .d (ints (rN l id kind i).2)), (9, .d (int i))], own := [(1, .arr 4 1 (rB (rN l id kind i).1))], moved := [3] }
def rM (l : List Ent) (id kind : Int) (i : Nat) (todo : List Int) (s : List Bool × List Int) : St :=
  { n := 110, next := 4, slots := [(0, .d (lexD l)), (1, .d (int id)), (2, .d (int kind)), (7, .ar 1), (8, .d (ints todo)), (9, .d (int i)), (10, .ar 3)], own := [(1, .arr 4 1 (rB s.1)), (3, .arr 3 1 (rI s.2))], moved := [3] }
def rMj (l : List Ent) (id kind : Int) (i : Nat) (todo : List Int) (j : Nat) (s : List Bool × List Int) : St :=
  { n := 110, next := 4, slots := [(0, .d (lexD l)), (1, .d (int id)), (2, .d (int kind)), (7, .ar 1), (8, .d (ints todo)), (9, .d (int i)), (10, .ar 3), (11, .d (int j))], own := [(1, .arr 4 1 (rB s.1)), (3, .arr 3 1 (rI s.2))], moved := [3] }
def rL (l : List Ent) (id kind : Int) (i : Nat) (todo : List Int) (j : Nat) (f : Int) (m : Nat) (s : List Bool × List Int) : St :=
  { n := 110, next := 4, slots := [(0, .d (lexD l)), (1, .d (int id)), (2, .d (int kind)), (7, .ar 1), (8, .d (ints todo)), (9, .d (int i)), (10, .ar 3), (11, .d (int j)), (12, .d (int f)), (13, .d (int m))], own := [(1, .arr 4 1 (rB s.1)), (3, .arr 3 1 (rI s.2))], moved := [3] }
set_option maxHeartbeats 16000000 in
theorem reach26_ok (l : List Ent) (id kind : Int) (hl : l.length ≤ 5) (hk : ∀ e ∈ l, e.links.length ≤ 12) : PureR Tryz.prog 155 [lexD l, int id, int kind] (ints (reachF l id kind)) := by
  refine pure_of_body mixed Tryz.func155 rfl call_155 ?_
  simp (decide := true) [Tryz.f155, int, lexD]
  refine ⟨by omega, by unfold maxLen; omega, ?_⟩
  refine triple_frz [2] ?_
  refine loop_ruleT mixed (rH l id kind) (fun i => i ≤ l.length + 1) (fun i => l.length + 1 - i) 0 (by simp) (by simp (decide := true) [rH, rN, int, ints, lexD, rB]) ?_
  intro i hi
  obtain ⟨n1, n2⟩ := rN_len hk id kind i
  have hpw : 12 ^ i ≤ 12 ^ 6 := Nat.pow_le_pow_right (by omega) (by omega)
  by_cases hlt : i < l.length + 1
  · have hlt' : (i : Int) ≤ l.length := by omega
    refine cut_ev mixed 1 (rH l id kind i) rfl (by simp (decide := true) [rH, headC, cutK, int, lexD, hlt']) ?_
    simp only [tailC]
    refine triple_seqE (triple_block (cut_ev mixed 2 (rM l id kind i (rN l id kind i).2 (rN l id kind (i + 1))) rfl ?_ ?_)) mixed
    · unfold rH
      have n3 : (rN l id kind i).2.length ≤ 2985984 := Nat.le_trans n2 (Nat.le_trans hpw (by decide))
      have hsucc : rN l id kind (i + 1) = (rN l id kind i).2.foldl (rOne l kind) ((rN l id kind i).1, []) := rfl
      generalize rN l id kind (i + 1) = nx at hsucc
      generalize rN l id kind i = cur at hsucc n1 n2 n3 ⊢
      obtain ⟨seen, todo⟩ := cur
      simp only at hsucc n1 n2 n3
      simp (decide := true) [rH, headC, int, lexD]
      have hbase : (seen, []) = (([] : List Int).foldl (rOne l kind) (seen, [])) := rfl
      refine loop_rule mixed (fun j : Nat => rMj l id kind i todo j ((todo.take j).foldl (rOne l kind) (seen, []))) (fun j => j ≤ todo.length) (fun j => todo.length - j) 0 (by simp) (by simp (decide := true) [rMj, int, ints, lexD, rB, rI]) ?_
      intro j hj
      obtain ⟨m1, m2⟩ := rOnes_len hk kind (todo.take j) (seen, [])
      rw [List.length_take] at m2
      simp only [List.length_nil, Nat.zero_add] at m1 m2
      by_cases hlj : j < todo.length
      case neg =>
        have : j = todo.length := by omega
        subst this
        rw [List.take_length, ← hsucc]
        simp (decide := true) [rMj, rM, int, ints, lexD, cutK]
        done
      have hlj' : (j : Int) < todo.length := by omega
      have hsn : (todo.take (j + 1)).foldl (rOne l kind) (seen, []) = rOne l kind ((todo.take j).foldl (rOne l kind) (seen, [])) todo[j] := by rw [take_snocG hlj, List.foldl_append]; rfl
      obtain ⟨t, et⟩ : ∃ t, todo[j] = t := ⟨_, rfl⟩
      have et1 : todo[j]? = some t := by rw [List.getElem?_eq_getElem hlj, et]
      rw [et] at hsn
      generalize (todo.take j).foldl (rOne l kind) (seen, []) = s0 at hsn m1 m2
      have hF := find26_ok l t (by omega)
      have hlk := getE_links hk t
      have hone : rOne l kind s0 t = (getE l t).1.links.foldl (rStep l kind) s0 := rfl
      rw [hone] at hsn
      simp (decide := true) [rMj, int, ints, lexD, hlj, hlj', et, et1]
      refine ECall.pure (by rfl) hF (by simp [int, lexD]) ?_
      simp (decide := true) [int, ints, lexD]
      refine loop_rule mixed (fun m : Nat => rL l id kind i todo j (findE l t) m (((getE l t).1.links.take m).foldl (rStep l kind) s0)) (fun m => m ≤ (getE l t).1.links.length) (fun m => (getE l t).1.links.length - m) 0 (by simp) (by simp (decide := true) [rL, int, ints, lexD, rB, rI]) ?_
      intro m hm
      rcases findE_get l t with ⟨f1, f2⟩ | ⟨q, hq, f1, f2⟩
      · have hz : (getE l t).1.links = [] := by rw [f2]; rfl
        rw [hz] at hm hsn ⊢
        have hm0 : m = 0 := by simpa using hm
        subst hm0
        have hf0 : ¬ 0 ≤ findE l t := by omega
        simp only [List.take_zero, List.foldl_nil] at hsn ⊢
        simp (decide := true) [rL, int, ints, lexD, hf0, I64]
        exact ⟨⟨by omega, by omega⟩, j + 1, hlj, by omega, by omega, by rw [hsn], by rw [hsn]⟩
      · rw [f2] at hm hsn hlk ⊢
        simp only at hm hsn hlk ⊢
        rw [f1]
        obtain ⟨e, ee⟩ : ∃ e, l[q] = e := ⟨_, rfl⟩
        have eq1 : l[q]? = some e := by rw [List.getElem?_eq_getElem hq, ee]
        have hq' : (q : Int) < l.length := by omega
        rw [ee] at hm hsn hlk ⊢
        by_cases hlm : m < e.links.length
        case neg =>
          have : m = e.links.length := by omega
          subst this
          rw [List.take_length, ← hsn]
          simp (decide := true) [rL, int, ints, lexD, hq, hq', ee, eq1, Ent.row, lnkD, I64]
          exact ⟨⟨by omega, by omega⟩, j + 1, hlj, by omega, by omega, rfl, rfl⟩
        have hlm' : (m : Int) < e.links.length := by omega
        obtain ⟨p1, p2⟩ := rFold_len l kind (e.links.take m) s0
        rw [List.length_take] at p2
        have hsm : (e.links.take (m + 1)).foldl (rStep l kind) s0 = rStep l kind ((e.links.take m).foldl (rStep l kind) s0) e.links[m] := by rw [take_snocG hlm, List.foldl_append]; rfl
        obtain ⟨x, ex⟩ : ∃ x, e.links[m] = x := ⟨_, rfl⟩
        have ex1 : e.links[m]? = some x := by rw [List.getElem?_eq_getElem hlm, ex]
        rw [ex] at hsm
        generalize (e.links.take m).foldl (rStep l kind) s0 = s1 at hsm p1 p2
        have hG := find26_ok l x.dst (by omega)
        have hstep : rStep l kind s1 x = if x.kind = kind ∧ 0 ≤ findE l x.dst ∧ s1.1[(findE l x.dst).toNat]?.getD true = false then (s1.1.set (findE l x.dst).toNat true, s1.2 ++ [x.dst]) else s1 := rfl
        rw [hstep] at hsm
        simp (decide := true) [rL, int, ints, lexD, hq, hq', ee, eq1, Ent.row, lnkD, Lnk.row, I64, hlm, hlm', ex, ex1]
        refine ECall.pure (by rfl) hG (by simp [int, lexD]) ?_
        by_cases k1 : x.kind = kind
        case neg =>
          rw [if_neg (fun h => k1 h.1)] at hsm
          simp (decide := true) [int, k1, I64]
          exact ⟨⟨by omega, by omega⟩, m + 1, hlm, by omega, by omega, by rw [hsm], by rw [hsm]⟩
        rcases findE_get l x.dst with ⟨g1, g2⟩ | ⟨u, hu, g1, g2⟩
        · have hg0 : ¬ 0 ≤ findE l x.dst := by omega
          rw [if_neg (fun h => hg0 h.2.1)] at hsm
          simp (decide := true) [int, k1, hg0, I64]
          exact ⟨⟨by omega, by omega⟩, m + 1, hlm, by omega, by omega, by rw [hsm], by rw [hsm]⟩
        · have hul : u < s1.1.length := by omega
          obtain ⟨b, eb⟩ : ∃ b, s1.1[u] = b := ⟨_, rfl⟩
          have eb1 : s1.1[u]? = some b := by rw [List.getElem?_eq_getElem hul, eb]
          rw [g1] at hsm
          simp only [Int.toNat_natCast, eb1, Option.getD_some] at hsm
          have hu' : (u : Int) < s1.1.length := by omega
          cases b with
          | true =>
            rw [if_neg (fun h => by cases h.2.2)] at hsm
            simp (decide := true) [int, k1, g1, rB, hul, hu', eb, eb1, I64]
            exact ⟨⟨by omega, by omega⟩, m + 1, hlm, by omega, by omega, by rw [hsm], by rw [hsm]⟩
          | false =>
            rw [if_pos ⟨k1, by omega, rfl⟩] at hsm
            simp (decide := true) [int, k1, g1, rB, rI, hul, hu', eb, eb1, I64]
            exact ⟨by omega, by unfold maxLen; omega, ⟨by omega, by omega⟩, m + 1, hlm, by omega, by omega, by rw [hsm]; simp [List.map_set], by rw [hsm]; simp⟩
    · simp only [tailC]
      refine triple_frz [3] ?_
      refine ev_sound mixed ?_
      simp (decide := true) [rM, int, lexD]
      exact ⟨⟨by omega, by omega⟩, i + 1, by omega, by omega, by simp (decide := true) [rH, int, ints, lexD, rB, rI]⟩
  · have : i = l.length + 1 := by omega
    subst this
    refine ev_sound mixed ?_
    have hn : ¬ (l.length : Int) + 1 ≤ l.length := by omega
    simp (decide := true) [rH, int, lexD, hn]
    have hfin : reachF l id kind = rOut l (rN l id kind (l.length + 1)).1 l.length := rfl
    generalize (rN l id kind (l.length + 1)).1 = seen at hfin n1 ⊢
    refine loop_rule mixed (fun k : Nat => { n := 110, next := 4, slots := [(0, .d (lexD l)), (7, .ar 1), (16, .ar 3), (17, .d (int k))], own := [(1, .arr 4 1 (rB seen)), (3, .arr 3 1 (rI (rOut l seen k)))], moved := [3] }) (fun k => k ≤ l.length) (fun k => l.length - k) 0 (by simp) (by simp (decide := true) [int, ints, lexD, rB, rI, rOut]) ?_
    intro k hkl
    have hol := rOut_len l seen k
    by_cases hlk : k < l.length
    · have hlk' : (k : Int) < l.length := by omega
      have hks : k < seen.length := by omega
      have hks' : (k : Int) < seen.length := by omega
      have hsn := rOut_snoc l seen k
      obtain ⟨e, ee⟩ : ∃ e, l[k] = e := ⟨_, rfl⟩
      have e1 : l[k]? = some e := by rw [List.getElem?_eq_getElem hlk, ee]
      obtain ⟨b, eb⟩ : ∃ b, seen[k] = b := ⟨_, rfl⟩
      have eb1 : seen[k]? = some b := by rw [List.getElem?_eq_getElem hks, eb]
      rw [e1, eb1] at hsn
      cases b with
      | false =>
        simp only [Option.getD_some, Bool.false_eq_true, if_false, List.append_nil] at hsn
        simp (decide := true) [int, ints, lexD, rB, hlk, hlk', hks, hks', ee, e1, eb, eb1, I64]
        exact ⟨⟨by omega, by omega⟩, k + 1, hlk, by omega, by omega, by rw [hsn]⟩
      | true =>
        simp only [Option.getD_some, if_true, Option.map_some] at hsn
        simp (decide := true) [int, ints, lexD, rB, rI, Ent.row, hlk, hlk', hks, hks', ee, e1, eb, eb1, I64]
        exact ⟨by omega, by unfold maxLen; omega, ⟨by omega, by omega⟩, k + 1, hlk, by omega, by omega, by rw [hsn]; simp⟩
    · have : k = l.length := by omega
      subst this
      rw [hfin]
      simp (decide := true) [int, ints, lexD, rI]
end Go.V
namespace Go.V
open Go Go.Proofs
theorem reachF_len (l : List Ent) (id kind : Int) : (reachF l id kind).length ≤ l.length := rOut_len _ _ _
set_option maxHeartbeats 16000000 in
theorem check26_ok (l : List Ent) (hl : l.length ≤ 5) (hk : ∀ e ∈ l, e.links.length ≤ 12) : PureE Tryz.prog 91 [lexD l] IsI := by
  refine some_of_body mixed Tryz.func91 rfl call_91 ?_
  simp (decide := true) [Tryz.f91, int, lexD]
  refine loop_rule mixed (fun i : Nat => { n := 91, next := 0, slots := [(0, .d (lexD l)), (3, .d (int i))], own := [] }) (fun i => i ≤ l.length) (fun i => l.length - i) 0 (by simp) (by simp (decide := true) [int, lexD]) ?_
  intro i hi
  by_cases hli : i < l.length
  · have hli' : (i : Int) < l.length := by omega
    have hlk := hk l[i] (List.getElem_mem hli)
    obtain ⟨e, ee⟩ : ∃ e, l[i] = e := ⟨_, rfl⟩
    have e1 : l[i]? = some e := by rw [List.getElem?_eq_getElem hli, ee]
    rw [ee] at hlk
    simp (decide := true) [int, lexD, hli']
    refine loop_rule mixed (fun k : Nat => { n := 91, next := 0, slots := [(0, .d (lexD l)), (3, .d (int i)), (4, .d (int k))], own := [] }) (fun k => k ≤ e.links.length) (fun k => e.links.length - k) 0 (by simp) (by simp (decide := true) [int, lexD]) ?_
    intro k hkl
    by_cases hlm : k < e.links.length
    · have hlm' : (k : Int) < e.links.length := by omega
      obtain ⟨x, ex⟩ : ∃ x, e.links[k] = x := ⟨_, rfl⟩
      have ex1 : e.links[k]? = some x := by rw [List.getElem?_eq_getElem hlm, ex]
      simp (decide := true) [int, lexD, Ent.row, lnkD, Lnk.row, hli, hli', ee, e1, hlm, hlm', ex, ex1]
      refine ECall.pure (by rfl) (inverse26_ok x.kind) (by simp [int]) ?_
      by_cases c1 : invC x.kind < 0
      · simp (decide := true) [int, c1]
      simp (decide := true) [int, lexD, c1]
      refine ECall.pure (by rfl) (find26_ok l x.dst (by omega)) (by simp [int, lexD]) ?_
      rcases findE_get l x.dst with ⟨g1, g2⟩ | ⟨u, hu, g1, g2⟩
      · simp (decide := true) [int, g1]
      · have hu' : (u : Int) < l.length := by omega
        have hul := hk l[u] (List.getElem_mem hu)
        obtain ⟨y, ey⟩ : ∃ y, l[u] = y := ⟨_, rfl⟩
        have ey1 : l[u]? = some y := by rw [List.getElem?_eq_getElem hu, ey]
        rw [ey] at hul
        have hH := has26_ok y ⟨invC x.kind, e.id⟩ (by omega)
        rw [g1]
        simp (decide := true) [int, lexD, Ent.row, lnkD, Lnk.row, hli, hli', ee, e1, hu, hu', ey, ey1]
        refine scall_pure (by rfl) (by rfl) (inverse26_ok x.kind) (by simp [int]) ?_
        simp (decide := true) [int, lexD, Ent.row, lnkD, Lnk.row, hli, hli', ee, e1, hu, hu', ey, ey1]
        refine scall_pure (by rfl) (by rfl) hH (by simp [int, Ent.row, Lnk.row]) ?_
        cases hb : linkIn y ⟨invC x.kind, e.id⟩ with
        | false => simp (decide := true) [int]
        | true =>
          simp (decide := true) [int, I64, lexD]
          exact ⟨⟨by omega, by omega⟩, k + 1, hlm, by omega, by omega⟩
    · have hlm' : ¬ (k : Int) < e.links.length := by omega
      simp (decide := true) [int, lexD, Ent.row, lnkD, hli, hli', ee, e1, hlm', I64]
      exact ⟨⟨by omega, by omega⟩, i + 1, hli, by omega, by omega⟩
  · have hli' : ¬ (i : Int) < l.length := by omega
    simp (decide := true) [int, lexD, hli']
    refine loop_rule mixed (fun i : Nat => { n := 91, next := 0, slots := [(0, .d (lexD l)), (7, .d (int i))], own := [] }) (fun i => i ≤ l.length) (fun i => l.length - i) 0 (by simp) (by simp (decide := true) [int, lexD]) ?_
    intro j hj
    by_cases hlj : j < l.length
    · have hlj' : (j : Int) < l.length := by omega
      obtain ⟨e, ee⟩ : ∃ e, l[j] = e := ⟨_, rfl⟩
      have e1 : l[j]? = some e := by rw [List.getElem?_eq_getElem hlj, ee]
      have r2 := reachF_len l e.id 2
      have r4 := reachF_len l e.id 4
      simp (decide := true) [int, lexD, Ent.row, hlj, hlj', ee, e1]
      refine scall_pure (by rfl) (by rfl) (reach26_ok l e.id 2 hl hk) (by simp [int, lexD]) ?_
      simp (decide := true) [int, ints, lexD, Ent.row, hlj, hlj', ee, e1]
      refine scall_pure (by rfl) (by rfl) (in26_ok (reachF l e.id 2) e.id (by omega)) (by simp [int, ints]) ?_
      by_cases m2 : e.id ∈ reachF l e.id 2
      · simp (decide := true) [int, m2]
      simp (decide := true) [int, lexD, Ent.row, hlj, hlj', ee, e1, m2]
      refine scall_pure (by rfl) (by rfl) (reach26_ok l e.id 4 hl hk) (by simp [int, lexD]) ?_
      simp (decide := true) [int, ints, lexD, Ent.row, hlj, hlj', ee, e1, m2]
      refine scall_pure (by rfl) (by rfl) (in26_ok (reachF l e.id 4) e.id (by omega)) (by simp [int, ints]) ?_
      by_cases m4 : e.id ∈ reachF l e.id 4
      · simp (decide := true) [int, m2, m4]
      · simp (decide := true) [int, m2, m4, I64, lexD]
        exact ⟨⟨by omega, by omega⟩, j + 1, hlj, by omega, by omega⟩
    · have hlj' : ¬ (j : Int) < l.length := by omega
      simp (decide := true) [int, lexD, hlj']
structure MainF (l : List Ent) : Prop where
  main : ∀ e ∈ l, e.main ≠ 0 → 0 ≤ findE l e.main
  ends : ∀ e ∈ l, (wayG l (l.length + 1) e.id).length ≤ l.length
set_option maxHeartbeats 8000000 in
theorem check27_ok (l : List Ent) (hl : l.length ≤ 1048576) : PureE Tryz.prog 92 [lexD l] (fun x => ∃ n, x = int n ∧ (n = 0 → MainF l)) := by
  refine some_of_body mixed Tryz.func92 rfl call_92 ?_
  simp (decide := true) [Tryz.f92, int, lexD]
  refine loop_rule mixed (fun i : Nat => { n := 44, next := 0, slots := [(0, .d (lexD l)), (3, .d (int i))], own := [] }) (fun i => i ≤ l.length ∧ ∀ e ∈ l.take i, e.main ≠ 0 → 0 ≤ findE l e.main) (fun i => l.length - i) 0 (by simp) (by simp (decide := true) [int, lexD]) ?_
  intro i ⟨hi, hp⟩
  by_cases hli : i < l.length
  · have hli' : (i : Int) < l.length := by omega
    obtain ⟨e, ee⟩ : ∃ e, l[i] = e := ⟨_, rfl⟩
    have e1 : l[i]? = some e := by rw [List.getElem?_eq_getElem hli, ee]
    have hsn := take_snocG hli
    rw [ee] at hsn
    have hgo : (e.main ≠ 0 → 0 ≤ findE l e.main) → ∀ x ∈ l.take (i + 1), x.main ≠ 0 → 0 ≤ findE l x.main := by
      intro h x hx
      rw [hsn] at hx
      rcases List.mem_append.1 hx with h' | h'
      · exact hp x h'
      · rw [List.mem_singleton] at h'; rw [h']; exact h
    by_cases hm : e.main = 0
    · have hg := hgo (fun h => absurd hm h)
      simp (decide := true) [int, lexD, Ent.row, hli, hli', ee, e1, hm, I64]
      exact ⟨⟨by omega, by omega⟩, i + 1, ⟨hli, hg⟩, by omega, by omega⟩
    · simp (decide := true) [int, lexD, Ent.row, hli, hli', ee, e1, hm, I64]
      refine ECall.pure (by rfl) (find27_ok l e.main (by omega)) (by simp [int, lexD]) ?_
      by_cases c1 : findE l e.main < 0
      · simp (decide := true) [int, c1]
      · have hg := hgo (fun _ => by omega)
        simp (decide := true) [int, c1, I64, lexD]
        exact ⟨⟨by omega, by omega⟩, i + 1, ⟨hli, hg⟩, by omega, by omega⟩
  · have : i = l.length := by omega
    subst this
    rw [List.take_length] at hp
    simp (decide := true) [int, lexD]
    refine loop_rule mixed (fun i : Nat => { n := 44, next := 0, slots := [(0, .d (lexD l)), (4, .d (int i))], own := [] }) (fun i => i ≤ l.length ∧ ∀ e ∈ l.take i, (wayG l (l.length + 1) e.id).length ≤ l.length) (fun i => l.length - i) 0 (by simp) (by simp (decide := true) [int, lexD]) ?_
    intro j ⟨hj, hq⟩
    by_cases hlj : j < l.length
    · have hlj' : (j : Int) < l.length := by omega
      obtain ⟨e, ee⟩ : ∃ e, l[j] = e := ⟨_, rfl⟩
      have e1 : l[j]? = some e := by rw [List.getElem?_eq_getElem hlj, ee]
      have hsn := take_snocG hlj
      rw [ee] at hsn
      simp (decide := true) [int, lexD, Ent.row, hlj, hlj', ee, e1, I64]
      refine ECall.pure (by rfl) (way27_ok l e.id (by omega)) (by simp [int, lexD]) ?_
      by_cases c1 : l.length < (wayG l (l.length + 1) e.id).length
      · have c1' : (l.length : Int) < (wayG l (l.length + 1) e.id).length := by omega
        simp (decide := true) [int, ints, lexD, c1, c1']
      · have c1' : ¬ (l.length : Int) < (wayG l (l.length + 1) e.id).length := by omega
        simp (decide := true) [int, ints, lexD, c1, c1', I64]
        refine ⟨⟨by omega, by omega⟩, j + 1, ⟨hlj, fun x hx => ?_⟩, by omega, by omega⟩
        rw [hsn] at hx
        rcases List.mem_append.1 hx with h' | h'
        · exact hq x h'
        · rw [List.mem_singleton] at h'; rw [h']; omega
    · have : j = l.length := by omega
      subst this
      rw [List.take_length] at hq
      simp (decide := true) [int, lexD]
      exact ⟨hp, hq⟩
end Go.V
namespace Go.V
open Go Go.Proofs
theorem labelP_pos {s : ByteArray} (h : labelP s = true) : 0 < s.size ∧ s.size ≤ 32 := by
  unfold labelP at h
  simp only [Bool.and_eq_true, decide_eq_true_eq] at h
  omega
structure UnitF (u : Grap) : Prop where
  pos : 0 < u.graph.size
  size : u.graph.size ≤ 32
  segs : 1 ≤ u.segs.length
  few : u.segs.length ≤ 3
theorem label17X_ok (s : ByteArray) (hs : s.size ≤ 1048576) : PureE Tryz.prog 145 [.str s] (fun x => ∃ b, x = .bool b ∧ (b = true → 0 < s.size ∧ s.size ≤ 32)) := by
  refine some_of_body mixed Tryz.func145 rfl call_145 ?_
  simp (decide := true) [Tryz.f145, int]
  refine loop_rule mixed (fun k : Nat => { n := 16, next := 0, slots := [(0, .d (.str s)), (3, .d (int k))], own := [] })
    (fun k => k ≤ s.size) (fun k => s.size - k) 0 (by simp) (by simp (decide := true) [int]) ?_
  intro k hk
  by_cases hlt : k < s.size
  · have hlt' : (k : Int) < s.size := by omega
    have e1 : byteAt s (k : Int) = (byteN s k : Int) := byteAt_nat s k
    by_cases b1 : (byteN s k : Int) = 32
    · simp (decide := true) [int, hlt, hlt', e1, b1]
    · simp (decide := true) [int, hlt, hlt', e1, b1, I64]
      exact ⟨⟨by omega, by omega⟩, k + 1, hlt, by omega, by omega⟩
  · have hlt' : ¬ (k : Int) < s.size := by omega
    simp (decide := true) [int, hlt']
    refine ECall.pure (by rfl) (label10X_ok s hs) (by simp) ?_
    simp (decide := true) [int]
    cases h : labelP s with
    | false => exact .inl rfl
    | true => exact .inr ⟨rfl, labelP_pos h⟩
set_option maxHeartbeats 4000000 in
theorem unit17X_ok (inv : List Phon) (o : Orth) (ho : OrthC o) (i : Nat) (hi : i < o.units.length) (hl : inv.length < 2^40) : PureE Tryz.prog 144 [.agg [invD inv], .agg o.cells, int i] (fun x => ∃ n, x = int n ∧ (n = 0 → ∀ u, o.units[i]? = some u → UnitF u)) := by
  refine some_of_body mixed Tryz.func144 rfl call_144 ?_
  have hi' : (i : Int) < o.units.length := by omega
  have hu := ho.units o.units[i] (List.getElem_mem hi)
  have hfew := ho.few.1
  obtain ⟨u, eu⟩ : ∃ u, o.units[i] = u := ⟨_, rfl⟩
  have eu1 : o.units[i]? = some u := by rw [List.getElem?_eq_getElem hi, eu]
  rw [eu] at hu
  rw [eu1]
  simp (decide := true) [Tryz.f144, int, Orth.cells, unitsD, hi, hi', eu, eu1, Grap.row]
  refine ECall.some (by rfl) (label17X_ok u.graph hu.1) ?_
  rintro r ⟨b, rfl, hpos⟩
  cases b with
  | false => simp (decide := true) [int]
  | true =>
    have hpos := hpos rfl
    simp (decide := true) [int]
    refine loop_rule mixed (fun k : Nat => { n := 67, next := 3, slots := [(2, .d (int i)), (3, .bp 0 0), (4, .bp 1 0), (7, .bp 2 0), (8, .d (int k))], own := [(0, .box 24 [.d (invD inv)]), (1, .box 28 (o.cells.map .d)), (2, .box 143 [.d (.str u.graph), .d (ints u.segs)])] })
      (fun k => k ≤ i) (fun k => i - k) 0 (by simp) (by simp (decide := true) [int, ints, Orth.cells, unitsD, Grap.row]) ?_
    intro k hk
    by_cases hlt : k < i
    · have hlt' : (k : Int) < i := by omega
      have hku : k < o.units.length := by omega
      have hku' : (k : Int) < o.units.length := by omega
      obtain ⟨x, ex⟩ : ∃ x, o.units[k] = x := ⟨_, rfl⟩
      have ex1 : o.units[k]? = some x := by rw [List.getElem?_eq_getElem hku, ex]
      by_cases b1 : x.graph = u.graph
      · simp (decide := true) [int, ints, Orth.cells, unitsD, Grap.row, hlt, hlt', hku, hku', ex, ex1, b1]
      · simp (decide := true) [int, ints, Orth.cells, unitsD, Grap.row, hlt, hlt', hku, hku', ex, ex1, b1, I64]
        exact fun _ => ⟨⟨by omega, by omega⟩, k + 1, hlt, by omega, by omega⟩
    · have hlt' : ¬ (k : Int) < i := by omega
      by_cases c1 : (u.segs.length : Int) < 1
      · simp (decide := true) [int, ints, Orth.cells, unitsD, Grap.row, hlt, hlt', c1]
      · by_cases c2 : (3 : Int) < u.segs.length
        · simp (decide := true) [int, ints, Orth.cells, unitsD, Grap.row, hlt, hlt', c1, c2]
        · simp (decide := true) [int, ints, Orth.cells, unitsD, Grap.row, hlt, hlt', c1, c2]
          refine loop_rule mixed (fun m : Nat => { n := 67, next := 3, slots := [(2, .d (int i)), (3, .bp 0 0), (4, .bp 1 0), (7, .bp 2 0), (9, .d (int m))], own := [(0, .box 24 [.d (invD inv)]), (1, .box 28 (o.cells.map .d)), (2, .box 143 [.d (.str u.graph), .d (ints u.segs)])] })
            (fun m => m ≤ u.segs.length) (fun m => u.segs.length - m) 0 (by simp) (by simp (decide := true) [int, ints, Orth.cells, unitsD, Grap.row]) ?_
          intro m hm
          by_cases hlm : m < u.segs.length
          · have hlm' : (m : Int) < u.segs.length := by omega
            obtain ⟨y, ey⟩ : ∃ y, u.segs[m] = y := ⟨_, rfl⟩
            have ey1 : u.segs[m]? = some y := by rw [List.getElem?_eq_getElem hlm, ey]
            by_cases b1 : y < 1
            · simp (decide := true) [int, ints, hlm, hlm', ey, ey1, b1]
            · by_cases b2 : (inv.length : Int) < y
              · simp (decide := true) [int, ints, invD, hlm, hlm', ey, ey1, b1, b2]
              · simp (decide := true) [int, ints, invD, hlm, hlm', ey, ey1, b1, b2, I64]
                exact ⟨⟨by omega, by omega⟩, m + 1, hlm, by omega, by omega, by simp [Orth.cells, Sym.los, Sym.lo]⟩
          · have hlm' : ¬ (m : Int) < u.segs.length := by omega
            simp (decide := true) [int, ints, hlm']
            exact ⟨hpos.1, hpos.2, by omega, by omega⟩
set_option maxHeartbeats 8000000 in
theorem check17X_ok (inv : List Phon) (o : Orth) (ho : OrthC o) (hl : inv.length < 2^40) : PureE Tryz.prog 87 [.agg [invD inv], .agg o.cells] (fun x => ∃ n, x = int n ∧ (n = 0 → ∀ u ∈ o.units, UnitF u)) := by
  have hfew := ho.few
  refine some_of_body mixed Tryz.func87 rfl call_87 ?_
  simp (decide := true) [Tryz.f87, int, Orth.cells]
  refine ECall.pure (by rfl) (refName_ok o.name (by have := ho.name; omega)) (by simp) ?_
  cases hnm : nameP o.name with
  | false => simp (decide := true) [int]
  | true =>
    by_cases h0 : (100 : Int) < o.units.length
    · simp (decide := true) [int, unitsD, h0]
    simp (decide := true) [int, unitsD, h0]
    refine loop_rule mixed (fun k : Nat => { n := 79, next := 2, slots := [(2, .bp 0 0), (3, .bp 1 0), (5, .d (int k))], own := [(0, .box 24 [.d (invD inv)]), (1, .box 28 (o.cells.map .d))] })
      (fun k => k ≤ o.units.length ∧ ∀ u ∈ o.units.take k, UnitF u) (fun k => o.units.length - k) 0 (by simp) (by simp (decide := true) [int, unitsD, Orth.cells]) ?_
    intro k ⟨hk, hgp⟩
    by_cases hlt : k < o.units.length
    · have hlt' : (k : Int) < o.units.length := by omega
      simp (decide := true) [int, unitsD, hlt, hlt', Orth.cells]
      refine ECall.some (by rfl) (unit17X_ok inv o ho k hlt hl) ?_
      rintro r ⟨e, rfl, hpos⟩
      by_cases he : e = 0
      · subst he
        simp (decide := true) [int, I64]
        exact ⟨⟨by omega, by omega⟩, k + 1, ⟨hlt, fun u hu => by
          rw [take_snocG hlt] at hu
          rcases List.mem_append.1 hu with h | h
          · exact hgp u h
          · rw [List.mem_singleton] at h
            exact hpos rfl u (by rw [List.getElem?_eq_getElem hlt, h])⟩, by omega, by simp [Orth.cells, Sym.los, Sym.lo, unitsD]⟩
      · simp (decide := true) [int, he]
    · have hlt' : ¬ (k : Int) < o.units.length := by omega
      have : k = o.units.length := by omega
      subst this
      rw [List.take_length] at hgp
      by_cases h1 : (100 : Int) < o.letters.length
      · simp (decide := true) [int, unitsD, lettersD, hlt', h1, Orth.cells]
      simp (decide := true) [int, unitsD, lettersD, hlt', h1, Orth.cells]
      refine loop_rule mixed (fun x : Nat × List ByteArray => { n := 79, next := 3, slots := [(2, .bp 0 0), (3, .bp 1 0), (7, .ar 2), (8, .d (int x.1))], own := [(0, .box 24 [.d (invD inv)]), (1, .box 28 (o.cells.map .d)), (2, .arr 9 1 (x.2.map fun s => [.str s]))], moved := [2] })
        (fun x => x.1 ≤ o.letters.length ∧ x.2.length ≤ x.1 * 1048576) (fun x => o.letters.length - x.1) (0, []) (by simp) (by simp (decide := true) [int, unitsD, lettersD, Orth.cells]) ?_
      rintro ⟨i, seen⟩ ⟨hi, hs⟩
      simp only at hi hs
      by_cases hli : i < o.letters.length
      · have hli' : (i : Int) < o.letters.length := by omega
        have hL := ho.letters o.letters[i] (List.getElem_mem hli)
        obtain ⟨L, eL⟩ : ∃ L, o.letters[i] = L := ⟨_, rfl⟩
        have eL1 : o.letters[i]? = some L := by rw [List.getElem?_eq_getElem hli, eL]
        rw [eL] at hL
        by_cases hz : L.length = 0
        · simp (decide := true) [int, unitsD, lettersD, Orth.cells, hli, hli', eL, eL1, hz]
        have hz' : ¬ (L.length : Int) = 0 := by omega
        simp (decide := true) [int, unitsD, lettersD, Orth.cells, hli, hli', eL, eL1, hz, hz']
        refine loop_rule mixed (fun x : Nat × List ByteArray => { n := 79, next := 3, slots := [(2, .bp 0 0), (3, .bp 1 0), (7, .ar 2), (8, .d (int i)), (9, .d (int x.1))], own := [(0, .box 24 [.d (invD inv)]), (1, .box 28 (o.cells.map .d)), (2, .arr 9 1 (x.2.map fun s => [.str s]))], moved := [2] })
          (fun x => x.1 ≤ L.length ∧ x.2.length ≤ i * 1048576 + x.1) (fun x => L.length - x.1) (0, seen) (by simpa using hs) (by simp (decide := true) [int, unitsD, lettersD, Orth.cells]) ?_
        rintro ⟨m, sn⟩ ⟨hm, hs2⟩
        simp only at hm hs2
        by_cases hlm : m < L.length
        · have hlm' : (m : Int) < L.length := by omega
          have hS := hL.2 L[m] (List.getElem_mem hlm)
          obtain ⟨y, ey⟩ : ∃ y, L[m] = y := ⟨_, rfl⟩
          have ey1 : L[m]? = some y := by rw [List.getElem?_eq_getElem hlm, ey]
          rw [ey] at hS
          simp (decide := true) [int, unitsD, lettersD, Orth.cells, hli, hli', eL, eL1, hlm, hlm', ey, ey1]
          refine ECall.some (by rfl) (label17_ok y hS) ?_
          rintro r ⟨b, rfl⟩
          cases b with
          | false => simp (decide := true) [int]
          | true =>
            simp (decide := true) [int]
            refine ECall.some (by rfl) (has17_ok sn y (by omega)) ?_
            rintro r ⟨b, rfl⟩
            cases b with
            | true => simp (decide := true) [int]
            | false =>
              simp (decide := true) [int, I64]
              exact ⟨by omega, by unfold maxLen; omega, ⟨by omega, by omega⟩, m + 1, sn ++ [y], ⟨hlm, by rw [List.length_append]; simp; omega⟩, by omega, by omega, by simp⟩
        · have hlm' : ¬ (m : Int) < L.length := by omega
          simp (decide := true) [int, unitsD, lettersD, Orth.cells, hli, hli', eL, eL1, hlm', I64]
          exact ⟨⟨by omega, by omega⟩, i + 1, sn, ⟨hli, by omega⟩, by omega, by omega, rfl⟩
      · have hli' : ¬ (i : Int) < o.letters.length := by omega
        simp (decide := true) [int, unitsD, lettersD, hli', Orth.cells]
        exact hgp
end Go.V
namespace Go.V
open Go Go.Proofs
structure SmallL (l : List Ent) : Prop where
  few : l.length ≤ 5
  forms : ∀ e ∈ l, e.form.length ≤ 3 ∧ e.alts.length ≤ 1 ∧ ∀ w ∈ e.alts, w.length ≤ 3
set_option maxHeartbeats 8000000 in
theorem small29_ok (l : List Ent) (hl : l.length ≤ 1048576) : PureE Tryz.prog 38 [lexD l] (fun x => ∃ b, x = .bool b ∧ (b = true → SmallL l)) := by
  refine some_of_body mixed Tryz.func38 rfl call_38 ?_
  by_cases h0 : (5 : Int) < l.length
  · simp (decide := true) [Tryz.f38, int, lexD, h0]
  simp (decide := true) [Tryz.f38, int, lexD, h0]
  refine loop_rule mixed (fun i : Nat => { n := 50, next := 0, slots := [(0, .d (lexD l)), (3, .d (int i))], own := [] }) (fun i => i ≤ l.length ∧ ∀ e ∈ l.take i, e.form.length ≤ 3 ∧ e.alts.length ≤ 1 ∧ ∀ w ∈ e.alts, w.length ≤ 3) (fun i => l.length - i) 0 (by simp) (by simp (decide := true) [int, lexD]) ?_
  intro i ⟨hi, hp⟩
  by_cases hli : i < l.length
  · have hli' : (i : Int) < l.length := by omega
    obtain ⟨e, ee⟩ : ∃ e, l[i] = e := ⟨_, rfl⟩
    have e1 : l[i]? = some e := by rw [List.getElem?_eq_getElem hli, ee]
    have hsn := take_snocG hli
    rw [ee] at hsn
    by_cases c1 : (3 : Int) < e.form.length
    · simp (decide := true) [int, ints, lexD, Ent.row, hli, hli', ee, e1, c1]
    by_cases c2 : (1 : Int) < e.alts.length
    · simp (decide := true) [int, ints, lexD, listsD, Ent.row, hli, hli', ee, e1, c1, c2]
    simp (decide := true) [int, ints, lexD, listsD, Ent.row, hli, hli', ee, e1, c1, c2]
    refine loop_rule mixed (fun k : Nat => { n := 50, next := 0, slots := [(0, .d (lexD l)), (3, .d (int i)), (4, .d (int k))], own := [] }) (fun k => k ≤ e.alts.length ∧ ∀ w ∈ e.alts.take k, w.length ≤ 3) (fun k => e.alts.length - k) 0 (by simp) (by simp (decide := true) [int, lexD]) ?_
    intro k ⟨hk, hq⟩
    by_cases hlk : k < e.alts.length
    · have hlk' : (k : Int) < e.alts.length := by omega
      obtain ⟨w, ew⟩ : ∃ w, e.alts[k] = w := ⟨_, rfl⟩
      have ew1 : e.alts[k]? = some w := by rw [List.getElem?_eq_getElem hlk, ew]
      have hsk := take_snocG hlk
      rw [ew] at hsk
      by_cases c3 : (3 : Int) < w.length
      · simp (decide := true) [int, ints, lexD, listsD, Ent.row, hli, hli', ee, e1, hlk, hlk', ew, ew1, c3]
      · simp (decide := true) [int, ints, lexD, listsD, Ent.row, hli, hli', ee, e1, hlk, hlk', ew, ew1, c3, I64]
        refine ⟨⟨by omega, by omega⟩, k + 1, ⟨hlk, fun x hx => ?_⟩, by omega, by omega⟩
        rw [hsk] at hx
        rcases List.mem_append.1 hx with h' | h'
        · exact hq x h'
        · rw [List.mem_singleton] at h'; rw [h']; omega
    · have : k = e.alts.length := by omega
      subst this
      rw [List.take_length] at hq
      simp (decide := true) [int, ints, lexD, listsD, Ent.row, hli, hli', ee, e1, I64]
      refine ⟨⟨by omega, by omega⟩, i + 1, ⟨hli, fun x hx => ?_⟩, by omega, by omega⟩
      rw [hsn] at hx
      rcases List.mem_append.1 hx with h' | h'
      · exact hp x h'
      · rw [List.mem_singleton] at h'; rw [h']; exact ⟨by omega, by omega, hq⟩
  · have : i = l.length := by omega
    subst this
    rw [List.take_length] at hp
    simp (decide := true) [int, lexD]
    exact ⟨by omega, hp⟩
structure LangC (g : Lang) : Prop where
  inv : InvC g.inv
  orth : OrthC g.orth
  rules : RulesC g.rules
  steps : g.net.steps.length ≤ 1048576
  final : g.net.final.length ≤ 1048576
  lex : LexC g.lex
structure RightF (g : Lang) : Prop where
  rules : ∀ r ∈ g.rules, RuleL r
  dsts : ∀ r ∈ g.rules, DstF g.inv r
  net : NetF g.net
  lex : LexF g.inv g.lex
  main : MainF g.lex
  units1 : ∀ u ∈ g.orth.units, UnitF u
set_option maxHeartbeats 8000000 in
theorem check29_ok (g : Lang) (hg : LangC g) (h5 : g.lex.length ≤ 5) : PureE Tryz.prog 39 [g.d] (fun x => ∃ n, x = int n ∧ (n = 0 → RightF g)) := by
  have hil := hg.inv.1
  refine some_of_body mixed Tryz.func39 rfl call_39 ?_
  simp (decide := true) [Tryz.f39, int, Lang.d]
  refine ECall.some (by rfl) (check16_ok g.inv hg.inv) ?_
  rintro r ⟨n, rfl⟩
  by_cases z1 : n = 0
  case neg => simp (decide := true) [int, z1]
  simp (decide := true) [int, z1]
  refine ECall.some (by rfl) (check17X_ok g.inv g.orth hg.orth (by omega)) ?_
  rintro r ⟨n, rfl, hG⟩
  by_cases z2 : n = 0
  case neg => simp (decide := true) [int, z2]
  have hG := hG z2
  simp (decide := true) [int, z2]
  refine ECall.some (by rfl) (rules29_ok g hg.rules) ?_
  rintro r ⟨n, rfl, hR⟩
  by_cases z3 : n = 0
  case neg => simp (decide := true) [int, z3]
  have hR := hR z3
  simp (decide := true) [int, z3]
  refine ECall.some (by rfl) (check23_ok g.net hg.steps hg.final) ?_
  rintro r ⟨n, rfl, hN⟩
  by_cases z4 : n = 0
  case neg => simp (decide := true) [int, z4]
  have hN := hN z4
  simp (decide := true) [int, z4]
  refine ECall.some (by rfl) (check25_ok g.inv g.lex hg.lex) ?_
  rintro r ⟨n, rfl, hL⟩
  by_cases z5 : n = 0
  case neg => simp (decide := true) [int, z5]
  have hL := hL z5
  simp (decide := true) [int, z5]
  refine ECall.some (by rfl) (check26_ok g.lex h5 fun e he => (hL.each e he).links) ?_
  rintro r ⟨n, rfl⟩
  by_cases z6 : n = 0
  case neg => simp (decide := true) [int, z6]
  simp (decide := true) [int, z6]
  refine ECall.some (by rfl) (check27_ok g.lex (by omega)) ?_
  rintro r ⟨n, rfl, hM⟩
  simp (decide := true) [int]
  exact fun h => ⟨fun r hr => (hR r hr).1, fun r hr => (hR r hr).2, hN, hL, hM h, hG⟩
structure LightF (g : Lang) : Prop extends RightF g where
  small : SmallL g.lex
  segs : g.inv.length ≤ 8
  units : g.orth.units.length ≤ 10
  few : g.rules.length ≤ 2
  states : g.net.states ≤ 3
  steps : g.net.steps.length ≤ 6
  final : g.net.final.length ≤ 3
set_option maxHeartbeats 16000000 in
theorem light29_ok (g : Lang) (hg : LangC g) : PureE Tryz.prog 12 [g.d] (fun x => ∃ b, x = .bool b ∧ (b = true → LightF g)) := by
  have hlf := hg.lex.few
  have hrf := hg.rules.few
  refine some_of_body mixed Tryz.func12 rfl call_12 ?_
  by_cases c1 : (8 : Int) < g.inv.length
  · simp (decide := true) [Tryz.f12, int, Lang.d, invD, c1]
  by_cases c2 : (10 : Int) < g.orth.units.length
  · simp (decide := true) [Tryz.f12, int, Lang.d, invD, unitsD, c1, c2]
  by_cases c3 : (2 : Int) < g.rules.length
  · simp (decide := true) [Tryz.f12, int, Lang.d, invD, unitsD, rulesD, c1, c2, c3]
  by_cases c4 : 3 < g.net.states
  · simp (decide := true) [Tryz.f12, int, Lang.d, invD, unitsD, rulesD, c1, c2, c3, c4]
  by_cases c5 : (6 : Int) < g.net.steps.length
  · simp (decide := true) [Tryz.f12, int, Lang.d, invD, unitsD, rulesD, stepsD, c1, c2, c3, c4, c5]
  by_cases c6 : (3 : Int) < g.net.final.length
  · simp (decide := true) [Tryz.f12, int, ints, Lang.d, invD, unitsD, rulesD, stepsD, c1, c2, c3, c4, c5, c6]
  simp (decide := true) [Tryz.f12, int, ints, Lang.d, invD, unitsD, rulesD, stepsD, c1, c2, c3, c4, c5, c6]
  refine ECall.some (by rfl) (small29_ok g.lex hlf) ?_
  rintro r ⟨b, rfl, hS⟩
  cases b with
  | false => simp (decide := true) [int]
  | true =>
    have hS := hS rfl
    simp (decide := true) [int]
    refine loop_rule mixed (fun k : Nat => { n := 66, next := 1, slots := [(1, .bp 0 0), (3, .d (int k))], own := [(0, .box 36 (unAgg g.d))] })
      (fun k => k ≤ g.rules.length) (fun k => g.rules.length - k) 0 (by simp) (by simp (decide := true) [int, ints, invD, unitsD, rulesD, stepsD, unAgg, Lang.d]) ?_
    intro k hk
    by_cases hlt : k < g.rules.length
    · have hlt' : (k : Int) < g.rules.length := by omega
      obtain ⟨r, er⟩ : ∃ r, g.rules[k] = r := ⟨_, rfl⟩
      have er1 : g.rules[k]? = some r := by rw [List.getElem?_eq_getElem hlt, er]
      by_cases d1 : (8 : Int) < r.src.length
      · simp (decide := true) [int, ints, rulesD, unAgg, Lang.d, hlt, hlt', er, er1, Rule.row, d1]
      · simp (decide := true) [int, ints, rulesD, unAgg, Lang.d, hlt, hlt', er, er1, Rule.row, d1, I64]
        exact ⟨⟨by omega, by omega⟩, k + 1, hlt, by omega, by omega⟩
    · have hlt' : ¬ (k : Int) < g.rules.length := by omega
      simp (decide := true) [int, rulesD, unAgg, Lang.d, hlt']
      refine ECall.some (by rfl) (check29_ok g hg hS.few) ?_
      rintro r ⟨n, rfl, hF⟩
      simp (decide := true) [int]
      by_cases z : n = 0
      · exact .inr ⟨z, hF z, hS, by omega, by omega, by omega, by omega, by omega, by omega⟩
      · exact .inl z
theorem LightF.net' {g : Lang} (h : LightF g) : NetL g.net :=
  { lo := h.net.lo, hi := h.states, steps := fun s hs => ⟨(h.net.steps s hs).1, (h.net.steps s hs).2.1, (h.net.steps s hs).2.2.1⟩, final := h.net.final, few := by have := h.steps; omega, few2 := by have := h.final; omega }
theorem LightF.langR {g : Lang} (h : LightF g) (hc : LangC g) : LangR g := by
  have hs := h.small
  have hform : ∀ e ∈ g.lex, ∀ w ∈ e.forms, WordF g.inv w := by
    intro e he w hw
    have hE := h.lex.each e he
    rcases List.mem_cons.1 hw with e1 | e1
    · rw [e1]; exact hE.form
    · exact hE.alts w e1
  refine { lex := ⟨by have := hs.few; omega, fun e he => by have := (hs.forms e he).2.1; omega, fun e he w hw => by have := (hform e he w hw).len; omega, fun e he => by have := (hc.lex.each e he).senses.1; omega⟩,
           inv := by have := h.segs; omega, rules := ⟨fun r hr => (h.rules r hr).toRuleOk, by have := h.few; omega⟩, net := h.net'.ok, light := h.net', rulesL := h.rules, nz := fun e he w hw x hx => ?_ }
  have := (hform e he w hw).segs x hx
  simp only [isSeg, Bool.and_eq_true, decide_eq_true_eq] at this
  omega
end Go.V
namespace Go.V
open Go Go.Proofs
theorem lex_lt {l : List Ent} (h : ∀ k (h : k + 1 < l.length), l[k].id < l[k + 1].id) : ∀ (d i : Nat) (hj : i + d + 1 < l.length), l[i].id < l[i + d + 1].id
  | 0, i, hj => h i hj
  | d + 1, i, hj => by
    have h1 := lex_lt h d i (by omega)
    have h2 := h (i + d + 1) hj
    exact Int.lt_trans h1 h2
theorem getE_of {l : List Ent} (h : ∀ k (h : k + 1 < l.length), l[k].id < l[k + 1].id) {e : Ent} (he : e ∈ l) : getE l e.id = (e, true) := by
  obtain ⟨i, hi, ei⟩ := List.mem_iff_getElem.1 he
  unfold getE
  have : l.find? (fun x => decide (x.id = e.id)) = some e := by
    rw [List.find?_eq_some_iff_getElem]
    refine ⟨by simp, i, hi, ei, fun j hj => ?_⟩
    have := lex_lt h (i - j - 1) j (by omega)
    have e2 : j + (i - j - 1) + 1 = i := by omega
    simp only [e2] at this
    rw [ei] at this
    simp
    omega
  rw [this]
theorem senW_some {inv : List Phon} {l : List Ent} (hE : ∀ e ∈ l, EntF inv e) (hM : ∀ e ∈ l, e.main ≠ 0 → 0 ≤ findE l e.main) : ∀ (f : Nat) (id : Int), (wayG l f id).length < f → (getE l id).2 = true → senW l (wayG l f id) ≠ []
  | 0, id, h, _ => by omega
  | f + 1, id, h, hg => by
    have hmem := getE_mem hg
    unfold wayG at h ⊢
    rw [if_pos hg] at h ⊢
    unfold senW
    by_cases hs : (getE l id).1.senses ≠ []
    · rw [if_pos hs]; exact hs
    · rw [if_neg hs]
      have hm : (getE l id).1.main ≠ 0 := by
        rcases (hE _ hmem).senses with h' | h'
        · exact absurd h' hs
        · exact h'
      rw [if_neg hm] at h ⊢
      refine senW_some hE hM f _ (by simpa using h) ?_
      rcases findE_get l (getE l id).1.main with ⟨h1, _⟩ | ⟨j, hj, _, h2⟩
      · exact absurd (hM _ hmem hm) (by omega)
      · rw [h2]
theorem LightF.senses {g : Lang} (h : LightF g) {e : Ent} (he : e ∈ g.lex) : sensesE g.lex e.id ≠ [] := by
  unfold sensesE
  rw [senW_way]
  refine senW_some h.lex.each h.main.main _ _ ?_ (by rw [getE_of h.lex.up he])
  have := h.main.ends e he
  omega
section
variable (g : Lang) (w : List Int)
def mostE : Nat := if shrinksR g.rules = true then 24 else w.length
def licB (b : List Prt) : Bool := decide (w.length ≤ (baseE g.lex b).length) && licE g w b
def furF : Nat → List Prt → List (List Prt)
  | 0, _ => []
  | f + 1, a => g.lex.flatMap fun e => if e.cls ∈ followL g.net (classesE g.lex a) 20 then ((List.range e.forms.length).flatMap fun (alt : Nat) =>
      if mostE g w < (baseE g.lex (a ++ [⟨e.id, alt, 0⟩])).length then [] else (if licB g w (a ++ [⟨e.id, alt, 0⟩]) = true then [a ++ [⟨e.id, alt, 0⟩]] else []) ++ furF f (a ++ [⟨e.id, alt, 0⟩])) else []
def fitsB (base : List Int) : Bool := decide (lastE g.inv g.rules base ≠ []) && decide (lastE g.inv g.rules base = w)
end
end Go.V
namespace Go.V
open Go Go.Proofs
def keyS (base : List Int) : ByteArray := ⟨(base.map fun x => UInt8.ofNat (IntKind.u8.wrap x).toNat).toArray⟩
def KeyOk (b : List Int) : Prop := ∀ x ∈ b, 0 ≤ x ∧ x < 256
def trRows (g : Lang) (w : List Int) (tr : List (List Int)) : List (List D) := tr.map fun b => [.str (keyS b), .bool (fitsB g w b)]
def srchO (g : Lang) (w : List Int) (tr : List (List Int)) (fn : Sym) (rest : List (Nat × Obj')) : List (Nat × Obj') :=
  (0, .box 327 (unAgg g.d ++ [.d (ints w), .d (.bool (shrinksR g.rules)), .d (u32 (finalS g.net.final)), .mp 1, fn])) :: (1, .map 325 (trRows g w tr)) :: rest
structure RestOk (n : Nat) (fn : Sym) (rest : List (Nat × Obj')) : Prop where
  two : 2 ≤ n
  keys : (rest.map (·.1)).Nodup
  ids : ∀ id o, (id, o) ∈ rest → 2 ≤ id ∧ id < n ∧ o.lo n
  range : 0 :: 1 :: rest.map (·.1) = List.range n
  thawed : ∀ k x, n ≤ k → thawOwn k x rest = rest
  thawC : ∀ k x, n ≤ k → thaw k x fn = fn
  fn : Sym.lo n fn
def trAdd (tr : List (List Int)) (base : List Int) : List (List Int) := if base ∈ tr then tr else tr ++ [base]
end Go.V
namespace Go.V
open Go Go.Proofs
section
variable {ρ : Nat → Nat} {m : Nat}
mutual
theorem ren_same (h : ∀ i, i < m → ρ i = i) : ∀ {s : Sym}, Sym.lo m s → ren ρ s = s
  | .bp i o, hl => by simp only [Sym.lo] at hl; simp only [ren, h i hl]
  | .ar i, hl => by simp only [Sym.lo] at hl; simp only [ren, h i hl]
  | .ap i s j o, hl => by simp only [Sym.lo] at hl; simp only [ren, h i hl]
  | .aS i s j o, hl => by simp only [Sym.lo] at hl; simp only [ren, h i hl]
  | .av i s j o, hl => by simp only [Sym.lo] at hl; simp only [ren, h i hl]
  | .yd i, hl => by simp only [Sym.lo] at hl; simp only [ren, h i hl]
  | .mp i, hl => by simp only [Sym.lo] at hl; simp only [ren, h i hl]
  | .tup l, hl => by simp only [Sym.lo] at hl; simp only [ren, rens_same h hl]
  | .agg l, hl => by simp only [Sym.lo] at hl; simp only [ren, rens_same h hl]
  | .fn f l, hl => by simp only [Sym.lo] at hl; simp only [ren, rens_same h hl]
  | .d x, _ => rfl
  | .nils, _ => rfl
  | .junk, _ => rfl
theorem rens_same (h : ∀ i, i < m → ρ i = i) : ∀ {l : List Sym}, Sym.los m l → rens ρ l = l
  | [], _ => rfl
  | s :: l, hl => by
    simp only [Sym.los] at hl
    simp only [rens, ren_same h hl.1, rens_same h hl.2]
end
mutual
theorem purge_none : ∀ (s : Sym), purgeM [] s = s
  | .bp _ _ => by simp [purgeM]
  | .ar _ => by simp [purgeM]
  | .ap _ _ _ _ => by simp [purgeM]
  | .aS _ _ _ _ => by simp [purgeM]
  | .av _ _ _ _ => by simp [purgeM]
  | .yd _ => by simp [purgeM]
  | .mp _ => by simp [purgeM]
  | .tup l => by simp [purgeM, purges_none l]
  | .agg l => by simp [purgeM, purges_none l]
  | .fn f l => by simp [purgeM, purges_none l]
  | .d _ => by simp [purgeM]
  | .nils => by simp [purgeM]
  | .junk => by simp [purgeM]
theorem purges_none : ∀ (l : List Sym), purgesM [] l = l
  | [] => by simp [purgesM]
  | s :: l => by simp [purgesM, purge_none s, purges_none l]
end
end
def PurgeOk (n : Nat) (mv : List Nat) (l : List (Nat × Obj')) : Prop := ∀ i o, (i, o) ∈ l → n ≤ i → purgeObjM mv o = o
theorem PurgeOk.nil {n : Nat} {mv : List Nat} : PurgeOk n mv [] := fun _ _ h => by cases h
theorem PurgeOk.cons {n : Nat} {mv : List Nat} {i : Nat} {o : Obj'} {l : List (Nat × Obj')} (h : purgeObjM mv o = o) (hl : PurgeOk n mv l) : PurgeOk n mv ((i, o) :: l) := by
  intro j p hm hn
  rcases List.mem_cons.1 hm with e | e
  · cases e; exact h
  · exact hl j p e hn
theorem PurgeOk.under {n : Nat} {mv : List Nat} {i : Nat} {o : Obj'} {l : List (Nat × Obj')} (h : i < n) (hl : PurgeOk n mv l) : PurgeOk n mv ((i, o) :: l) := by
  intro j p hm hn
  rcases List.mem_cons.1 hm with e | e
  · cases e; omega
  · exact hl j p e hn
theorem PurgeOk.app {n : Nat} {mv : List Nat} {l r : List (Nat × Obj')} (h : PurgeOk n mv l) (hr : PurgeOk n mv r) : PurgeOk n mv (l ++ r) := by
  intro j p hm hn
  rcases List.mem_append.1 hm with e | e
  · exact h j p e hn
  · exact hr j p e hn
theorem PurgeOk.rest {n : Nat} {mv : List Nat} {fn : Sym} {rest : List (Nat × Obj')} (h : RestOk n fn rest) : PurgeOk n mv rest := by
  intro j p hm hn
  have := (h.ids j p hm).2.1
  omega
theorem PurgeOk.two {n : Nat} {mv : List Nat} {fn : Sym} {rest : List (Nat × Obj')} (h : RestOk n fn rest) {a b : Obj'} : PurgeOk n mv ((0, a) :: (1, b) :: rest) :=
  .under (by have := h.two; omega) (.under (by have := h.two; omega) (.rest h))
theorem RestOk.caps {n f : Nat} {l : List Sym} {rest : List (Nat × Obj')} (h : RestOk n (.fn f l) rest) {m : Nat} (hm : n ≤ m) : Sym.los m l := by
  have := h.fn
  simp only [Sym.lo] at this
  exact Sym.los_mono hm this
mutual
theorem purge_hi {k m : Nat} (h : m ≤ k) : ∀ {s : Sym}, Sym.lo m s → purge k s = s
  | .bp i o, hl => by simp only [Sym.lo] at hl; simp only [purge]; rw [if_neg (by omega)]
  | .ar i, hl => by simp only [Sym.lo] at hl; simp only [purge]; rw [if_neg (by omega)]
  | .ap i s j o, hl => by simp only [Sym.lo] at hl; simp only [purge]; rw [if_neg (by omega)]
  | .aS i s j o, hl => by simp only [Sym.lo] at hl; simp only [purge]; rw [if_neg (by omega)]
  | .av i s j o, hl => by simp only [Sym.lo] at hl; simp only [purge]; rw [if_neg (by omega)]
  | .yd i, hl => by simp only [Sym.lo] at hl; simp only [purge]; rw [if_neg (by omega)]
  | .mp i, hl => by simp only [Sym.lo] at hl; simp only [purge]; rw [if_neg (by omega)]
  | .tup l, hl => by simp only [Sym.lo] at hl; simp only [purge, purges_hi h hl]
  | .agg l, hl => by simp only [Sym.lo] at hl; simp only [purge, purges_hi h hl]
  | .fn f l, hl => by simp only [Sym.lo] at hl; simp only [purge, purges_hi h hl]
  | .d x, _ => rfl
  | .nils, _ => rfl
  | .junk, _ => rfl
theorem purges_hi {k m : Nat} (h : m ≤ k) : ∀ {l : List Sym}, Sym.los m l → purges k l = l
  | [], _ => rfl
  | s :: l, hl => by
    simp only [Sym.los] at hl
    simp only [purges, purge_hi h hl.1, purges_hi h hl.2]
end
end Go.V
