/- Contracts: the scalars of a string, by the reference of chapter 2. -/
import Derived.Test.YtnjcohimpfmgcaaDoorT1
import Derived.Test.YtnjcohimpfmgcaaDoorU0
set_option linter.unusedSimpArgs false
set_option linter.unusedVariables false
set_option maxRecDepth 10000
namespace Go.V
open Go Go.Proofs

theorem wrap_u8 (n : Int) : IntKind.wrap .u8 n = n % 256 := by
  simp [IntKind.wrap, IntKind.bits, IntKind.signed]
theorem u8_of {n : Int} {m : Nat} (h : n = (m : Int)) : UInt8.ofNat (IntKind.wrap .u8 n).toNat = UInt8.ofNat m := by
  subst h
  apply UInt8.toNat_inj.1
  rw [wrap_u8]
  simp only [UInt8.toNat_ofNat']
  omega
theorem wrap_i64 {n : Int} (h : I64 n) : IntKind.wrap .i64 n = n := by
  obtain ⟨h1, h2⟩ := h
  simp [IntKind.wrap, IntKind.bits, IntKind.signed]
  split <;> omega
theorem wrap_byte (s : ByteArray) (k : Nat) : IntKind.wrap .i64 (byteN s k : Int) = (byteN s k : Int) := by
  have : byteN s k < 256 := UInt8.toNat_lt _
  exact wrap_i64 ⟨by omega, by omega⟩
theorem scalar_ok (p : Nat) : PureR Tryd.prog 67 [int p] (.bool (decide (scalarR p))) := by
  refine pure_of_body mixed Tryd.func67 rfl call_67 ?_
  by_cases h1 : (p : Int) ≤ 1114111
  · by_cases h2 : (p : Int) < 55296
    · have : scalarR p := ⟨by omega, by omega⟩
      simp (decide := true) [Tryd.f67, int, h1, h2, this]
    · have h3 : scalarR p ↔ (57343 : Int) < p := ⟨fun h => by have := h.2; omega, fun h => ⟨by omega, by omega⟩⟩
      simp (decide := true) [Tryd.f67, int, h1, h2, h3]
  · have : ¬ scalarR p := fun h => h1 (by have := h.1; omega)
    simp (decide := true) [Tryd.f67, int, h1, this]
/-- The string of a scalar. -/
def encS (p : Nat) : ByteArray := ⟨((encR p).map UInt8.ofNat).toArray⟩
theorem enc_ok (p : Nat) (hp : p < 2^40) : PureR Tryd.prog 68 [int p] (.str (encS p)) := by
  refine pure_of_body mixed Tryd.func68 rfl call_68 ?_
  have t1 : (p : Int).tmod 64 = ((p % 64 : Nat) : Int) := rfl
  have t2 : ((p : Int) / 64).tmod 64 = ((p / 64 % 64 : Nat) : Int) := by rw [show (p : Int) / 64 = ((p / 64 : Nat) : Int) by omega]; rfl
  have t3 : ((p : Int) / 4096).tmod 64 = ((p / 4096 % 64 : Nat) : Int) := by rw [show (p : Int) / 4096 = ((p / 4096 : Nat) : Int) by omega]; rfl
  by_cases h1 : p < 128
  · have h1' : (p : Int) < 128 := by omega
    simp (decide := true) [Tryd.f68, int, h1', t1, t2, t3, eBytes, bytesOf]
    rw [u8_of (m := p) (by omega)]
    simp [encS, encR, h1]
  have h1' : ¬ (p : Int) < 128 := by omega
  by_cases h2 : p < 2048
  · have h2' : (p : Int) < 2048 := by omega
    simp (decide := true) [Tryd.f68, int, h1', h2', t1, t2, t3, eBytes, bytesOf, I64]
    rw [u8_of (m := 192 + p / 64) (by omega), u8_of (m := 128 + p % 64) (by omega)]
    refine ⟨by omega, by omega, by omega, ?_⟩
    simp [encS, encR, h1, h2]
  have h2' : ¬ (p : Int) < 2048 := by omega
  by_cases h3 : p < 65536
  · have h3' : (p : Int) < 65536 := by omega
    simp (decide := true) [Tryd.f68, int, h1', h2', h3', t1, t2, t3, eBytes, bytesOf, I64]
    rw [u8_of (m := 224 + p / 4096) (by omega), u8_of (m := 128 + p / 64 % 64) (by omega), u8_of (m := 128 + p % 64) (by omega)]
    refine ⟨by omega, by omega, by omega, by omega, by omega, ?_⟩
    simp [encS, encR, h1, h2, h3]
  have h3' : ¬ (p : Int) < 65536 := by omega
  simp (decide := true) [Tryd.f68, int, h1', h2', h3', t1, t2, t3, eBytes, bytesOf, I64]
  rw [u8_of (m := 240 + p / 262144) (by omega), u8_of (m := 128 + p / 4096 % 64) (by omega), u8_of (m := 128 + p / 64 % 64) (by omega), u8_of (m := 128 + p % 64) (by omega)]
  refine ⟨by omega, by omega, by omega, by omega, by omega, by omega, by omega, ?_⟩
  simp [encS, encR, h1, h2, h3]
end Go.V
