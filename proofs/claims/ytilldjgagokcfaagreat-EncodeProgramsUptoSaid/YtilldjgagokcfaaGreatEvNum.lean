/-
  Numbers as they are written: seven bits a byte, the lowest first.
-/
import Derived.Test.YtilldjgagokcfaaGreatEvTac
set_option linter.unusedVariables false
set_option linter.unusedSimpArgs false
namespace Go.Ev
open Go.RowKit

/-- A number's bytes. -/
def vb (n : Nat) : List UInt8 := if n < 128 then [UInt8.ofNat n] else UInt8.ofNat (n % 128 + 128) :: vb (n / 128)
termination_by n
decreasing_by omega

theorem vb_lt {n : Nat} (h : n < 128) : vb n = [UInt8.ofNat n] := by rw [vb, if_pos h]
theorem vb_ge {n : Nat} (h : ¬ n < 128) : vb n = UInt8.ofNat (n % 128 + 128) :: vb (n / 128) := by rw [vb, if_neg h]

theorem vb_pos (n : Nat) : 1 ≤ (vb n).length := by
  by_cases h : n < 128
  · rw [vb_lt h]; simp
  · rw [vb_ge h]; simp

theorem vb_le : ∀ (k n : Nat), n < 128 ^ (k + 1) → (vb n).length ≤ k + 1
  | 0, n, h => by rw [vb_lt (by simpa using h)]; simp
  | k + 1, n, h => by
    by_cases h1 : n < 128
    · rw [vb_lt h1]; simp
    · rw [vb_ge h1]
      have := vb_le k (n / 128) (by rw [Nat.div_lt_iff_lt_mul (by omega)]; rw [Nat.pow_succ] at h; exact h)
      simpa using this

theorem vb_ten {n : Nat} (h : n < 18446744073709551616) : (vb n).length ≤ 10 := vb_le 9 n (by omega)

/-- A number with a sign, as one without. -/
def zig (n : Int) : Nat := if 0 ≤ n then 2 * n.toNat else 2 * (-(n + 1)).toNat + 1

theorem zig_lt {n : Int} (h : -9223372036854775808 ≤ n) (h2 : n < 9223372036854775808) : zig n < 18446744073709551616 := by
  unfold zig; split <;> omega

def encI (n : Int) : List UInt8 := vb (zig n)
def encS (s : List UInt8) : List UInt8 := encI s.length ++ s
def encB (b : Bool) : List UInt8 := encI (if b then 1 else 0)

def in64 (n : Int) : Prop := -9223372036854775808 ≤ n ∧ n < 9223372036854775808

theorem wrap_u8 (n : Int) : IntKind.wrap .u8 n = n % 256 := by simp [IntKind.wrap, IntKind.bits, IntKind.signed]
theorem wrap_u64 (n : Int) : IntKind.wrap .u64 n = n % 18446744073709551616 := by simp [IntKind.wrap, IntKind.bits, IntKind.signed]
theorem wrap_i64 (n : Int) : IntKind.wrap .i64 n = if n % 18446744073709551616 ≥ 9223372036854775808 then n % 18446744073709551616 - 18446744073709551616 else n % 18446744073709551616 := by
  simp [IntKind.wrap, IntKind.bits, IntKind.signed]

theorem wrap_i64_id {n : Int} (h : in64 n) : IntKind.wrap .i64 n = n := by
  obtain ⟨h1, h2⟩ := h
  rw [wrap_i64]; split <;> omega

theorem u8_nat (n : Nat) (h : n < 256) : ((UInt8.ofNat n).toNat : Int) = n := by
  rw [UInt8.toNat_ofNat_of_lt' h]

theorem bitE_or8 (x y : Int) : bitE .or .u8 x y = IntKind.wrap .u8 ((BitVec.ofInt 8 x ||| BitVec.ofInt 8 y).toNat : Nat) := rfl
theorem bitE_xor64 (x y : Int) : bitE .xor .u64 x y = IntKind.wrap .u64 ((BitVec.ofInt 64 x ^^^ BitVec.ofInt 64 y).toNat : Nat) := rfl
theorem bitE_and64 (x y : Int) : bitE .and .u64 x y = IntKind.wrap .u64 ((BitVec.ofInt 64 x &&& BitVec.ofInt 64 y).toNat : Nat) := rfl
theorem bitE_xori (x y : Int) : bitE .xor .i64 x y = IntKind.wrap .i64 ((BitVec.ofInt 64 x ^^^ BitVec.ofInt 64 y).toNat : Nat) := rfl

/-- byte(n) | 128 -/
theorem byte_or (n : Nat) : bitE .or .u8 (IntKind.wrap .u8 n) 128 = ((UInt8.ofNat (n % 128 + 128)).toNat : Int) := by
  rw [u8_nat _ (by omega), wrap_u8, bitE_or8]
  have e1 : BitVec.ofInt 8 ((n : Int) % 256) = BitVec.ofNat 8 n := by
    apply BitVec.eq_of_toNat_eq
    simp [BitVec.toNat_ofInt]
    omega
  have e2 : (BitVec.ofNat 8 n ||| BitVec.ofInt 8 128).toNat = n % 128 + 128 := by
    have : ∀ m : BitVec 8, (m ||| 128#8).toNat = m.toNat % 128 + 128 := by decide +kernel
    have h := this (BitVec.ofNat 8 n)
    have h3 : (BitVec.ofInt 8 128) = 128#8 := by decide
    rw [h3, h]
    simp only [BitVec.toNat_ofNat]
    omega
  rw [e1, wrap_u8, e2]
  omega

theorem byte_small (n : Nat) (h : n < 128) : IntKind.wrap .u8 n = ((UInt8.ofNat n).toNat : Int) := by
  rw [u8_nat _ (by omega), wrap_u8]; omega

theorem shr7 (n : Nat) : shiftE .shr .u64 (n : Int) 7 = some (.int .u64 ((n / 128 : Nat) : Int)) := by
  simp only [shiftE]
  rw [if_neg (by decide)]
  simp only [IntKind.bits]
  have : ((n : Int).fdiv (2 ^ (min (7 : Int).toNat 64))) = ((n / 128 : Nat) : Int) := by
    rw [Int.fdiv_eq_ediv_of_nonneg _ (by decide)]
    simp
  rw [this]

/-- uint64(n) << 1, turned over where n is below zero. -/
theorem shl1 (n : Int) : shiftE .shl .u64 (IntKind.wrap .u64 n) 1 = some (.int .u64 ((2 * n) % 18446744073709551616)) := by
  simp only [shiftE]
  rw [if_neg (by decide), wrap_u64, wrap_u64]
  simp only [IntKind.bits]
  have : (n % 18446744073709551616 * 2 ^ (min (1 : Int).toNat 64)) % 18446744073709551616 = (2 * n) % 18446744073709551616 := by
    have : (2 : Int) ^ (min (1 : Int).toNat 64) = 2 := by decide
    rw [this]; omega
  rw [this]

theorem zig_pos {n : Int} (h : in64 n) (h0 : 0 ≤ n) : (2 * n) % 18446744073709551616 = (zig n : Int) := by
  obtain ⟨h1, h2⟩ := h
  unfold zig; rw [if_pos h0]; omega

theorem not64 (x : Nat) (h : x < 18446744073709551616) : bitE .xor .u64 18446744073709551615 (x : Int) = ((18446744073709551615 - x : Nat) : Int) := by
  rw [bitE_xor64]
  have e1 : BitVec.ofInt 64 18446744073709551615 = BitVec.allOnes 64 := by decide
  have e2 : BitVec.ofInt 64 (x : Int) = BitVec.ofNat 64 x := by
    apply BitVec.eq_of_toNat_eq
    simp [BitVec.toNat_ofInt]
  rw [e1, e2, BitVec.allOnes_xor, wrap_u64, BitVec.toNat_not, BitVec.toNat_ofNat]
  omega

theorem zig_neg {n : Int} (h : in64 n) (h0 : ¬ 0 ≤ n) : bitE .xor .u64 18446744073709551615 ((2 * n) % 18446744073709551616) = (zig n : Int) := by
  obtain ⟨h1, h2⟩ := h
  have : (2 * n) % 18446744073709551616 = ((18446744073709551616 + 2 * n).toNat : Nat) := by omega
  rw [this, not64 _ (by omega)]
  unfold zig; rw [if_neg h0]; omega

/-- int(u >> 1), turned over where u is odd. -/
theorem shr1 (n : Nat) : shiftE .shr .u64 (n : Int) 1 = some (.int .u64 ((n / 2 : Nat) : Int)) := by
  simp only [shiftE]
  rw [if_neg (by decide)]
  simp only [IntKind.bits]
  have : ((n : Int).fdiv (2 ^ (min (1 : Int).toNat 64))) = ((n / 2 : Nat) : Int) := by
    rw [Int.fdiv_eq_ediv_of_nonneg _ (by decide)]
    simp
  rw [this]

theorem and1 (n : Nat) (h : n < 18446744073709551616) : bitE .and .u64 (n : Int) 1 = ((n % 2 : Nat) : Int) := by
  rw [bitE_and64]
  have e2 : BitVec.ofInt 64 (n : Int) = BitVec.ofNat 64 n := by
    apply BitVec.eq_of_toNat_eq
    simp [BitVec.toNat_ofInt]
  have e1 : BitVec.ofInt 64 1 = 1#64 := by decide
  rw [e1, e2, wrap_u64, BitVec.toNat_and]
  simp only [BitVec.toNat_ofNat]
  have : n % 2 ^ 64 &&& 1 % 2 ^ 64 = n % 2 := by
    rw [show (1 % 2 ^ 64 : Nat) = 1 by decide, Nat.and_one_is_mod]; omega
  rw [this]; omega

theorem not_i64 (n : Int) (h : 0 ≤ n ∧ n < 9223372036854775808) : bitE .xor .i64 (-1) n = -(n + 1) := by
  rw [bitE_xori]
  have e1 : BitVec.ofInt 64 (-1) = BitVec.allOnes 64 := by decide
  have e2 : (BitVec.ofInt 64 n).toNat = n.toNat := by
    simp [BitVec.toNat_ofInt]; omega
  rw [e1, BitVec.allOnes_xor, wrap_i64, BitVec.toNat_not, e2]
  split <;> omega

end Go.Ev
