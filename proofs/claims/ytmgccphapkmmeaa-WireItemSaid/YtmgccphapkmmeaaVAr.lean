/- A symbolic executor for loaded Go code: whole numbers, masks, remainders. -/
import Derived.Test.YtmgccphapkmmeaaVIn
import Derived.Laws.Bits128
import Derived.Laws.Bits64
namespace Go.Proofs.Ytmgccphapkmmeaa
open Go.RowKit

theorem i64_mask (n : Int) (j : Nat) (hj : j < 63) : bits .and .i64 n (((2 ^ j - 1 : Nat) : Int)) = n % ((2 ^ j : Nat) : Int) := by
  have hp : (2 : Nat) ^ j < 2 ^ 63 := Nat.pow_lt_pow_right (by omega) hj
  have hpos : 0 < (2 : Nat) ^ j := Nat.pow_pos (by omega)
  have h1 : (BitVec.ofInt 64 (((2 ^ j - 1 : Nat) : Int))).toNat = 2 ^ j - 1 := by
    rw [BitVec.toNat_ofInt]
    omega
  have key : (BitVec.ofInt 64 n &&& BitVec.ofInt 64 (((2 ^ j - 1 : Nat) : Int))).toNat = (n % ((2 ^ 64 : Nat) : Int)).toNat % 2 ^ j := by
    rw [BitVec.toNat_and, BitVec.toNat_ofInt, h1, Nat.and_two_pow_sub_one_eq_mod]
  show IntKind.i64.wrap ((BitVec.ofInt 64 n &&& BitVec.ofInt 64 (((2 ^ j - 1 : Nat) : Int))).toNat : Nat) = _
  rw [key, IntKind.wrap_i64]
  have hd : ((2 ^ j : Nat) : Int) ∣ ((2 ^ 64 : Nat) : Int) := by
    have : (2 : Nat) ^ 64 = 2 ^ j * 2 ^ (64 - j) := by rw [← Nat.pow_add, show j + (64 - j) = 64 by omega]
    exact ⟨((2 ^ (64 - j) : Nat) : Int), by rw [this]; push_cast; rfl⟩
  have e1 : (((n % ((2 ^ 64 : Nat) : Int)).toNat % 2 ^ j : Nat) : Int) = n % ((2 ^ j : Nat) : Int) := by
    rw [Int.natCast_emod, Int.toNat_of_nonneg (Int.emod_nonneg _ (by decide))]
    exact Int.emod_emod_of_dvd n hd
  rw [e1]
  have := Int.emod_nonneg n (show ((2 ^ j : Nat) : Int) ≠ 0 by omega)
  have := Int.emod_lt_of_pos n (show (0 : Int) < ((2 ^ j : Nat) : Int) by omega)
  omega
theorem and1 (n : Int) : bits .and .i64 n 1 = n % 2 := i64_mask n 1 (by decide)
theorem and3 (n : Int) : bits .and .i64 n 3 = n % 4 := i64_mask n 2 (by decide)
theorem and7 (n : Int) : bits .and .i64 n 7 = n % 8 := i64_mask n 3 (by decide)
theorem and15 (n : Int) : bits .and .i64 n 15 = n % 16 := i64_mask n 4 (by decide)
theorem and127 (n : Int) : bits .and .i64 n 127 = n % 128 := i64_mask n 7 (by decide)
theorem and255 (n : Int) : bits .and .i64 n 255 = n % 256 := i64_mask n 8 (by decide)
theorem and1023 (n : Int) : bits .and .i64 n 1023 = n % 1024 := i64_mask n 10 (by decide)
theorem and65535 (n : Int) : bits .and .i64 n 65535 = n % 65536 := i64_mask n 16 (by decide)
theorem wi64 (n : Int) : IntKind.i64.wrap n = (n + 9223372036854775808) % 18446744073709551616 - 9223372036854775808 := IntKind.wrap_i64 n
theorem wu64 (n : Int) : IntKind.u64.wrap n = n % 18446744073709551616 := IntKind.wrap_u64 n
theorem wu8 (n : Int) : IntKind.u8.wrap n = n % 256 := IntKind.wrap_u8 n
/-- A remainder of numbers that aren't negative. -/
theorem tmod_pos {a b : Int} (h : 0 ≤ a) : a.tmod b = a % b := Int.tmod_eq_emod_of_nonneg h
/-- int(uint(n) % m) is a place below m. -/
theorem umod (n m : Int) (h : 0 < m) (h' : m < 9223372036854775808) : 0 ≤ (IntKind.u64.wrap n).tmod m ∧ (IntKind.u64.wrap n).tmod m < m ∧ IntKind.i64.wrap ((IntKind.u64.wrap n).tmod m) = (IntKind.u64.wrap n).tmod m := by
  have h0 : 0 ≤ IntKind.u64.wrap n := by rw [wu64]; omega
  rw [tmod_pos h0]
  have h1 := Int.emod_nonneg (IntKind.u64.wrap n) (show m ≠ 0 by omega)
  have h2 := Int.emod_lt_of_pos (IntKind.u64.wrap n) h
  refine ⟨h1, h2, wrapI (by omega) (by omega)⟩
end Go.Proofs.Ytmgccphapkmmeaa
