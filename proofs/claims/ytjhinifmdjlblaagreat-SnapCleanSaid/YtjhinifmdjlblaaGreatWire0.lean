/-
  What bits do to the numbers that package wire lays: the doubled number of an int, a group's marked byte, a group put back.
  Conditions: ints of 64 bits, bytes.
-/
import Derived.Test.YtjhinifmdjlblaaGreatWirePlain
import Derived.Test.YtjhinifmdjlblaaGreatBytes
import Derived.IntWalk
namespace Go.Proofs.YtjhinifmdjlblaaGreat
open Go.RowKit

theorem not_u64 (x : Nat) (h : x < 18446744073709551616) : bits .xor .u64 (x : Int) 18446744073709551615 = ((18446744073709551615 - x : Nat) : Int) := by
  have h1 := u64_xor_nat x 18446744073709551615 h (by omega)
  have h2 : x ^^^ 18446744073709551615 = 18446744073709551615 - x := by
    have h3 : (BitVec.ofNat 64 x ^^^ BitVec.allOnes 64).toNat = (~~~ BitVec.ofNat 64 x).toNat := by rw [BitVec.xor_comm, BitVec.allOnes_xor]
    rw [BitVec.toNat_xor, BitVec.toNat_not, BitVec.toNat_allOnes, BitVec.toNat_ofNat, Nat.mod_eq_of_lt h] at h3
    exact h3
  rw [h2] at h1
  exact h1
theorem zz_pos (v : Int) (h1 : 0 ≤ v) (h2 : v ≤ 9223372036854775807) : bits .xor .u64 (v * 2) (v / 9223372036854775808) = ((Wire.zz v : Nat) : Int) := by
  have e1 : v / 9223372036854775808 = ((0 : Nat) : Int) := by omega
  have e2 : v * 2 = (((2 * v).toNat : Nat) : Int) := by omega
  rw [e1, e2, u64_xor_nat _ _ (by omega) (by omega), Nat.xor_zero]
  unfold Wire.zz
  rw [if_pos h1]
theorem zz_neg (v : Int) (h1 : v < 0) (h2 : -9223372036854775808 ≤ v) : bits .xor .u64 (IntKind.u64.wrap (IntKind.u64.wrap v * 2)) (IntKind.u64.wrap (v / 9223372036854775808)) = ((Wire.zz v : Nat) : Int) := by
  have e1 : IntKind.u64.wrap (v / 9223372036854775808) = 18446744073709551615 := by rw [IntKind.wrap_u64]; omega
  have e2 : IntKind.u64.wrap (IntKind.u64.wrap v * 2) = (((2 * v + 18446744073709551616).toNat : Nat) : Int) := by rw [IntKind.wrap_u64, IntKind.wrap_u64]; omega
  rw [e1, e2, not_u64 _ (by omega)]
  unfold Wire.zz
  rw [if_neg (by omega)]
  omega
theorem or_top (m : Nat) : bits .or .u8 ((m : Int) % 256) 128 = ((m % 128 + 128 : Nat) : Int) := by
  have h1 := u8_or_nat (m % 256) 128 (by omega) (by decide)
  have h2 : ∀ x : Fin 256, x.val ||| 128 = x.val % 128 + 128 := by decide +kernel
  have h3 := h2 ⟨m % 256, by omega⟩
  simp only at h3
  rw [h3] at h1
  have e1 : ((m % 256 : Nat) : Int) = (m : Int) % 256 := by omega
  rw [e1] at h1
  have e2 : m % 256 % 128 + 128 = m % 128 + 128 := by omega
  rw [e2] at h1
  exact h1

/-! ### a group put back -/
theorem or_group (acc c j : Nat) (hj : j ≤ 9) (hc : c < 256) (h9 : j = 9 → c ≤ 1) (hacc : acc < 128 ^ j) :
    bits .or .u64 (acc : Int) (IntKind.u64.wrap ((c : Int) % 128 * 2 ^ (7 * j))) = ((acc + c % 128 * 128 ^ j : Nat) : Int) := by
  have hp : (128 : Nat) ^ j = 2 ^ (7 * j) := by rw [Nat.pow_mul]
  have hle : 128 ^ j ≤ 128 ^ 9 := Nat.pow_le_pow_right (by omega) hj
  have h99 : (128 : Nat) ^ 9 = 9223372036854775808 := by decide
  have h88 : (128 : Nat) ^ 8 = 72057594037927936 := by decide
  have hlt : c % 128 * 128 ^ j < 18446744073709551616 := by
    by_cases h : j = 9
    · have h1 := h9 h
      subst h
      rw [h99]
      have : c % 128 ≤ 1 := by omega
      have := Nat.mul_le_mul_right 9223372036854775808 this
      omega
    · have hle8 : 128 ^ j ≤ 128 ^ 8 := Nat.pow_le_pow_right (by omega) (by omega)
      have h1 : c % 128 ≤ 127 := by omega
      have := Nat.mul_le_mul h1 hle8
      rw [h88] at this
      omega
  have e1 : ((c : Int) % 128 * 2 ^ (7 * j)) = ((c % 128 * 128 ^ j : Nat) : Int) := by rw [hp]; simp
  have e2 : IntKind.u64.wrap ((c : Int) % 128 * 2 ^ (7 * j)) = ((c % 128 * 128 ^ j : Nat) : Int) := by
    rw [e1, IntKind.wrap_u64]; omega
  rw [e2, u64_or_nat acc _ (by omega) hlt, Nat.or_comm]
  have h1 : (c % 128 * 128 ^ j) % 2 ^ (7 * j) = 0 := by rw [hp]; exact Nat.mul_mod_left _ _
  rw [nat_join (7 * j) _ acc h1 (by rw [← hp]; exact hacc), Nat.add_comm]
theorem acc_step {acc c j : Nat} (hacc : acc < 128 ^ j) : acc + c % 128 * 128 ^ j < 128 ^ (j + 1) := by
  have h1 : c % 128 ≤ 127 := by omega
  have h2 := Nat.mul_le_mul_right (128 ^ j) h1
  rw [Nat.pow_succ]
  omega
theorem acc_last {acc c j : Nat} (hj : j ≤ 9) (hc : c < 128) (h9 : j = 9 → c ≤ 1) (hacc : acc < 128 ^ j) : acc + c * 128 ^ j < 18446744073709551616 := by
  have h99 : (128 : Nat) ^ 9 = 9223372036854775808 := by decide
  by_cases h : j = 9
  · have h1 := h9 h
    subst h
    rw [h99] at *
    have := Nat.mul_le_mul_right 9223372036854775808 h1
    omega
  · have h1 : c ≤ 127 := by omega
    have h2 := Nat.mul_le_mul_right (128 ^ j) h1
    have h3 : 128 ^ (j + 1) ≤ 128 ^ 9 := Nat.pow_le_pow_right (by omega) (by omega)
    rw [Nat.pow_succ, h99] at h3
    omega
theorem and_low (c : Nat) (hc : c < 256) : bits .and .u8 (c : Int) 127 = (c : Int) % 128 := by
  have h := u8_and_nat c 127 hc (by decide)
  rw [nat_mask7] at h
  rw [show ((127 : Nat) : Int) = 127 from rfl] at h
  rw [h]; omega
theorem and_top (c : Nat) (hc : c < 256) : bits .and .u8 (c : Int) 128 = if 128 ≤ c then 128 else 0 := by
  have h := u8_and_nat c 128 hc (by decide)
  have h2 : ∀ x : Fin 256, x.val &&& 128 = if 128 ≤ x.val then 128 else 0 := by decide +kernel
  have h3 := h2 ⟨c, hc⟩
  simp only at h3
  rw [h3] at h
  rw [show ((128 : Nat) : Int) = 128 from rfl] at h
  rw [h]; split <;> rfl
theorem xor_none (m : Nat) (h : m < 9223372036854775808) : bits .xor .i64 (m : Int) 0 = (m : Int) := by
  show IntKind.i64.wrap ((BitVec.ofInt 64 (m : Int) ^^^ BitVec.ofInt 64 0).toNat : Int) = _
  have : BitVec.ofInt 64 0 = 0#64 := by decide
  rw [this, BitVec.xor_zero, ofInt_i64' m h, IntKind.wrap_i64]
  omega
theorem xor_all (m : Nat) (h : m < 9223372036854775808) : bits .xor .i64 (m : Int) (-1) = -(m : Int) - 1 := by
  show IntKind.i64.wrap ((BitVec.ofInt 64 (m : Int) ^^^ BitVec.ofInt 64 (-1)).toNat : Int) = _
  have : BitVec.ofInt 64 (-1) = BitVec.allOnes 64 := by decide
  rw [this, BitVec.xor_comm, BitVec.allOnes_xor, BitVec.toNat_not, ofInt_i64' m h, IntKind.wrap_i64]
  omega
theorem and_one (m : Nat) (h : m < 18446744073709551616) : bits .and .u64 (m : Int) 1 = ((m % 2 : Nat) : Int) := by
  have := u64_and_nat m 1 h (by omega)
  rw [nat_mask1] at this
  exact this
end Go.Proofs.YtjhinifmdjlblaaGreat
