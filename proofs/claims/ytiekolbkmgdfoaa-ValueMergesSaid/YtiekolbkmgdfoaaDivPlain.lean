/-
  The plain law of a division of 128 bits by 64: two digits of 32 bits, each guessed and set right.
  Conditions: each lemma's own premises. No program is in sight here.
-/
namespace Go.Proofs.Ytiekolbkmgdfoaa
namespace Dv

theorem key {yn1 yn0 un32 un1 q rhat y num : Nat} (hy : y = yn1 * 4294967296 + yn0) (hn : num = un32 * 4294967296 + un1) (hi : q * yn1 + rhat = un32) :
    q * y + (rhat * 4294967296 + un1) = num + q * yn0 := by
  have e : q * y = q * yn1 * 4294967296 + q * yn0 := by rw [hy, Nat.mul_add, ← Nat.mul_assoc]
  subst hi
  omega
theorem lt_base {un32 un1 y num : Nat} (hn : num = un32 * 4294967296 + un1) (h1 : un1 < 4294967296) (hu : un32 < y) : num / y < 4294967296 := by
  rw [Nat.div_lt_iff_lt_mul (by omega)]
  omega
theorem down {yn1 yn0 un32 un1 q rhat y num : Nat} (hy : y = yn1 * 4294967296 + yn0) (hn : num = un32 * 4294967296 + un1) (hi : q * yn1 + rhat = un32) (h1 : un1 < 4294967296) (hu : un32 < y)
    (hc : 4294967296 ≤ q ∨ rhat * 4294967296 + un1 < q * yn0) : num / y + 1 ≤ q := by
  rcases hc with hc | hc
  · have := lt_base hn h1 hu; omega
  · have h := key hy hn hi
    have : num / y < q := by rw [Nat.div_lt_iff_lt_mul (by omega)]; omega
    omega
theorem up {yn1 yn0 un32 un1 q rhat y num : Nat} (hy : y = yn1 * 4294967296 + yn0) (hn : num = un32 * 4294967296 + un1) (hi : q * yn1 + rhat = un32) (hu : un32 < y)
    (hc : q * yn0 ≤ rhat * 4294967296 + un1) (hle : num / y ≤ q) : q = num / y := by
  have h := key hy hn hi
  have : q ≤ num / y := by rw [Nat.le_div_iff_mul_le (by omega)]; omega
  omega
theorem far {yn0 un1 q rhat : Nat} (h0 : yn0 < 4294967296) (hq : q ≤ 4294967296) (hr : 4294967296 ≤ rhat) : q * yn0 ≤ rhat * 4294967296 + un1 := by
  have h1 : q * yn0 ≤ 4294967296 * yn0 := Nat.mul_le_mul_right _ hq
  omega
theorem start {yn1 yn0 un32 un1 y num : Nat} (hy : y = yn1 * 4294967296 + yn0) (hn : num = un32 * 4294967296 + un1) (h1 : un1 < 4294967296) (hp : 0 < yn1) : num / y ≤ un32 / yn1 := by
  rw [Nat.le_div_iff_mul_le hp]
  have h2 : num / y * y ≤ num := Nat.div_mul_le_self _ _
  have e : num / y * y = num / y * yn1 * 4294967296 + num / y * yn0 := by conv => lhs; rw [hy, Nat.mul_add, ← Nat.mul_assoc]
                                                                          rw [← hy]
  omega
theorem most {yn1 yn0 un32 y : Nat} (hy : y = yn1 * 4294967296 + yn0) (h0 : yn0 < 4294967296) (hn : 2147483648 ≤ yn1) (hu : un32 < y) : un32 / yn1 ≤ 4294967297 := by
  have : un32 / yn1 < 4294967298 := by rw [Nat.div_lt_iff_lt_mul (by omega)]; omega
  omega
/-- Two digits together. -/
theorem both {un32 un1 un0 y q1 r q0 : Nat} (hp : 0 < y) (hq1 : q1 = (un32 * 4294967296 + un1) / y) (hr : r = (un32 * 4294967296 + un1) % y) (hq0 : q0 = (r * 4294967296 + un0) / y) :
    (un32 * 18446744073709551616 + (un1 * 4294967296 + un0)) / y = q1 * 4294967296 + q0 := by
  have h1 := Nat.div_add_mod (un32 * 4294967296 + un1) y
  rw [← hq1, ← hr] at h1
  have e : un32 * 18446744073709551616 + (un1 * 4294967296 + un0) = (r * 4294967296 + un0) + y * (q1 * 4294967296) := by
    rw [← Nat.mul_assoc]; omega
  rw [e, Nat.add_mul_div_left _ _ hp, ← hq0, Nat.add_comm]
theorem two_pow_64 (s : Nat) (h : s ≤ 64) : 2 ^ (64 - s) * 2 ^ s = 18446744073709551616 := by
  rw [← Nat.pow_add, Nat.sub_add_cancel h]
/-- The number shifted. -/
theorem shifted {hi lo y s : Nat} (hs : s ≤ 64) :
    ((hi * 2 ^ s + lo / 2 ^ (64 - s)) * 18446744073709551616 + lo * 2 ^ s % 18446744073709551616) / (y * 2 ^ s) = (hi * 18446744073709551616 + lo) / y := by
  have hp : 0 < 2 ^ s := Nat.two_pow_pos s
  have e1 : lo * 2 ^ s / 18446744073709551616 = lo / 2 ^ (64 - s) := by
    rw [← two_pow_64 s hs]
    exact Nat.mul_div_mul_right _ _ hp
  have e2 := Nat.div_add_mod (lo * 2 ^ s) 18446744073709551616
  rw [e1] at e2
  have e3 : (hi * 2 ^ s + lo / 2 ^ (64 - s)) * 18446744073709551616 + lo * 2 ^ s % 18446744073709551616 = (hi * 18446744073709551616 + lo) * 2 ^ s := by
    rw [Nat.add_mul, Nat.add_mul, Nat.mul_right_comm hi]
    omega
  rw [e3, Nat.mul_div_mul_right _ _ hp]
theorem shifted_lt {hi lo y s : Nat} (hs : s ≤ 64) (hl : lo < 18446744073709551616) (h : hi < y) : hi * 2 ^ s + lo / 2 ^ (64 - s) < y * 2 ^ s := by
  have hp : 0 < 2 ^ s := Nat.two_pow_pos s
  have h1 : lo / 2 ^ (64 - s) < 2 ^ s := by
    rw [Nat.div_lt_iff_lt_mul (Nat.two_pow_pos _), Nat.mul_comm, two_pow_64 s hs]; exact hl
  have h2 : (hi + 1) * 2 ^ s ≤ y * 2 ^ s := Nat.mul_le_mul_right _ h
  rw [Nat.add_mul] at h2
  omega
end Dv
end Go.Proofs.Ytiekolbkmgdfoaa
