/-
  Package money's MulDiv as a contract.
  Conditions: ints of 64 bits.
-/
import Derived.Test.YtiekolbkmgdfoaaDiv
import Derived.Test.YtiekolbkmgdfoaaInstPlain
namespace Go.Proofs.Ytiekolbkmgdfoaa
open Go.RowKit

theorem div64_all (hi lo y : Nat) (hl : lo < 18446744073709551616) (hy : y < 18446744073709551616) (h : hi < y) (w : World) :
    Calls Try.prog 26 #[.int .u64 hi, .int .u64 lo, .int .u64 y] w fun e w' => (∃ r : Int, e = .returned (.tuple #[.int .u64 ((hi * 18446744073709551616 + lo) / y : Nat), .int .u64 r])) ∧ ∃ q, w' = w.drewN q := by
  rcases Nat.eq_zero_or_pos hi with h0 | h0
  · subst h0
    rw [Nat.zero_mul, Nat.zero_add]
    exact div64_small lo y hl hy h w
  · refine (div64_any hi lo y hl hy h h0 w).mono ?_
    rintro e w' ⟨h1, rfl⟩
    exact ⟨h1, 0, rfl⟩

theorem md_bad {a b c : Int} (h : a < 0 ∨ b < 0 ∨ c < 1) : Ow.mdE a b c = 1 ∧ Ow.mdV a b c = 0 := by
  have h1 : Ow.mdE a b c = 1 := by unfold Ow.mdE; rw [if_pos h]
  exact ⟨h1, by unfold Ow.mdV; rw [h1]; rfl⟩
theorem md_over {a b c : Nat} (hc : 1 ≤ c) (h : 1152921504606846976 < a * b / c) : Ow.mdE a b c = 12 ∧ Ow.mdV a b c = 0 := by
  have e : (a : Int) * (b : Int) / (c : Int) = ((a * b / c : Nat) : Int) := by simp
  have h1 : Ow.mdE a b c = 12 := by
    unfold Ow.mdE
    rw [if_neg (by omega), e]
    generalize a * b / c = q at *
    rw [if_pos (by omega)]
  exact ⟨h1, by unfold Ow.mdV; rw [h1]; rfl⟩
theorem md_fine {a b c : Nat} (hc : 1 ≤ c) (h : ¬ 1152921504606846976 < a * b / c) : Ow.mdE a b c = 0 ∧ Ow.mdV a b c = ((a * b / c : Nat) : Int) := by
  have e : (a : Int) * (b : Int) / (c : Int) = ((a * b / c : Nat) : Int) := by simp
  have h1 : Ow.mdE a b c = 0 := by
    unfold Ow.mdE
    rw [if_neg (by omega), e]
    generalize a * b / c = q at *
    rw [if_neg (by omega)]
  exact ⟨h1, by unfold Ow.mdV; rw [h1, e]; rfl⟩
theorem hi_over {a b c : Nat} (hc : 1 ≤ c) (h : c ≤ a * b / 18446744073709551616) : 1152921504606846976 < a * b / c := by
  have h1 : 18446744073709551616 ≤ a * b / c := by
    rw [Nat.le_div_iff_mul_le (by omega)]
    rw [Nat.le_div_iff_mul_le (by omega)] at h
    omega
  omega

set_option maxHeartbeats 1000000 in
set_option maxRecDepth 100000 in
theorem muldiv_any (a b c : Int) (ha1 : -9223372036854775808 ≤ a) (ha2 : a ≤ 9223372036854775807) (hb1 : -9223372036854775808 ≤ b) (hb2 : b ≤ 9223372036854775807) (hc1 : -9223372036854775808 ≤ c) (hc2 : c ≤ 9223372036854775807) (w : World) :
    Calls Try.prog 17 #[.int .i64 a, .int .i64 b, .int .i64 c] w fun e w' => e = .returned (.tuple #[.int .i64 (Ow.mdV a b c), .int .i64 (Ow.mdE a b c)]) ∧ ∃ q, w' = w.drewN q := by
  by_cases hbad : a < 0 ∨ b < 0 ∨ c < 1
  · obtain ⟨he, hv⟩ := md_bad hbad
    rw [he, hv]
    clear he hv
    rcases (show a < 0 ∨ (0 ≤ a ∧ b < 0) ∨ (0 ≤ a ∧ 0 ≤ b ∧ c < 1) by omega) with h | ⟨h, h'⟩ | ⟨h, h', h''⟩
    all_goals
      clear hbad
      go_enter Try.func17, Try.ntmps17
      go_wp2
      go_ret2
      exact ⟨rfl, 0, rfl⟩
  · obtain ⟨x, rfl⟩ : ∃ x : Nat, a = x := ⟨a.toNat, by omega⟩
    obtain ⟨y, rfl⟩ : ∃ y : Nat, b = y := ⟨b.toNat, by omega⟩
    obtain ⟨z, rfl⟩ : ∃ z : Nat, c = z := ⟨c.toNat, by omega⟩
    have hz : 1 ≤ z := by omega
    have hzi : ¬ (z : Int) < 1 := by omega
    clear hbad
    obtain ⟨hi, hhi⟩ : ∃ hi : Nat, x * y / 18446744073709551616 = hi := ⟨_, rfl⟩
    obtain ⟨lo, hlo⟩ : ∃ lo : Nat, x * y % 18446744073709551616 = lo := ⟨_, rfl⟩
    have hlob : lo < 18446744073709551616 := by omega
    have hsum : hi * 18446744073709551616 + lo = x * y := by omega
    by_cases hov : z ≤ hi
    · obtain ⟨he, hv⟩ := md_over hz (hi_over hz (by rw [hhi]; exact hov))
      rw [he, hv]
      clear he hv hsum
      have Hhi := Lib.hid hhi; clear hhi
      have Hlo := Lib.hid hlo; clear hlo
      go_enter Try.func17, Try.ntmps17
      go_wp2_with fail
      refine (Try.bits_Mul64 x y (by omega) (by omega) _).mono ?_
      rw [Hhi.out, Hlo.out]
      rintro e w' ⟨rfl, hw⟩
      rw [hw]; clear hw
      go_wp2
      go_ret2
      exact ⟨rfl, 0, rfl⟩
    · obtain ⟨Q, hQ⟩ : ∃ Q : Int, (((hi * 18446744073709551616 + lo) / z : Nat) : Int) = Q := ⟨_, rfl⟩
      have hQ0 : 0 ≤ Q := by rw [← hQ]; exact Int.natCast_nonneg _
      have Hhi := Lib.hid hhi; clear hhi
      have Hlo := Lib.hid hlo; clear hlo
      have Hsum := Lib.hid hsum; clear hsum
      have HQ := Lib.hid hQ; clear hQ
      by_cases hbig : 1152921504606846976 < Q
      · obtain ⟨he, hv⟩ := md_over (a := x) (b := y) (c := z) hz (by have := HQ.out; rw [Hsum.out] at this; generalize x * y / z = t at *; omega)
        rw [he, hv]
        clear he hv
        go_enter Try.func17, Try.ntmps17
        go_wp2_with fail
        refine (Try.bits_Mul64 x y (by omega) (by omega) _).mono ?_
        rw [Hhi.out, Hlo.out]
        rintro e w' ⟨rfl, hw⟩
        rw [hw]; clear hw
        go_wp2_with fail
        refine (div64_all hi lo z hlob (by omega) (by omega) _).mono ?_
        rw [HQ.out]
        rintro e w' ⟨⟨r, rfl⟩, q, rfl⟩
        go_wp2
        go_ret2
        exact ⟨rfl, q, rfl⟩
      · obtain ⟨he, hv⟩ := md_fine (a := x) (b := y) (c := z) hz (by have := HQ.out; rw [Hsum.out] at this; generalize x * y / z = t at *; omega)
        have hv2 : Ow.mdV x y z = Q := by rw [hv, ← HQ.out, Hsum.out]
        rw [he, hv2]
        clear he hv hv2
        go_enter Try.func17, Try.ntmps17
        go_wp2_with fail
        refine (Try.bits_Mul64 x y (by omega) (by omega) _).mono ?_
        rw [Hhi.out, Hlo.out]
        rintro e w' ⟨rfl, hw⟩
        rw [hw]; clear hw
        go_wp2_with fail
        refine (div64_all hi lo z hlob (by omega) (by omega) _).mono ?_
        rw [HQ.out]
        rintro e w' ⟨⟨r, rfl⟩, q, rfl⟩
        go_wp2
        go_ret2
        exact ⟨rfl, q, rfl⟩

end Go.Proofs.Ytiekolbkmgdfoaa
