/-
  Package money's Worth as a contract.
  Conditions: ints of 64 bits.
-/
import Derived.Test.YtiekolbkmgdfoaaMulDiv
import Derived.Laws.Rows
import Derived.Lib.Builder
import Derived.Test.YtiekolbkmgdfoaaAid
namespace Go.Proofs.Ytiekolbkmgdfoaa
open Go.RowKit

theorem drewN_below {B : Nat} {a w : World} (h : Below B a w) (n : Nat) : Below B a (w.drewN n) := ⟨h.os, h.tape, h.output, h.size, h.block⟩
theorem new_block {w w1 : World} {o : Obj} (hb : Below (w.alloc o).heap.size (w.alloc o) w1) : w1.heap[w.heap.size]? = some o ∧ Below w.heap.size w w1 := by
  refine ⟨?_, ((Below.refl _ w).alloc (Nat.le_refl _) _).trans (hb.mono (by simp))⟩
  rw [hb.block _ (by simp)]
  exact heap_alloc_new w o

namespace Wo
/-- What so much is worth: the error and the number. -/
def bad (n p c : Int) : Prop := n < 0 ∨ p < 0 ∨ c < 0 ∨ 10000 < c
instance (n p c : Int) : Decidable (bad n p c) := by unfold bad; infer_instance
def wE (q p c : Int) : Int := if bad q p c then 1 else if 1152921504606846976 < q * p then 12 else 0
def wV (q p c : Int) : Int := if wE q p c = 0 then q * p * (10000 - c) / 10000 else 0
theorem wE_bad {q p c : Int} (h : bad q p c) : wE q p c = 1 ∧ wV q p c = 0 := by
  have h1 : wE q p c = 1 := by unfold wE; rw [if_pos h]
  exact ⟨h1, by unfold wV; rw [h1]; rfl⟩
theorem wE_over {q p c : Int} (h : ¬ bad q p c) (h2 : 1152921504606846976 < q * p) : wE q p c = 12 ∧ wV q p c = 0 := by
  have h1 : wE q p c = 12 := by unfold wE; rw [if_neg h, if_pos h2]
  exact ⟨h1, by unfold wV; rw [h1]; rfl⟩
theorem wE_fine {q p c : Int} (h : ¬ bad q p c) (h2 : ¬ 1152921504606846976 < q * p) : wE q p c = 0 ∧ wV q p c = q * p * (10000 - c) / 10000 := by
  have h1 : wE q p c = 0 := by unfold wE; rw [if_neg h, if_neg h2]
  exact ⟨h1, by unfold wV; rw [if_pos h1]⟩
theorem wV_range (q p c : Int) : 0 ≤ wV q p c ∧ wV q p c ≤ 1152921504606846976 := by
  by_cases h : bad q p c
  · rw [(wE_bad h).2]; omega
  · by_cases h2 : 1152921504606846976 < q * p
    · rw [(wE_over h h2).2]; omega
    · rw [(wE_fine h h2).2]
      unfold bad at h
      have h3 : 0 ≤ q * p := Int.mul_nonneg (by omega) (by omega)
      generalize q * p = n at *
      have h5 : n * (10000 - c) ≤ n * 10000 := Int.mul_le_mul_of_nonneg_left (by omega) h3
      have h6 := Int.ediv_le_ediv (a := n * (10000 - c)) (b := n * 10000) (c := 10000) (by omega) h5
      rw [Int.mul_ediv_cancel _ (by omega)] at h6
      exact ⟨Int.ediv_nonneg (Int.mul_nonneg h3 (by omega)) (by omega), by omega⟩
/-- The division of a product that is within its ends. -/
theorem md_cut {n c : Int} (h0 : 0 ≤ n) (h1 : n ≤ 1152921504606846976) (hc0 : 0 ≤ c) (hc1 : c ≤ 10000) : Ow.mdE n (10000 - c) 10000 = 0 ∧ Ow.mdV n (10000 - c) 10000 = n * (10000 - c) / 10000 := by
  have h5 : n * (10000 - c) ≤ n * 10000 := Int.mul_le_mul_of_nonneg_left (by omega) h0
  have h6 := Int.ediv_le_ediv (a := n * (10000 - c)) (b := n * 10000) (c := 10000) (by omega) h5
  rw [Int.mul_ediv_cancel _ (by omega)] at h6
  have e : Ow.mdE n (10000 - c) 10000 = 0 := by unfold Ow.mdE; rw [if_neg (by omega), if_neg (by omega)]
  exact ⟨e, by unfold Ow.mdV; rw [if_pos e]⟩
end Wo

theorem size_any (x : Nat) (hx : x ≤ 9223372036854775807) (w : World) : Calls Try.prog 25 #[.int .i64 x] w fun e w' => e = .returned (.int .u64 x) ∧ w = w' := by
  have hn : ¬ (x : Int) < 0 := by omega
  go_enter Try.func25, Try.ntmps25
  go_wp2
  go_ret
  exact ⟨rfl, rfl⟩
theorem mul_ok (g : Nat) (x y : Nat) (hx : x ≤ 9223372036854775807) (hy : y ≤ 9223372036854775807) (h : x * y ≤ 1152921504606846976) (w : World) :
    Calls Try.prog 16 #[.pointer (some ⟨g, 0, none⟩), .int .i64 x, .int .i64 y] w fun e w' => e = .returned (.int .i64 (x * y : Nat)) ∧ w = w' := by
  have hm := Try.bits_Mul64 x y (by omega) (by omega) w
  rw [show x * y / 18446744073709551616 = 0 from by omega, show x * y % 18446744073709551616 = x * y from by omega] at hm
  obtain ⟨z, hz⟩ : ∃ z : Int, ((x * y : Nat) : Int) = z := ⟨_, rfl⟩
  have hzb : 0 ≤ z ∧ z ≤ 1152921504606846976 := by omega
  rw [hz] at hm ⊢
  have HM := Lib.hid hm; clear hm hz
  have hxn : decide ((x : Int) < 0) = false := by simp
  have hyn : decide ((y : Int) < 0) = false := by simp
  go_enter Try.func16, Try.ntmps16
  go_wp2_with fail
  refine (size_any x hx _).mono ?_
  rintro e w' ⟨rfl, rfl⟩
  go_wp2_with fail
  refine (size_any y hy _).mono ?_
  rintro e w' ⟨rfl, rfl⟩
  go_wp2_with fail
  refine HM.out.mono ?_
  rintro e w' ⟨rfl, hw⟩
  rw [hw]; clear hw
  go_wp2
  go_ret
  exact ⟨rfl, rfl⟩

theorem over_any (g : Nat) (w : World) (c0 : w.cell? ⟨g, 0, none⟩ = some (.bool false)) (f0 : w.frozen? ⟨g, 0, none⟩ = false) :
    Calls Try.prog 19 #[.pointer (some ⟨g, 0, none⟩), .bool false] w fun e w' => e = .returned (.int .i64 1152921504606846976) ∧ w.setCell ⟨g, 0, none⟩ (.bool true) = w' := by
  go_enter Try.func19, Try.ntmps19
  go_wp2
  go_ret
  exact ⟨rfl, rfl⟩
theorem mul_over (g : Nat) (x y : Nat) (hx : x ≤ 9223372036854775807) (hy : y ≤ 9223372036854775807) (h : 1152921504606846976 < x * y) (w : World) (c0 : w.cell? ⟨g, 0, none⟩ = some (.bool false)) (f0 : w.frozen? ⟨g, 0, none⟩ = false) :
    Calls Try.prog 16 #[.pointer (some ⟨g, 0, none⟩), .int .i64 x, .int .i64 y] w fun e w' => e = .returned (.int .i64 1152921504606846976) ∧ w.setCell ⟨g, 0, none⟩ (.bool true) = w' := by
  have hm := Try.bits_Mul64 x y (by omega) (by omega) w
  obtain ⟨hi, hhi⟩ : ∃ z : Int, ((x * y / 18446744073709551616 : Nat) : Int) = z := ⟨_, rfl⟩
  obtain ⟨lo, hlo⟩ : ∃ z : Int, ((x * y % 18446744073709551616 : Nat) : Int) = z := ⟨_, rfl⟩
  have hbig : hi ≠ 0 ∨ (hi = 0 ∧ 1152921504606846976 < lo) := by omega
  rw [hhi, hlo] at hm
  have HM := Lib.hid hm; clear hm hhi hlo
  have HO := Lib.hid (over_any g w c0 f0)
  have hxn : decide ((x : Int) < 0) = false := by simp
  have hyn : decide ((y : Int) < 0) = false := by simp
  clear c0 f0
  rcases hbig with h1 | ⟨rfl, h1⟩
  · have hne : (hi != 0) = true := by simp [h1]
    have H1 := Lib.hid h1; clear h1
    go_enter Try.func16, Try.ntmps16
    go_wp2_with fail
    refine (size_any x hx _).mono ?_
    rintro e w' ⟨rfl, rfl⟩
    go_wp2_with fail
    refine (size_any y hy _).mono ?_
    rintro e w' ⟨rfl, rfl⟩
    go_wp2_with fail
    refine HM.out.mono ?_
    rintro e w' ⟨rfl, hw⟩
    rw [hw]; clear hw
    go_wp2_with fail
    refine HO.out.mono ?_
    rintro e w' ⟨rfl, rfl⟩
    go_wp2
    go_ret
    exact ⟨rfl, rfl⟩
  · go_enter Try.func16, Try.ntmps16
    go_wp2_with fail
    refine (size_any x hx _).mono ?_
    rintro e w' ⟨rfl, rfl⟩
    go_wp2_with fail
    refine (size_any y hy _).mono ?_
    rintro e w' ⟨rfl, rfl⟩
    go_wp2_with fail
    refine HM.out.mono ?_
    rintro e w' ⟨rfl, hw⟩
    rw [hw]; clear hw
    go_wp2_with fail
    refine HO.out.mono ?_
    rintro e w' ⟨rfl, rfl⟩
    go_wp2
    go_ret
    exact ⟨rfl, rfl⟩

theorem wrong_bad (q p c : Int) (h : Wo.bad q p c) (w : World) : Calls Try.prog 15 #[.int .i64 q, .int .i64 p, .int .i64 c] w fun e w' => e = .returned (.bool true) ∧ w = w' := by
  unfold Wo.bad at h
  rcases (show q < 0 ∨ (0 ≤ q ∧ p < 0) ∨ (0 ≤ q ∧ 0 ≤ p ∧ c < 0) ∨ (0 ≤ q ∧ 0 ≤ p ∧ 0 ≤ c ∧ 10000 < c) by omega) with h1 | ⟨h1, h2⟩ | ⟨h1, h2, h3⟩ | ⟨h1, h2, h3, h4⟩
  all_goals
    clear h
    go_enter Try.func15, Try.ntmps15
    go_wp2
    go_ret
    exact ⟨ret_bool (by simp [*]), rfl⟩
theorem wrong_fine (q p c : Int) (h : ¬ Wo.bad q p c) (w : World) : Calls Try.prog 15 #[.int .i64 q, .int .i64 p, .int .i64 c] w fun e w' => e = .returned (.bool false) ∧ w = w' := by
  unfold Wo.bad at h
  have h1 : 0 ≤ q := by omega
  have h2 : 0 ≤ p := by omega
  have h3 : 0 ≤ c := by omega
  have h4 : c ≤ 10000 := by omega
  clear h
  go_enter Try.func15, Try.ntmps15
  go_wp2
  go_ret
  exact ⟨ret_bool (by simp [*]), rfl⟩

set_option maxHeartbeats 1000000 in
theorem worth_any (q p c : Int) (hq1 : -9223372036854775808 ≤ q) (hq2 : q ≤ 9223372036854775807) (hp1 : -9223372036854775808 ≤ p) (hp2 : p ≤ 9223372036854775807) (hc1 : -9223372036854775808 ≤ c) (hc2 : c ≤ 9223372036854775807) (w : World) :
    Calls Try.prog 9 #[.int .i64 q, .int .i64 p, .int .i64 c] w fun e w' => e = .returned (.tuple #[.int .i64 (Wo.wV q p c), .int .i64 (Wo.wE q p c)]) ∧ Below w.heap.size w w' := by
  by_cases hb : Wo.bad q p c
  · rw [(Wo.wE_bad hb).1, (Wo.wE_bad hb).2]
    have HW := fun w => Lib.hid (wrong_bad q p c hb w)
    clear hb
    go_enter Try.func9, Try.ntmps9
    go_wp2_with (go_at_call 15; refine (HW _).out.mono ?_; rintro e w' ⟨rfl, rfl⟩)
    go_ret2
    exact ⟨rfl, Below.refl _ _⟩
  · have HW := Lib.hid (wrong_fine q p c hb w)
    have hbb := hb
    unfold Wo.bad at hbb
    have hk : (w.alloc (.cells #[.bool false] 34)).heap[w.heap.size]? = some (.cells #[.bool false] 34 (0, 0)) := heap_alloc_new w _
    obtain ⟨x, rfl⟩ : ∃ x : Nat, q = x := ⟨q.toNat, by omega⟩
    obtain ⟨y, rfl⟩ : ∃ y : Nat, p = y := ⟨p.toNat, by omega⟩
    have hxy : (x : Int) * (y : Int) = ((x * y : Nat) : Int) := by simp
    by_cases hov : 1152921504606846976 < x * y
    · have h1 := Wo.wE_over hb (by rw [hxy]; omega)
      rw [h1.1, h1.2]
      have hm := mul_over w.heap.size x y (by omega) (by omega) hov (w.alloc (.cells #[.bool false] 34)) (by rw [Lib.cell_of_heap hk]; rfl) (Lib.frozen_of_heap hk 0)
      have HM := Lib.hid hm
      clear hm hb hbb h1 hxy hov hk
      go_enter Try.func9, Try.ntmps9
      go_wp2_with (first
        | (go_at_call 15; refine HW.out.mono ?_; rintro e w' ⟨rfl, rfl⟩)
        | (go_at_call 16; refine HM.out.mono ?_; rintro e w' ⟨rfl, rfl⟩))
      go_ret2
      exact ⟨rfl, (Below.refl _ w).alloc (Nat.le_refl _) _⟩
    · have h1 := Wo.wE_fine hb (by rw [hxy]; omega)
      have h2 := Wo.md_cut (n := ((x * y : Nat) : Int)) (c := c) (by omega) (by omega) (by omega) (by omega)
      rw [h1.1, h1.2, hxy, ← h2.2]
      have hm := mul_ok w.heap.size x y (by omega) (by omega) (by omega) (w.alloc (.cells #[.bool false] 34))
      obtain ⟨z, hz⟩ : ∃ z : Int, ((x * y : Nat) : Int) = z := ⟨_, rfl⟩
      have hzb : 0 ≤ z ∧ z ≤ 1152921504606846976 := by omega
      rw [hz] at hm h2 ⊢
      have hd := fun w => muldiv_any z (10000 - c) 10000 (by omega) (by omega) (by omega) (by omega) (by decide) (by decide) w
      rw [h2.1] at hd
      have HM := Lib.hid hm
      have HD := fun w => Lib.hid (hd w)
      have c0 : (w.alloc (.cells #[.bool false] 34)).cell? ⟨w.heap.size, 0, none⟩ = some (.bool false) := by rw [Lib.cell_of_heap hk]; rfl
      have hcb : 0 ≤ c ∧ c ≤ 10000 := by omega
      clear hm hd hb hbb h1 hxy hov hk h2 hz
      go_enter Try.func9, Try.ntmps9
      go_wp2_with (first
        | (go_at_call 15; refine HW.out.mono ?_; rintro e w' ⟨rfl, rfl⟩)
        | (go_at_call 16; refine HM.out.mono ?_; rintro e w' ⟨rfl, rfl⟩)
        | (go_at_call 17; refine (HD _).out.mono ?_; rintro e w' ⟨rfl, k, rfl⟩))
      go_ret2
      exact ⟨rfl, drewN_below ((Below.refl _ w).alloc (Nat.le_refl _) _) k⟩
end Go.Proofs.Ytiekolbkmgdfoaa
