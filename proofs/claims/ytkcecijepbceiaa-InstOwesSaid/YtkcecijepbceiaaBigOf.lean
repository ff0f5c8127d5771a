/-
  The document's great numbers: a number as digits.
  Conditions: a number from 0 on.
-/
import Derived.Test.YtkcecijepbceiaaInstA
import Derived.LoopN
namespace Go.Proofs.Ytkcecijepbceiaa
open Go.RowKit

/-- A number of 64 bits in digits of 30 bits. -/
structure Big3 (v d0 d1 d2 : Int) : Prop where
  eq : v = d0 + 1073741824 * d1 + 1152921504606846976 * d2
  l0 : 0 ≤ d0
  u0 : d0 < 1073741824
  l1 : 0 ≤ d1
  u1 : d1 < 1073741824
  l2 : 0 ≤ d2
  u2 : d2 < 8
theorem big_ex (v : Int) (h0 : 0 ≤ v) (h1 : v ≤ 9223372036854775807) : ∃ d0 d1 d2 v1 : Int, v % 1073741824 = d0 ∧ v / 1073741824 = v1 ∧ v1 % 1073741824 = d1 ∧ v1 / 1073741824 = d2 ∧ Big3 v d0 d1 d2 ∧ 0 ≤ v1 ∧ v1 ≤ 9223372036854775807 :=
  ⟨_, _, _, _, rfl, rfl, rfl, rfl, ⟨by omega, by omega, by omega, by omega, by omega, by omega, by omega⟩, by omega, by omega⟩
theorem size_big : (Try.prog.info? 177).map (·.size) = some 6 := by kernel_rfl
set_option maxHeartbeats 4000000 in
set_option maxRecDepth 100000 in
theorem of_any (v : Int) (h0 : 0 ≤ v) (h1 : v ≤ 9223372036854775807) (w : World) : Calls Try.prog 114 #[.int .i64 v] w fun e w' => ∃ d0 d1 d2, e = .returned (.agg #[.int .i64 d0, .int .i64 d1, .int .i64 d2, .int .i64 0, .int .i64 0, .int .i64 0]) ∧ Big3 v d0 d1 d2 ∧ Below w.heap.size w w' := by
  obtain ⟨d0, d1, d2, v1, e0, e1, e2, e3, hB, l1, u1⟩ := big_ex v h0 h1
  have HB := Lib.hid hB
  have e4 : d2 % 1073741824 = d2 := by have := hB.u2; have := hB.l2; omega
  have e5 : d2 / 1073741824 = 0 := by have := hB.u2; have := hB.l2; omega
  clear hB
  go_enter Try.func114, Try.ntmps114
  go_wp2
  refine wp_loop_rounds 7 ?_
  rw [rounds_succ]
  go_wp2
  rw [rounds_succ]
  go_wp2
  rw [rounds_succ]
  go_wp2
  rw [rounds_succ]
  go_wp2
  rw [rounds_succ]
  go_wp2
  rw [rounds_succ]
  go_wp2
  rw [rounds_succ]
  go_wp2
  have hk := (Below.heap_alloc (w.alloc (.cells #[.int .i64 d0, .int .i64 d1, .int .i64 d2, .int .i64 0, .int .i64 0, .int .i64 0] 177)) (.cells #[.int .i64 d0, .int .i64 d1, .int .i64 d2, .int .i64 0, .int .i64 0, .int .i64 0] 177) w.heap.size (by simp)).trans (heap_alloc_new w _)
  refine bodyPost_ret (results_cell_row rfl _ _ w.heap.size _ _ _ _ rfl hk Try.underlying177 rfl size_big) rfl ?_
  exact ⟨d0, d1, d2, rfl, HB.out, ((Below.refl w.heap.size w).alloc (Nat.le_refl _) _).alloc (by simp) _⟩
end Go.Proofs.Ytkcecijepbceiaa
