/-
  The document's great numbers: which of two is the greater one.
  Conditions: two numbers in six digits.
-/
import Derived.Test.YtkcecijepbceiaaBigMul
namespace Go.Proofs.Ytkcecijepbceiaa
open Go.RowKit

set_option maxHeartbeats 40000000 in
set_option maxRecDepth 100000 in
theorem bigcmp_any (x y c0 c1 c2 c3 c4 c5 d0 d1 d2 d3 d4 d5 : Int) (hx : Big6 x c0 c1 c2 c3 c4 c5) (hy : Big6 y d0 d1 d2 d3 d4 d5) (w : World) :
    Calls Try.prog 123 #[.agg #[.int .i64 c0, .int .i64 c1, .int .i64 c2, .int .i64 c3, .int .i64 c4, .int .i64 c5], .agg #[.int .i64 d0, .int .i64 d1, .int .i64 d2, .int .i64 d3, .int .i64 d4, .int .i64 d5]] w fun e w' => ∃ r : Int, e = .returned (.int .i64 r) ∧ (r ≤ 0 ↔ x ≤ y) ∧ -1 ≤ r ∧ r ≤ 1 ∧ Below w.heap.size w w' := by
  have HX := Lib.hid hx; have HY := Lib.hid hy
  clear hx hy
  have HD : Hid (∀ r : Int, (r = -1 ∧ x < y) ∨ (r = 0 ∧ x = y) ∨ (r = 1 ∧ y < x) → (r ≤ 0 ↔ x ≤ y) ∧ -1 ≤ r ∧ r ≤ 1) := by
    intro r h
    refine ⟨?_, ?_, ?_⟩ <;> omega
  obtain ⟨W0, hW0⟩ : ∃ W0, (w.alloc (.cells #[.int .i64 c0, .int .i64 c1, .int .i64 c2, .int .i64 c3, .int .i64 c4, .int .i64 c5] 177)).alloc (.cells #[.int .i64 d0, .int .i64 d1, .int .i64 d2, .int .i64 d3, .int .i64 d4, .int .i64 d5] 177) = W0 := ⟨_, rfl⟩
  have hA : W0.heap[w.heap.size]? = some (.cells #[.int .i64 c0, .int .i64 c1, .int .i64 c2, .int .i64 c3, .int .i64 c4, .int .i64 c5] 177 (0, 0)) := by rw [← hW0, Below.heap_alloc _ _ _ (by simp)]; exact heap_alloc_new w _
  have hB : W0.heap[w.heap.size + 1]? = some (.cells #[.int .i64 d0, .int .i64 d1, .int .i64 d2, .int .i64 d3, .int .i64 d4, .int .i64 d5] 177 (0, 0)) := by
    rw [← hW0]
    have h := heap_alloc_new (w.alloc (.cells #[.int .i64 c0, .int .i64 c1, .int .i64 c2, .int .i64 c3, .int .i64 c4, .int .i64 c5] 177)) (.cells #[.int .i64 d0, .int .i64 d1, .int .i64 d2, .int .i64 d3, .int .i64 d4, .int .i64 d5] 177)
    rw [World.size_alloc] at h
    exact h
  have HW0 : Hid (Below w.heap.size w W0) := by show Below _ _ _; rw [← hW0]; exact ((Below.refl _ _).alloc (Nat.le_refl _) _).alloc (by simp) _
  have HEQ := Lib.hid hW0
  have HA := Lib.hid hA; have HB := Lib.hid hB
  clear hW0 hA hB
  go_enter Try.func123, Try.ntmps123
  go_wp2
  rw [HEQ.out]
  obtain ⟨bb, hbb⟩ : ∃ b, w.heap.size + 1 = b := ⟨_, rfl⟩
  rw [hbb] at HB ⊢
  obtain ⟨ba, hba⟩ : ∃ b, w.heap.size = b := ⟨_, rfl⟩
  rw [hba] at HA ⊢
  have HBA := Lib.hid hba
  clear HEQ hbb hba
  have ca0 : W0.cell? ⟨ba, 0, none⟩ = some (.int .i64 c0) := by rw [Lib.cell_of_heap HA.out]; rfl
  have cb0 : W0.cell? ⟨bb, 0, none⟩ = some (.int .i64 d0) := by rw [Lib.cell_of_heap HB.out]; rfl
  have ca1 : W0.cell? ⟨ba, 1, none⟩ = some (.int .i64 c1) := by rw [Lib.cell_of_heap HA.out]; rfl
  have cb1 : W0.cell? ⟨bb, 1, none⟩ = some (.int .i64 d1) := by rw [Lib.cell_of_heap HB.out]; rfl
  have ca2 : W0.cell? ⟨ba, 2, none⟩ = some (.int .i64 c2) := by rw [Lib.cell_of_heap HA.out]; rfl
  have cb2 : W0.cell? ⟨bb, 2, none⟩ = some (.int .i64 d2) := by rw [Lib.cell_of_heap HB.out]; rfl
  have ca3 : W0.cell? ⟨ba, 3, none⟩ = some (.int .i64 c3) := by rw [Lib.cell_of_heap HA.out]; rfl
  have cb3 : W0.cell? ⟨bb, 3, none⟩ = some (.int .i64 d3) := by rw [Lib.cell_of_heap HB.out]; rfl
  have ca4 : W0.cell? ⟨ba, 4, none⟩ = some (.int .i64 c4) := by rw [Lib.cell_of_heap HA.out]; rfl
  have cb4 : W0.cell? ⟨bb, 4, none⟩ = some (.int .i64 d4) := by rw [Lib.cell_of_heap HB.out]; rfl
  have ca5 : W0.cell? ⟨ba, 5, none⟩ = some (.int .i64 c5) := by rw [Lib.cell_of_heap HA.out]; rfl
  have cb5 : W0.cell? ⟨bb, 5, none⟩ = some (.int .i64 d5) := by rw [Lib.cell_of_heap HB.out]; rfl
  clear HA HB
  refine wp_loop_rounds 7 ?_
  rw [rounds_succ]
  go_wp2
  by_cases hl5 : c5 < d5
  · go_quiet (fail)
    go_wp2
    go_ret
    have hf : x < y := by
      have hx := HX.out; have hy := HY.out
      have ex := hx.eq; have ey := hy.eq
      have := hx.b0; have := hx.b1; have := hx.b2; have := hx.b3; have := hx.b4; have := hx.b5
      have := hy.b0; have := hy.b1; have := hy.b2; have := hy.b3; have := hy.b4; have := hy.b5
      omega
    exact ⟨-1, rfl, (HD.out (-1) (.inl ⟨rfl, hf⟩)).1, (HD.out (-1) (.inl ⟨rfl, hf⟩)).2.1, (HD.out (-1) (.inl ⟨rfl, hf⟩)).2.2, by (try rw [HBA.out]); have h := HW0.out; rw [HBA.out] at h; exact (by repeat (first | exact h | refine drewN_below ?_ _))⟩
  by_cases hg5 : d5 < c5
  · go_quiet (fail)
    go_wp2
    go_quiet (fail)
    go_wp2
    go_ret
    have hf : y < x := by
      have hx := HX.out; have hy := HY.out
      have ex := hx.eq; have ey := hy.eq
      have := hx.b0; have := hx.b1; have := hx.b2; have := hx.b3; have := hx.b4; have := hx.b5
      have := hy.b0; have := hy.b1; have := hy.b2; have := hy.b3; have := hy.b4; have := hy.b5
      omega
    exact ⟨1, rfl, (HD.out 1 (.inr (.inr ⟨rfl, hf⟩))).1, (HD.out 1 (.inr (.inr ⟨rfl, hf⟩))).2.1, (HD.out 1 (.inr (.inr ⟨rfl, hf⟩))).2.2, by (try rw [HBA.out]); have h := HW0.out; rw [HBA.out] at h; exact (by repeat (first | exact h | refine drewN_below ?_ _))⟩
  obtain rfl : c5 = d5 := by omega
  clear hl5 hg5
  go_quiet (fail)
  go_wp2
  go_quiet (fail)
  go_wp2
  rw [rounds_succ]
  go_wp2
  by_cases hl4 : c4 < d4
  · go_quiet (fail)
    go_wp2
    go_ret
    have hf : x < y := by
      have hx := HX.out; have hy := HY.out
      have ex := hx.eq; have ey := hy.eq
      have := hx.b0; have := hx.b1; have := hx.b2; have := hx.b3; have := hx.b4; have := hx.b5
      have := hy.b0; have := hy.b1; have := hy.b2; have := hy.b3; have := hy.b4; have := hy.b5
      omega
    exact ⟨-1, rfl, (HD.out (-1) (.inl ⟨rfl, hf⟩)).1, (HD.out (-1) (.inl ⟨rfl, hf⟩)).2.1, (HD.out (-1) (.inl ⟨rfl, hf⟩)).2.2, by (try rw [HBA.out]); have h := HW0.out; rw [HBA.out] at h; exact (by repeat (first | exact h | refine drewN_below ?_ _))⟩
  by_cases hg4 : d4 < c4
  · go_quiet (fail)
    go_wp2
    go_quiet (fail)
    go_wp2
    go_ret
    have hf : y < x := by
      have hx := HX.out; have hy := HY.out
      have ex := hx.eq; have ey := hy.eq
      have := hx.b0; have := hx.b1; have := hx.b2; have := hx.b3; have := hx.b4; have := hx.b5
      have := hy.b0; have := hy.b1; have := hy.b2; have := hy.b3; have := hy.b4; have := hy.b5
      omega
    exact ⟨1, rfl, (HD.out 1 (.inr (.inr ⟨rfl, hf⟩))).1, (HD.out 1 (.inr (.inr ⟨rfl, hf⟩))).2.1, (HD.out 1 (.inr (.inr ⟨rfl, hf⟩))).2.2, by (try rw [HBA.out]); have h := HW0.out; rw [HBA.out] at h; exact (by repeat (first | exact h | refine drewN_below ?_ _))⟩
  obtain rfl : c4 = d4 := by omega
  clear hl4 hg4
  go_quiet (fail)
  go_wp2
  go_quiet (fail)
  go_wp2
  rw [rounds_succ]
  go_wp2
  by_cases hl3 : c3 < d3
  · go_quiet (fail)
    go_wp2
    go_ret
    have hf : x < y := by
      have hx := HX.out; have hy := HY.out
      have ex := hx.eq; have ey := hy.eq
      have := hx.b0; have := hx.b1; have := hx.b2; have := hx.b3; have := hx.b4; have := hx.b5
      have := hy.b0; have := hy.b1; have := hy.b2; have := hy.b3; have := hy.b4; have := hy.b5
      omega
    exact ⟨-1, rfl, (HD.out (-1) (.inl ⟨rfl, hf⟩)).1, (HD.out (-1) (.inl ⟨rfl, hf⟩)).2.1, (HD.out (-1) (.inl ⟨rfl, hf⟩)).2.2, by (try rw [HBA.out]); have h := HW0.out; rw [HBA.out] at h; exact (by repeat (first | exact h | refine drewN_below ?_ _))⟩
  by_cases hg3 : d3 < c3
  · go_quiet (fail)
    go_wp2
    go_quiet (fail)
    go_wp2
    go_ret
    have hf : y < x := by
      have hx := HX.out; have hy := HY.out
      have ex := hx.eq; have ey := hy.eq
      have := hx.b0; have := hx.b1; have := hx.b2; have := hx.b3; have := hx.b4; have := hx.b5
      have := hy.b0; have := hy.b1; have := hy.b2; have := hy.b3; have := hy.b4; have := hy.b5
      omega
    exact ⟨1, rfl, (HD.out 1 (.inr (.inr ⟨rfl, hf⟩))).1, (HD.out 1 (.inr (.inr ⟨rfl, hf⟩))).2.1, (HD.out 1 (.inr (.inr ⟨rfl, hf⟩))).2.2, by (try rw [HBA.out]); have h := HW0.out; rw [HBA.out] at h; exact (by repeat (first | exact h | refine drewN_below ?_ _))⟩
  obtain rfl : c3 = d3 := by omega
  clear hl3 hg3
  go_quiet (fail)
  go_wp2
  go_quiet (fail)
  go_wp2
  rw [rounds_succ]
  go_wp2
  by_cases hl2 : c2 < d2
  · go_quiet (fail)
    go_wp2
    go_ret
    have hf : x < y := by
      have hx := HX.out; have hy := HY.out
      have ex := hx.eq; have ey := hy.eq
      have := hx.b0; have := hx.b1; have := hx.b2; have := hx.b3; have := hx.b4; have := hx.b5
      have := hy.b0; have := hy.b1; have := hy.b2; have := hy.b3; have := hy.b4; have := hy.b5
      omega
    exact ⟨-1, rfl, (HD.out (-1) (.inl ⟨rfl, hf⟩)).1, (HD.out (-1) (.inl ⟨rfl, hf⟩)).2.1, (HD.out (-1) (.inl ⟨rfl, hf⟩)).2.2, by (try rw [HBA.out]); have h := HW0.out; rw [HBA.out] at h; exact (by repeat (first | exact h | refine drewN_below ?_ _))⟩
  by_cases hg2 : d2 < c2
  · go_quiet (fail)
    go_wp2
    go_quiet (fail)
    go_wp2
    go_ret
    have hf : y < x := by
      have hx := HX.out; have hy := HY.out
      have ex := hx.eq; have ey := hy.eq
      have := hx.b0; have := hx.b1; have := hx.b2; have := hx.b3; have := hx.b4; have := hx.b5
      have := hy.b0; have := hy.b1; have := hy.b2; have := hy.b3; have := hy.b4; have := hy.b5
      omega
    exact ⟨1, rfl, (HD.out 1 (.inr (.inr ⟨rfl, hf⟩))).1, (HD.out 1 (.inr (.inr ⟨rfl, hf⟩))).2.1, (HD.out 1 (.inr (.inr ⟨rfl, hf⟩))).2.2, by (try rw [HBA.out]); have h := HW0.out; rw [HBA.out] at h; exact (by repeat (first | exact h | refine drewN_below ?_ _))⟩
  obtain rfl : c2 = d2 := by omega
  clear hl2 hg2
  go_quiet (fail)
  go_wp2
  go_quiet (fail)
  go_wp2
  rw [rounds_succ]
  go_wp2
  by_cases hl1 : c1 < d1
  · go_quiet (fail)
    go_wp2
    go_ret
    have hf : x < y := by
      have hx := HX.out; have hy := HY.out
      have ex := hx.eq; have ey := hy.eq
      have := hx.b0; have := hx.b1; have := hx.b2; have := hx.b3; have := hx.b4; have := hx.b5
      have := hy.b0; have := hy.b1; have := hy.b2; have := hy.b3; have := hy.b4; have := hy.b5
      omega
    exact ⟨-1, rfl, (HD.out (-1) (.inl ⟨rfl, hf⟩)).1, (HD.out (-1) (.inl ⟨rfl, hf⟩)).2.1, (HD.out (-1) (.inl ⟨rfl, hf⟩)).2.2, by (try rw [HBA.out]); have h := HW0.out; rw [HBA.out] at h; exact (by repeat (first | exact h | refine drewN_below ?_ _))⟩
  by_cases hg1 : d1 < c1
  · go_quiet (fail)
    go_wp2
    go_quiet (fail)
    go_wp2
    go_ret
    have hf : y < x := by
      have hx := HX.out; have hy := HY.out
      have ex := hx.eq; have ey := hy.eq
      have := hx.b0; have := hx.b1; have := hx.b2; have := hx.b3; have := hx.b4; have := hx.b5
      have := hy.b0; have := hy.b1; have := hy.b2; have := hy.b3; have := hy.b4; have := hy.b5
      omega
    exact ⟨1, rfl, (HD.out 1 (.inr (.inr ⟨rfl, hf⟩))).1, (HD.out 1 (.inr (.inr ⟨rfl, hf⟩))).2.1, (HD.out 1 (.inr (.inr ⟨rfl, hf⟩))).2.2, by (try rw [HBA.out]); have h := HW0.out; rw [HBA.out] at h; exact (by repeat (first | exact h | refine drewN_below ?_ _))⟩
  obtain rfl : c1 = d1 := by omega
  clear hl1 hg1
  go_quiet (fail)
  go_wp2
  go_quiet (fail)
  go_wp2
  rw [rounds_succ]
  go_wp2
  by_cases hl0 : c0 < d0
  · go_quiet (fail)
    go_wp2
    go_ret
    have hf : x < y := by
      have hx := HX.out; have hy := HY.out
      have ex := hx.eq; have ey := hy.eq
      have := hx.b0; have := hx.b1; have := hx.b2; have := hx.b3; have := hx.b4; have := hx.b5
      have := hy.b0; have := hy.b1; have := hy.b2; have := hy.b3; have := hy.b4; have := hy.b5
      omega
    exact ⟨-1, rfl, (HD.out (-1) (.inl ⟨rfl, hf⟩)).1, (HD.out (-1) (.inl ⟨rfl, hf⟩)).2.1, (HD.out (-1) (.inl ⟨rfl, hf⟩)).2.2, by (try rw [HBA.out]); have h := HW0.out; rw [HBA.out] at h; exact (by repeat (first | exact h | refine drewN_below ?_ _))⟩
  by_cases hg0 : d0 < c0
  · go_quiet (fail)
    go_wp2
    go_quiet (fail)
    go_wp2
    go_ret
    have hf : y < x := by
      have hx := HX.out; have hy := HY.out
      have ex := hx.eq; have ey := hy.eq
      have := hx.b0; have := hx.b1; have := hx.b2; have := hx.b3; have := hx.b4; have := hx.b5
      have := hy.b0; have := hy.b1; have := hy.b2; have := hy.b3; have := hy.b4; have := hy.b5
      omega
    exact ⟨1, rfl, (HD.out 1 (.inr (.inr ⟨rfl, hf⟩))).1, (HD.out 1 (.inr (.inr ⟨rfl, hf⟩))).2.1, (HD.out 1 (.inr (.inr ⟨rfl, hf⟩))).2.2, by (try rw [HBA.out]); have h := HW0.out; rw [HBA.out] at h; exact (by repeat (first | exact h | refine drewN_below ?_ _))⟩
  obtain rfl : c0 = d0 := by omega
  clear hl0 hg0
  go_quiet (fail)
  go_wp2
  go_quiet (fail)
  go_wp2
  rw [rounds_succ]
  go_wp2
  go_ret
  have hf : x = y := by
    rw [HX.out.eq, HY.out.eq]
  exact ⟨0, rfl, (HD.out 0 (.inr (.inl ⟨rfl, hf⟩))).1, (HD.out 0 (.inr (.inl ⟨rfl, hf⟩))).2.1, (HD.out 0 (.inr (.inl ⟨rfl, hf⟩))).2.2, by (try rw [HBA.out]); have h := HW0.out; rw [HBA.out] at h; exact (by repeat (first | exact h | refine drewN_below ?_ _))⟩
end Go.Proofs.Ytkcecijepbceiaa
