/-
  The document's great numbers: a product.
  Conditions: two numbers of 64 bits.
-/
import Derived.Test.YtkcecijepbceiaaBigOf
import Derived.Laws.CopyOwn
namespace Go.Proofs.Ytkcecijepbceiaa
open Go.RowKit

/-- A number in six digits. -/
structure Big6 (v c0 c1 c2 c3 c4 c5 : Int) : Prop where
  eq : v = c0 + 1073741824 * (c1 + 1073741824 * (c2 + 1073741824 * (c3 + 1073741824 * (c4 + 1073741824 * c5))))
  b0 : 0 ≤ c0 ∧ c0 < 1073741824
  b1 : 0 ≤ c1 ∧ c1 < 1073741824
  b2 : 0 ≤ c2 ∧ c2 < 1073741824
  b3 : 0 ≤ c3 ∧ c3 < 1073741824
  b4 : 0 ≤ c4 ∧ c4 < 1073741824
  b5 : 0 ≤ c5 ∧ c5 < 1073741824
theorem mul_bd {a b A B : Int} (ha : 0 ≤ a) (ha2 : a ≤ A) (hb : 0 ≤ b) (hb2 : b ≤ B) : 0 ≤ a * b ∧ a * b ≤ A * B :=
  ⟨Int.mul_nonneg ha hb, Int.le_trans (Int.mul_le_mul_of_nonneg_right ha2 hb) (Int.mul_le_mul_of_nonneg_left hb2 (Int.le_trans ha ha2))⟩
theorem mul_ex (B C x0 x1 x2 y0 y1 y2 : Int) : (x0 + B * x1 + C * x2) * (y0 + B * y1 + C * y2) = x0 * y0 + B * (x0 * y1) + C * (x0 * y2) + B * (x1 * y0) + B * (B * (x1 * y1)) + B * (C * (x1 * y2)) + C * (x2 * y0) + C * (B * (x2 * y1)) + C * (C * (x2 * y2)) := by
  simp only [Int.add_mul, Int.mul_add]
  ac_rfl
set_option maxHeartbeats 40000000 in
set_option maxRecDepth 100000 in
theorem mul_any (a b a0 a1 a2 b0 b1 b2 : Int) (hA : Big3 a a0 a1 a2) (hB : Big3 b b0 b1 b2) (w : World) :
    Calls Try.prog 113 #[.agg #[.int .i64 a0, .int .i64 a1, .int .i64 a2, .int .i64 0, .int .i64 0, .int .i64 0], .agg #[.int .i64 b0, .int .i64 b1, .int .i64 b2, .int .i64 0, .int .i64 0, .int .i64 0]] w fun e w' => ∃ c0 c1 c2 c3 c4 c5, e = .returned (.agg #[.int .i64 c0, .int .i64 c1, .int .i64 c2, .int .i64 c3, .int .i64 c4, .int .i64 c5]) ∧ Big6 (a * b) c0 c1 c2 c3 c4 c5 ∧ Below w.heap.size w w' := by
  have m00 := mul_bd hA.l0 (show a0 ≤ 1073741823 by have := hA.u0; omega) hB.l0 (show b0 ≤ 1073741823 by have := hB.u0; omega)
  have m01 := mul_bd hA.l0 (show a0 ≤ 1073741823 by have := hA.u0; omega) hB.l1 (show b1 ≤ 1073741823 by have := hB.u1; omega)
  have m02 := mul_bd hA.l0 (show a0 ≤ 1073741823 by have := hA.u0; omega) hB.l2 (show b2 ≤ 7 by have := hB.u2; omega)
  have m10 := mul_bd hA.l1 (show a1 ≤ 1073741823 by have := hA.u1; omega) hB.l0 (show b0 ≤ 1073741823 by have := hB.u0; omega)
  have m11 := mul_bd hA.l1 (show a1 ≤ 1073741823 by have := hA.u1; omega) hB.l1 (show b1 ≤ 1073741823 by have := hB.u1; omega)
  have m12 := mul_bd hA.l1 (show a1 ≤ 1073741823 by have := hA.u1; omega) hB.l2 (show b2 ≤ 7 by have := hB.u2; omega)
  have m20 := mul_bd hA.l2 (show a2 ≤ 7 by have := hA.u2; omega) hB.l0 (show b0 ≤ 1073741823 by have := hB.u0; omega)
  have m21 := mul_bd hA.l2 (show a2 ≤ 7 by have := hA.u2; omega) hB.l1 (show b1 ≤ 1073741823 by have := hB.u1; omega)
  have m22 := mul_bd hA.l2 (show a2 ≤ 7 by have := hA.u2; omega) hB.l2 (show b2 ≤ 7 by have := hB.u2; omega)
  have hab := mul_ex 1073741824 1152921504606846976 a0 a1 a2 b0 b1 b2
  rw [← hA.eq, ← hB.eq] at hab
  obtain ⟨p00, e_p00⟩ : ∃ x, a0 * b0 = x := ⟨_, rfl⟩
  rw [e_p00] at m00 hab
  have l_p00 := m00.1
  have u_p00 : p00 ≤ 1152921502459363329 := Int.le_trans m00.2 (by decide)
  obtain ⟨p01, e_p01⟩ : ∃ x, a0 * b1 = x := ⟨_, rfl⟩
  rw [e_p01] at m01 hab
  have l_p01 := m01.1
  have u_p01 : p01 ≤ 1152921502459363329 := Int.le_trans m01.2 (by decide)
  obtain ⟨p02, e_p02⟩ : ∃ x, a0 * b2 = x := ⟨_, rfl⟩
  rw [e_p02] at m02 hab
  have l_p02 := m02.1
  have u_p02 : p02 ≤ 7516192761 := Int.le_trans m02.2 (by decide)
  obtain ⟨p10, e_p10⟩ : ∃ x, a1 * b0 = x := ⟨_, rfl⟩
  rw [e_p10] at m10 hab
  have l_p10 := m10.1
  have u_p10 : p10 ≤ 1152921502459363329 := Int.le_trans m10.2 (by decide)
  obtain ⟨p11, e_p11⟩ : ∃ x, a1 * b1 = x := ⟨_, rfl⟩
  rw [e_p11] at m11 hab
  have l_p11 := m11.1
  have u_p11 : p11 ≤ 1152921502459363329 := Int.le_trans m11.2 (by decide)
  obtain ⟨p12, e_p12⟩ : ∃ x, a1 * b2 = x := ⟨_, rfl⟩
  rw [e_p12] at m12 hab
  have l_p12 := m12.1
  have u_p12 : p12 ≤ 7516192761 := Int.le_trans m12.2 (by decide)
  obtain ⟨p20, e_p20⟩ : ∃ x, a2 * b0 = x := ⟨_, rfl⟩
  rw [e_p20] at m20 hab
  have l_p20 := m20.1
  have u_p20 : p20 ≤ 7516192761 := Int.le_trans m20.2 (by decide)
  obtain ⟨p21, e_p21⟩ : ∃ x, a2 * b1 = x := ⟨_, rfl⟩
  rw [e_p21] at m21 hab
  have l_p21 := m21.1
  have u_p21 : p21 ≤ 7516192761 := Int.le_trans m21.2 (by decide)
  obtain ⟨p22, e_p22⟩ : ∃ x, a2 * b2 = x := ⟨_, rfl⟩
  rw [e_p22] at m22 hab
  have l_p22 := m22.1
  have u_p22 : p22 ≤ 49 := Int.le_trans m22.2 (by decide)
  clear m00 m01 m02 m10 m11 m12 m20 m21 m22
  obtain ⟨c0, e_c0⟩ : ∃ x, p00 % 1073741824 = x := ⟨_, rfl⟩
  have l_c0 : 0 ≤ c0 := by omega
  have u_c0 : c0 ≤ 1073741823 := by omega
  obtain ⟨v1, e_v1⟩ : ∃ x, p00 / 1073741824 = x := ⟨_, rfl⟩
  have l_v1 : 0 ≤ v1 := by omega
  have u_v1 : v1 ≤ 1073741822 := by omega
  obtain ⟨s01, e_s01⟩ : ∃ x, v1 + p01 = x := ⟨_, rfl⟩
  have l_s01 : 0 ≤ s01 := by omega
  have u_s01 : s01 ≤ 1152921503533105151 := by omega
  obtain ⟨x1, e_x1⟩ : ∃ x, s01 % 1073741824 = x := ⟨_, rfl⟩
  have l_x1 : 0 ≤ x1 := by omega
  have u_x1 : x1 ≤ 1073741823 := by omega
  obtain ⟨v2, e_v2⟩ : ∃ x, s01 / 1073741824 = x := ⟨_, rfl⟩
  have l_v2 : 0 ≤ v2 := by omega
  have u_v2 : v2 ≤ 1073741822 := by omega
  obtain ⟨s02, e_s02⟩ : ∃ x, v2 + p02 = x := ⟨_, rfl⟩
  have l_s02 : 0 ≤ s02 := by omega
  have u_s02 : s02 ≤ 8589934583 := by omega
  obtain ⟨x2, e_x2⟩ : ∃ x, s02 % 1073741824 = x := ⟨_, rfl⟩
  have l_x2 : 0 ≤ x2 := by omega
  have u_x2 : x2 ≤ 1073741823 := by omega
  obtain ⟨x3, e_x3⟩ : ∃ x, s02 / 1073741824 = x := ⟨_, rfl⟩
  have l_x3 : 0 ≤ x3 := by omega
  have u_x3 : x3 ≤ 7 := by omega
  obtain ⟨s10, e_s10⟩ : ∃ x, x1 + p10 = x := ⟨_, rfl⟩
  have l_s10 : 0 ≤ s10 := by omega
  have u_s10 : s10 ≤ 1152921503533105152 := by omega
  obtain ⟨c1, e_c1⟩ : ∃ x, s10 % 1073741824 = x := ⟨_, rfl⟩
  have l_c1 : 0 ≤ c1 := by omega
  have u_c1 : c1 ≤ 1073741823 := by omega
  obtain ⟨v4, e_v4⟩ : ∃ x, s10 / 1073741824 = x := ⟨_, rfl⟩
  have l_v4 : 0 ≤ v4 := by omega
  have u_v4 : v4 ≤ 1073741823 := by omega
  obtain ⟨q11, e_q11⟩ : ∃ x, v4 + x2 = x := ⟨_, rfl⟩
  have l_q11 : 0 ≤ q11 := by omega
  have u_q11 : q11 ≤ 2147483646 := by omega
  obtain ⟨s11, e_s11⟩ : ∃ x, q11 + p11 = x := ⟨_, rfl⟩
  have l_s11 : 0 ≤ s11 := by omega
  have u_s11 : s11 ≤ 1152921504606846975 := by omega
  obtain ⟨y2, e_y2⟩ : ∃ x, s11 % 1073741824 = x := ⟨_, rfl⟩
  have l_y2 : 0 ≤ y2 := by omega
  have u_y2 : y2 ≤ 1073741823 := by omega
  obtain ⟨v5, e_v5⟩ : ∃ x, s11 / 1073741824 = x := ⟨_, rfl⟩
  have l_v5 : 0 ≤ v5 := by omega
  have u_v5 : v5 ≤ 1073741823 := by omega
  obtain ⟨q12, e_q12⟩ : ∃ x, v5 + x3 = x := ⟨_, rfl⟩
  have l_q12 : 0 ≤ q12 := by omega
  have u_q12 : q12 ≤ 1073741830 := by omega
  obtain ⟨s12, e_s12⟩ : ∃ x, q12 + p12 = x := ⟨_, rfl⟩
  have l_s12 : 0 ≤ s12 := by omega
  have u_s12 : s12 ≤ 8589934591 := by omega
  obtain ⟨y3, e_y3⟩ : ∃ x, s12 % 1073741824 = x := ⟨_, rfl⟩
  have l_y3 : 0 ≤ y3 := by omega
  have u_y3 : y3 ≤ 1073741823 := by omega
  obtain ⟨y4, e_y4⟩ : ∃ x, s12 / 1073741824 = x := ⟨_, rfl⟩
  have l_y4 : 0 ≤ y4 := by omega
  have u_y4 : y4 ≤ 7 := by omega
  obtain ⟨s20, e_s20⟩ : ∃ x, y2 + p20 = x := ⟨_, rfl⟩
  have l_s20 : 0 ≤ s20 := by omega
  have u_s20 : s20 ≤ 8589934584 := by omega
  obtain ⟨c2, e_c2⟩ : ∃ x, s20 % 1073741824 = x := ⟨_, rfl⟩
  have l_c2 : 0 ≤ c2 := by omega
  have u_c2 : c2 ≤ 1073741823 := by omega
  obtain ⟨v6, e_v6⟩ : ∃ x, s20 / 1073741824 = x := ⟨_, rfl⟩
  have l_v6 : 0 ≤ v6 := by omega
  have u_v6 : v6 ≤ 7 := by omega
  obtain ⟨q21, e_q21⟩ : ∃ x, v6 + y3 = x := ⟨_, rfl⟩
  have l_q21 : 0 ≤ q21 := by omega
  have u_q21 : q21 ≤ 1073741830 := by omega
  obtain ⟨s21, e_s21⟩ : ∃ x, q21 + p21 = x := ⟨_, rfl⟩
  have l_s21 : 0 ≤ s21 := by omega
  have u_s21 : s21 ≤ 8589934591 := by omega
  obtain ⟨c3, e_c3⟩ : ∃ x, s21 % 1073741824 = x := ⟨_, rfl⟩
  have l_c3 : 0 ≤ c3 := by omega
  have u_c3 : c3 ≤ 1073741823 := by omega
  obtain ⟨v7, e_v7⟩ : ∃ x, s21 / 1073741824 = x := ⟨_, rfl⟩
  have l_v7 : 0 ≤ v7 := by omega
  have u_v7 : v7 ≤ 7 := by omega
  obtain ⟨q22, e_q22⟩ : ∃ x, v7 + y4 = x := ⟨_, rfl⟩
  have l_q22 : 0 ≤ q22 := by omega
  have u_q22 : q22 ≤ 14 := by omega
  obtain ⟨s22, e_s22⟩ : ∃ x, q22 + p22 = x := ⟨_, rfl⟩
  have l_s22 : 0 ≤ s22 := by omega
  have u_s22 : s22 ≤ 63 := by omega
  obtain ⟨c4, e_c4⟩ : ∃ x, s22 % 1073741824 = x := ⟨_, rfl⟩
  have l_c4 : 0 ≤ c4 := by omega
  have u_c4 : c4 ≤ 1073741823 := by omega
  obtain ⟨c5, e_c5⟩ : ∃ x, s22 / 1073741824 = x := ⟨_, rfl⟩
  have l_c5 : 0 ≤ c5 := by omega
  have u_c5 : c5 ≤ 0 := by omega
  have r_x3 : x3 % 1073741824 = x3 := by omega
  have z_x3 : x3 / 1073741824 = 0 := by omega
  have r_y4 : y4 % 1073741824 = y4 := by omega
  have z_y4 : y4 / 1073741824 = 0 := by omega
  have r_c3 : c3 % 1073741824 = c3 := by omega
  have z_c3 : c3 / 1073741824 = 0 := by omega
  have r_c4 : c4 % 1073741824 = c4 := by omega
  have z_c4 : c4 / 1073741824 = 0 := by omega
  have r_c5 : c5 % 1073741824 = c5 := by omega
  have z_c5 : c5 / 1073741824 = 0 := by omega
  have HFIN : Hid (Big6 (a * b) c0 c1 c2 c3 c4 c5) := ⟨by omega, ⟨by omega, by omega⟩, ⟨by omega, by omega⟩, ⟨by omega, by omega⟩, ⟨by omega, by omega⟩, ⟨by omega, by omega⟩, ⟨by omega, by omega⟩⟩
  clear hab hA hB
  obtain ⟨W0, hW0⟩ : ∃ W0, (((w.alloc (.cells #[.int .i64 a0, .int .i64 a1, .int .i64 a2, .int .i64 0, .int .i64 0, .int .i64 0] 177)).alloc (.cells #[.int .i64 b0, .int .i64 b1, .int .i64 b2, .int .i64 0, .int .i64 0, .int .i64 0] 177)).alloc (.cells #[.int .i64 0, .int .i64 0, .int .i64 0, .int .i64 0, .int .i64 0, .int .i64 0] 177)).alloc (.cells #[.int .i64 0, .int .i64 0, .int .i64 0, .int .i64 0, .int .i64 0, .int .i64 0] 177) = W0 := ⟨_, rfl⟩
  have HA0 : Hid (W0.heap[w.heap.size]? = some (.cells #[.int .i64 a0, .int .i64 a1, .int .i64 a2, .int .i64 0, .int .i64 0, .int .i64 0] 177 (0, 0))) := by show _ = _; rw [← hW0, Below.heap_alloc _ _ _ (by simp <;> omega), Below.heap_alloc _ _ _ (by simp <;> omega), Below.heap_alloc _ _ _ (by simp)]; exact heap_alloc_new w _
  have HB0 : Hid (W0.heap[w.heap.size + 1]? = some (.cells #[.int .i64 b0, .int .i64 b1, .int .i64 b2, .int .i64 0, .int .i64 0, .int .i64 0] 177 (0, 0))) := by
    show _ = _
    rw [← hW0, Below.heap_alloc _ _ _ (by simp <;> omega), Below.heap_alloc _ _ _ (by simp)]
    have h := heap_alloc_new (w.alloc (.cells #[.int .i64 a0, .int .i64 a1, .int .i64 a2, .int .i64 0, .int .i64 0, .int .i64 0] 177)) (.cells #[.int .i64 b0, .int .i64 b1, .int .i64 b2, .int .i64 0, .int .i64 0, .int .i64 0] 177)
    rw [World.size_alloc] at h
    exact h
  have HR0 : Hid (W0.heap[w.heap.size + 1 + 1]? = some (.cells #[.int .i64 0, .int .i64 0, .int .i64 0, .int .i64 0, .int .i64 0, .int .i64 0] 177 (0, 0))) := by
    show _ = _
    rw [← hW0, Below.heap_alloc _ _ _ (by simp)]
    have h := heap_alloc_new ((w.alloc (.cells #[.int .i64 a0, .int .i64 a1, .int .i64 a2, .int .i64 0, .int .i64 0, .int .i64 0] 177)).alloc (.cells #[.int .i64 b0, .int .i64 b1, .int .i64 b2, .int .i64 0, .int .i64 0, .int .i64 0] 177)) (.cells #[.int .i64 0, .int .i64 0, .int .i64 0, .int .i64 0, .int .i64 0, .int .i64 0] 177)
    rw [World.size_alloc, World.size_alloc] at h
    exact h
  have HO0 : Hid (W0.heap[w.heap.size + 1 + 1 + 1]? = some (.cells #[.int .i64 0, .int .i64 0, .int .i64 0, .int .i64 0, .int .i64 0, .int .i64 0] 177 (0, 0))) := by
    show _ = _
    rw [← hW0]
    have h := heap_alloc_new (((w.alloc (.cells #[.int .i64 a0, .int .i64 a1, .int .i64 a2, .int .i64 0, .int .i64 0, .int .i64 0] 177)).alloc (.cells #[.int .i64 b0, .int .i64 b1, .int .i64 b2, .int .i64 0, .int .i64 0, .int .i64 0] 177)).alloc (.cells #[.int .i64 0, .int .i64 0, .int .i64 0, .int .i64 0, .int .i64 0, .int .i64 0] 177)) (.cells #[.int .i64 0, .int .i64 0, .int .i64 0, .int .i64 0, .int .i64 0, .int .i64 0] 177)
    rw [World.size_alloc, World.size_alloc, World.size_alloc] at h
    exact h
  have HW0 : Hid (Below w.heap.size w W0) := by show Below _ _ _; rw [← hW0]; exact ((((Below.refl _ _).alloc (Nat.le_refl _) _).alloc (by simp <;> omega) _).alloc (by simp <;> omega) _).alloc (by simp <;> omega) _
  have HEQ := Lib.hid hW0
  clear hW0
  go_enter Try.func113, Try.ntmps113
  go_wp2
  rw [HEQ.out]
  obtain ⟨bo, hbo⟩ : ∃ b, w.heap.size + 1 + 1 + 1 = b := ⟨_, rfl⟩
  rw [hbo] at HO0 ⊢
  obtain ⟨br, hbr⟩ : ∃ b, w.heap.size + 1 + 1 = b := ⟨_, rfl⟩
  rw [hbr] at HR0 ⊢
  obtain ⟨bb, hbb⟩ : ∃ b, w.heap.size + 1 = b := ⟨_, rfl⟩
  rw [hbb] at HB0 ⊢
  obtain ⟨ba, hba⟩ : ∃ b, w.heap.size = b := ⟨_, rfl⟩
  rw [hba] at HA0 ⊢
  have dao : ba ≠ bo := by omega
  have dbo : bb ≠ bo := by omega
  have dro : br ≠ bo := by omega
  have hlo : w.heap.size ≤ bo := by omega
  have hlr : w.heap.size ≤ br := by omega
  clear HEQ hbo hbr hbb hba
  refine wp_loop_rounds 7 ?_
  rw [rounds_succ]
  go_wp2
  refine wp_loop_rounds 7 ?_
  have ca : W0.cell? ⟨ba, 0, none⟩ = some (.int .i64 a0) := by rw [Lib.cell_of_heap HA0.out]; rfl
  have cb : W0.cell? ⟨bb, 0, none⟩ = some (.int .i64 b0) := by rw [Lib.cell_of_heap HB0.out]; rfl
  have co : W0.cell? ⟨bo, 0, none⟩ = some (.int .i64 0) := by rw [Lib.cell_of_heap HO0.out]; rfl
  have fo : W0.frozen? ⟨bo, 0, none⟩ = false := Lib.frozen_of_heap HO0.out 0
  rw [rounds_succ]
  go_wp2
  go_quiet (fail)
  go_wp2
  generalize hW : World.setCell _ _ _ = W1
  have HO1 : Hid (W1.heap[bo]? = some (.cells #[.int .i64 c0, .int .i64 0, .int .i64 0, .int .i64 0, .int .i64 0, .int .i64 0] 177 (0, 0))) := by show _ = _; rw [← hW]; first | (exact Blk.set_ (show Blk (World.drewN W0 _) bo 177 _ from HO0.out) 0 _) | (rw [e_c0]; exact Blk.set_ (show Blk (World.drewN W0 _) bo 177 _ from HO0.out) 0 _)
  have HA1 : Hid (W1.heap[ba]? = some (.cells #[.int .i64 a0, .int .i64 a1, .int .i64 a2, .int .i64 0, .int .i64 0, .int .i64 0] 177 (0, 0))) := by show _ = _; rw [← hW, Below.heap_setCell _ _ _ _ (show ba ≠ bo from dao)]; exact HA0.out
  have HB1 : Hid (W1.heap[bb]? = some (.cells #[.int .i64 b0, .int .i64 b1, .int .i64 b2, .int .i64 0, .int .i64 0, .int .i64 0] 177 (0, 0))) := by show _ = _; rw [← hW, Below.heap_setCell _ _ _ _ (show bb ≠ bo from dbo)]; exact HB0.out
  have HR1 : Hid (W1.heap[br]? = some (.cells #[.int .i64 0, .int .i64 0, .int .i64 0, .int .i64 0, .int .i64 0, .int .i64 0] 177 (0, 0))) := by show _ = _; rw [← hW, Below.heap_setCell _ _ _ _ (show br ≠ bo from dro)]; exact HR0.out
  have HW1 : Hid (Below w.heap.size w W1) := by show Below _ _ _; rw [← hW]; exact (drewN_below HW0.out _).setCell (p := ⟨bo, 0, none⟩) hlo _
  clear hW ca cb co fo HA0 HB0 HR0 HO0 HW0
  have ca : W1.cell? ⟨ba, 0, none⟩ = some (.int .i64 a0) := by rw [Lib.cell_of_heap HA1.out]; rfl
  have cb : W1.cell? ⟨bb, 1, none⟩ = some (.int .i64 b1) := by rw [Lib.cell_of_heap HB1.out]; rfl
  have co : W1.cell? ⟨bo, 1, none⟩ = some (.int .i64 0) := by rw [Lib.cell_of_heap HO1.out]; rfl
  have fo : W1.frozen? ⟨bo, 1, none⟩ = false := Lib.frozen_of_heap HO1.out 1
  rw [rounds_succ]
  go_wp2
  go_quiet (fail)
  go_wp2
  generalize hW : World.setCell _ _ _ = W2
  have HO2 : Hid (W2.heap[bo]? = some (.cells #[.int .i64 c0, .int .i64 x1, .int .i64 0, .int .i64 0, .int .i64 0, .int .i64 0] 177 (0, 0))) := by show _ = _; rw [← hW]; first | (exact Blk.set_ (show Blk (World.drewN W1 _) bo 177 _ from HO1.out) 1 _) | (rw [e_x1]; exact Blk.set_ (show Blk (World.drewN W1 _) bo 177 _ from HO1.out) 1 _)
  have HA2 : Hid (W2.heap[ba]? = some (.cells #[.int .i64 a0, .int .i64 a1, .int .i64 a2, .int .i64 0, .int .i64 0, .int .i64 0] 177 (0, 0))) := by show _ = _; rw [← hW, Below.heap_setCell _ _ _ _ (show ba ≠ bo from dao)]; exact HA1.out
  have HB2 : Hid (W2.heap[bb]? = some (.cells #[.int .i64 b0, .int .i64 b1, .int .i64 b2, .int .i64 0, .int .i64 0, .int .i64 0] 177 (0, 0))) := by show _ = _; rw [← hW, Below.heap_setCell _ _ _ _ (show bb ≠ bo from dbo)]; exact HB1.out
  have HR2 : Hid (W2.heap[br]? = some (.cells #[.int .i64 0, .int .i64 0, .int .i64 0, .int .i64 0, .int .i64 0, .int .i64 0] 177 (0, 0))) := by show _ = _; rw [← hW, Below.heap_setCell _ _ _ _ (show br ≠ bo from dro)]; exact HR1.out
  have HW2 : Hid (Below w.heap.size w W2) := by show Below _ _ _; rw [← hW]; exact (drewN_below HW1.out _).setCell (p := ⟨bo, 1, none⟩) hlo _
  clear hW ca cb co fo HA1 HB1 HR1 HO1 HW1
  have ca : W2.cell? ⟨ba, 0, none⟩ = some (.int .i64 a0) := by rw [Lib.cell_of_heap HA2.out]; rfl
  have cb : W2.cell? ⟨bb, 2, none⟩ = some (.int .i64 b2) := by rw [Lib.cell_of_heap HB2.out]; rfl
  have co : W2.cell? ⟨bo, 2, none⟩ = some (.int .i64 0) := by rw [Lib.cell_of_heap HO2.out]; rfl
  have fo : W2.frozen? ⟨bo, 2, none⟩ = false := Lib.frozen_of_heap HO2.out 2
  rw [rounds_succ]
  go_wp2
  go_quiet (fail)
  go_wp2
  generalize hW : World.setCell _ _ _ = W3
  have HO3 : Hid (W3.heap[bo]? = some (.cells #[.int .i64 c0, .int .i64 x1, .int .i64 x2, .int .i64 0, .int .i64 0, .int .i64 0] 177 (0, 0))) := by show _ = _; rw [← hW]; first | (exact Blk.set_ (show Blk (World.drewN W2 _) bo 177 _ from HO2.out) 2 _) | (rw [e_x2]; exact Blk.set_ (show Blk (World.drewN W2 _) bo 177 _ from HO2.out) 2 _)
  have HA3 : Hid (W3.heap[ba]? = some (.cells #[.int .i64 a0, .int .i64 a1, .int .i64 a2, .int .i64 0, .int .i64 0, .int .i64 0] 177 (0, 0))) := by show _ = _; rw [← hW, Below.heap_setCell _ _ _ _ (show ba ≠ bo from dao)]; exact HA2.out
  have HB3 : Hid (W3.heap[bb]? = some (.cells #[.int .i64 b0, .int .i64 b1, .int .i64 b2, .int .i64 0, .int .i64 0, .int .i64 0] 177 (0, 0))) := by show _ = _; rw [← hW, Below.heap_setCell _ _ _ _ (show bb ≠ bo from dbo)]; exact HB2.out
  have HR3 : Hid (W3.heap[br]? = some (.cells #[.int .i64 0, .int .i64 0, .int .i64 0, .int .i64 0, .int .i64 0, .int .i64 0] 177 (0, 0))) := by show _ = _; rw [← hW, Below.heap_setCell _ _ _ _ (show br ≠ bo from dro)]; exact HR2.out
  have HW3 : Hid (Below w.heap.size w W3) := by show Below _ _ _; rw [← hW]; exact (drewN_below HW2.out _).setCell (p := ⟨bo, 2, none⟩) hlo _
  clear hW ca cb co fo HA2 HB2 HR2 HO2 HW2
  have ca : W3.cell? ⟨ba, 0, none⟩ = some (.int .i64 a0) := by rw [Lib.cell_of_heap HA3.out]; rfl
  have cb : W3.cell? ⟨bb, 3, none⟩ = some (.int .i64 0) := by rw [Lib.cell_of_heap HB3.out]; rfl
  have co : W3.cell? ⟨bo, 3, none⟩ = some (.int .i64 0) := by rw [Lib.cell_of_heap HO3.out]; rfl
  have fo : W3.frozen? ⟨bo, 3, none⟩ = false := Lib.frozen_of_heap HO3.out 3
  rw [rounds_succ]
  go_wp2
  go_quiet (fail)
  go_wp2
  generalize hW : World.setCell _ _ _ = W4
  have HO4 : Hid (W4.heap[bo]? = some (.cells #[.int .i64 c0, .int .i64 x1, .int .i64 x2, .int .i64 x3, .int .i64 0, .int .i64 0] 177 (0, 0))) := by show _ = _; rw [← hW]; first | (exact Blk.set_ (show Blk (World.drewN W3 _) bo 177 _ from HO3.out) 3 _) | (rw [r_x3]; exact Blk.set_ (show Blk (World.drewN W3 _) bo 177 _ from HO3.out) 3 _)
  have HA4 : Hid (W4.heap[ba]? = some (.cells #[.int .i64 a0, .int .i64 a1, .int .i64 a2, .int .i64 0, .int .i64 0, .int .i64 0] 177 (0, 0))) := by show _ = _; rw [← hW, Below.heap_setCell _ _ _ _ (show ba ≠ bo from dao)]; exact HA3.out
  have HB4 : Hid (W4.heap[bb]? = some (.cells #[.int .i64 b0, .int .i64 b1, .int .i64 b2, .int .i64 0, .int .i64 0, .int .i64 0] 177 (0, 0))) := by show _ = _; rw [← hW, Below.heap_setCell _ _ _ _ (show bb ≠ bo from dbo)]; exact HB3.out
  have HR4 : Hid (W4.heap[br]? = some (.cells #[.int .i64 0, .int .i64 0, .int .i64 0, .int .i64 0, .int .i64 0, .int .i64 0] 177 (0, 0))) := by show _ = _; rw [← hW, Below.heap_setCell _ _ _ _ (show br ≠ bo from dro)]; exact HR3.out
  have HW4 : Hid (Below w.heap.size w W4) := by show Below _ _ _; rw [← hW]; exact (drewN_below HW3.out _).setCell (p := ⟨bo, 3, none⟩) hlo _
  clear hW ca cb co fo HA3 HB3 HR3 HO3 HW3
  have ca : W4.cell? ⟨ba, 0, none⟩ = some (.int .i64 a0) := by rw [Lib.cell_of_heap HA4.out]; rfl
  have cb : W4.cell? ⟨bb, 4, none⟩ = some (.int .i64 0) := by rw [Lib.cell_of_heap HB4.out]; rfl
  have co : W4.cell? ⟨bo, 4, none⟩ = some (.int .i64 0) := by rw [Lib.cell_of_heap HO4.out]; rfl
  have fo : W4.frozen? ⟨bo, 4, none⟩ = false := Lib.frozen_of_heap HO4.out 4
  rw [rounds_succ]
  go_wp2
  go_quiet (fail)
  go_wp2
  generalize hW : World.setCell _ _ _ = W5
  have HO5 : Hid (W5.heap[bo]? = some (.cells #[.int .i64 c0, .int .i64 x1, .int .i64 x2, .int .i64 x3, .int .i64 0, .int .i64 0] 177 (0, 0))) := by show _ = _; rw [← hW]; exact Blk.set_ (show Blk (World.drewN W4 _) bo 177 _ from HO4.out) 4 _
  have HA5 : Hid (W5.heap[ba]? = some (.cells #[.int .i64 a0, .int .i64 a1, .int .i64 a2, .int .i64 0, .int .i64 0, .int .i64 0] 177 (0, 0))) := by show _ = _; rw [← hW, Below.heap_setCell _ _ _ _ (show ba ≠ bo from dao)]; exact HA4.out
  have HB5 : Hid (W5.heap[bb]? = some (.cells #[.int .i64 b0, .int .i64 b1, .int .i64 b2, .int .i64 0, .int .i64 0, .int .i64 0] 177 (0, 0))) := by show _ = _; rw [← hW, Below.heap_setCell _ _ _ _ (show bb ≠ bo from dbo)]; exact HB4.out
  have HR5 : Hid (W5.heap[br]? = some (.cells #[.int .i64 0, .int .i64 0, .int .i64 0, .int .i64 0, .int .i64 0, .int .i64 0] 177 (0, 0))) := by show _ = _; rw [← hW, Below.heap_setCell _ _ _ _ (show br ≠ bo from dro)]; exact HR4.out
  have HW5 : Hid (Below w.heap.size w W5) := by show Below _ _ _; rw [← hW]; exact (drewN_below HW4.out _).setCell (p := ⟨bo, 4, none⟩) hlo _
  clear hW ca cb co fo HA4 HB4 HR4 HO4 HW4
  have ca : W5.cell? ⟨ba, 0, none⟩ = some (.int .i64 a0) := by rw [Lib.cell_of_heap HA5.out]; rfl
  have cb : W5.cell? ⟨bb, 5, none⟩ = some (.int .i64 0) := by rw [Lib.cell_of_heap HB5.out]; rfl
  have co : W5.cell? ⟨bo, 5, none⟩ = some (.int .i64 0) := by rw [Lib.cell_of_heap HO5.out]; rfl
  have fo : W5.frozen? ⟨bo, 5, none⟩ = false := Lib.frozen_of_heap HO5.out 5
  rw [rounds_succ]
  go_wp2
  go_quiet (fail)
  go_wp2
  generalize hW : World.setCell _ _ _ = W6
  have HO6 : Hid (W6.heap[bo]? = some (.cells #[.int .i64 c0, .int .i64 x1, .int .i64 x2, .int .i64 x3, .int .i64 0, .int .i64 0] 177 (0, 0))) := by show _ = _; rw [← hW]; exact Blk.set_ (show Blk (World.drewN W5 _) bo 177 _ from HO5.out) 5 _
  have HA6 : Hid (W6.heap[ba]? = some (.cells #[.int .i64 a0, .int .i64 a1, .int .i64 a2, .int .i64 0, .int .i64 0, .int .i64 0] 177 (0, 0))) := by show _ = _; rw [← hW, Below.heap_setCell _ _ _ _ (show ba ≠ bo from dao)]; exact HA5.out
  have HB6 : Hid (W6.heap[bb]? = some (.cells #[.int .i64 b0, .int .i64 b1, .int .i64 b2, .int .i64 0, .int .i64 0, .int .i64 0] 177 (0, 0))) := by show _ = _; rw [← hW, Below.heap_setCell _ _ _ _ (show bb ≠ bo from dbo)]; exact HB5.out
  have HR6 : Hid (W6.heap[br]? = some (.cells #[.int .i64 0, .int .i64 0, .int .i64 0, .int .i64 0, .int .i64 0, .int .i64 0] 177 (0, 0))) := by show _ = _; rw [← hW, Below.heap_setCell _ _ _ _ (show br ≠ bo from dro)]; exact HR5.out
  have HW6 : Hid (Below w.heap.size w W6) := by show Below _ _ _; rw [← hW]; exact (drewN_below HW5.out _).setCell (p := ⟨bo, 5, none⟩) hlo _
  clear hW ca cb co fo HA5 HB5 HR5 HO5 HW5
  rw [rounds_succ]
  go_wp2
  rw [rounds_succ]
  go_wp2
  refine wp_loop_rounds 6 ?_
  have ca : W6.cell? ⟨ba, 1, none⟩ = some (.int .i64 a1) := by rw [Lib.cell_of_heap HA6.out]; rfl
  have cb : W6.cell? ⟨bb, 0, none⟩ = some (.int .i64 b0) := by rw [Lib.cell_of_heap HB6.out]; rfl
  have co : W6.cell? ⟨bo, 1, none⟩ = some (.int .i64 x1) := by rw [Lib.cell_of_heap HO6.out]; rfl
  have fo : W6.frozen? ⟨bo, 1, none⟩ = false := Lib.frozen_of_heap HO6.out 1
  rw [rounds_succ]
  go_wp2
  go_quiet (fail)
  go_wp2
  generalize hW : World.setCell _ _ _ = W7
  have HO7 : Hid (W7.heap[bo]? = some (.cells #[.int .i64 c0, .int .i64 c1, .int .i64 x2, .int .i64 x3, .int .i64 0, .int .i64 0] 177 (0, 0))) := by show _ = _; rw [← hW]; first | (exact Blk.set_ (show Blk (World.drewN W6 _) bo 177 _ from HO6.out) 1 _) | (rw [e_c1]; exact Blk.set_ (show Blk (World.drewN W6 _) bo 177 _ from HO6.out) 1 _)
  have HA7 : Hid (W7.heap[ba]? = some (.cells #[.int .i64 a0, .int .i64 a1, .int .i64 a2, .int .i64 0, .int .i64 0, .int .i64 0] 177 (0, 0))) := by show _ = _; rw [← hW, Below.heap_setCell _ _ _ _ (show ba ≠ bo from dao)]; exact HA6.out
  have HB7 : Hid (W7.heap[bb]? = some (.cells #[.int .i64 b0, .int .i64 b1, .int .i64 b2, .int .i64 0, .int .i64 0, .int .i64 0] 177 (0, 0))) := by show _ = _; rw [← hW, Below.heap_setCell _ _ _ _ (show bb ≠ bo from dbo)]; exact HB6.out
  have HR7 : Hid (W7.heap[br]? = some (.cells #[.int .i64 0, .int .i64 0, .int .i64 0, .int .i64 0, .int .i64 0, .int .i64 0] 177 (0, 0))) := by show _ = _; rw [← hW, Below.heap_setCell _ _ _ _ (show br ≠ bo from dro)]; exact HR6.out
  have HW7 : Hid (Below w.heap.size w W7) := by show Below _ _ _; rw [← hW]; exact (drewN_below HW6.out _).setCell (p := ⟨bo, 1, none⟩) hlo _
  clear hW ca cb co fo HA6 HB6 HR6 HO6 HW6
  have ca : W7.cell? ⟨ba, 1, none⟩ = some (.int .i64 a1) := by rw [Lib.cell_of_heap HA7.out]; rfl
  have cb : W7.cell? ⟨bb, 1, none⟩ = some (.int .i64 b1) := by rw [Lib.cell_of_heap HB7.out]; rfl
  have co : W7.cell? ⟨bo, 2, none⟩ = some (.int .i64 x2) := by rw [Lib.cell_of_heap HO7.out]; rfl
  have fo : W7.frozen? ⟨bo, 2, none⟩ = false := Lib.frozen_of_heap HO7.out 2
  rw [rounds_succ]
  go_wp2
  go_quiet (fail)
  go_wp2
  generalize hW : World.setCell _ _ _ = W8
  have HO8 : Hid (W8.heap[bo]? = some (.cells #[.int .i64 c0, .int .i64 c1, .int .i64 y2, .int .i64 x3, .int .i64 0, .int .i64 0] 177 (0, 0))) := by show _ = _; rw [← hW]; first | (exact Blk.set_ (show Blk (World.drewN W7 _) bo 177 _ from HO7.out) 2 _) | (rw [e_y2]; exact Blk.set_ (show Blk (World.drewN W7 _) bo 177 _ from HO7.out) 2 _)
  have HA8 : Hid (W8.heap[ba]? = some (.cells #[.int .i64 a0, .int .i64 a1, .int .i64 a2, .int .i64 0, .int .i64 0, .int .i64 0] 177 (0, 0))) := by show _ = _; rw [← hW, Below.heap_setCell _ _ _ _ (show ba ≠ bo from dao)]; exact HA7.out
  have HB8 : Hid (W8.heap[bb]? = some (.cells #[.int .i64 b0, .int .i64 b1, .int .i64 b2, .int .i64 0, .int .i64 0, .int .i64 0] 177 (0, 0))) := by show _ = _; rw [← hW, Below.heap_setCell _ _ _ _ (show bb ≠ bo from dbo)]; exact HB7.out
  have HR8 : Hid (W8.heap[br]? = some (.cells #[.int .i64 0, .int .i64 0, .int .i64 0, .int .i64 0, .int .i64 0, .int .i64 0] 177 (0, 0))) := by show _ = _; rw [← hW, Below.heap_setCell _ _ _ _ (show br ≠ bo from dro)]; exact HR7.out
  have HW8 : Hid (Below w.heap.size w W8) := by show Below _ _ _; rw [← hW]; exact (drewN_below HW7.out _).setCell (p := ⟨bo, 2, none⟩) hlo _
  clear hW ca cb co fo HA7 HB7 HR7 HO7 HW7
  have ca : W8.cell? ⟨ba, 1, none⟩ = some (.int .i64 a1) := by rw [Lib.cell_of_heap HA8.out]; rfl
  have cb : W8.cell? ⟨bb, 2, none⟩ = some (.int .i64 b2) := by rw [Lib.cell_of_heap HB8.out]; rfl
  have co : W8.cell? ⟨bo, 3, none⟩ = some (.int .i64 x3) := by rw [Lib.cell_of_heap HO8.out]; rfl
  have fo : W8.frozen? ⟨bo, 3, none⟩ = false := Lib.frozen_of_heap HO8.out 3
  rw [rounds_succ]
  go_wp2
  go_quiet (fail)
  go_wp2
  generalize hW : World.setCell _ _ _ = W9
  have HO9 : Hid (W9.heap[bo]? = some (.cells #[.int .i64 c0, .int .i64 c1, .int .i64 y2, .int .i64 y3, .int .i64 0, .int .i64 0] 177 (0, 0))) := by show _ = _; rw [← hW]; first | (exact Blk.set_ (show Blk (World.drewN W8 _) bo 177 _ from HO8.out) 3 _) | (rw [e_y3]; exact Blk.set_ (show Blk (World.drewN W8 _) bo 177 _ from HO8.out) 3 _)
  have HA9 : Hid (W9.heap[ba]? = some (.cells #[.int .i64 a0, .int .i64 a1, .int .i64 a2, .int .i64 0, .int .i64 0, .int .i64 0] 177 (0, 0))) := by show _ = _; rw [← hW, Below.heap_setCell _ _ _ _ (show ba ≠ bo from dao)]; exact HA8.out
  have HB9 : Hid (W9.heap[bb]? = some (.cells #[.int .i64 b0, .int .i64 b1, .int .i64 b2, .int .i64 0, .int .i64 0, .int .i64 0] 177 (0, 0))) := by show _ = _; rw [← hW, Below.heap_setCell _ _ _ _ (show bb ≠ bo from dbo)]; exact HB8.out
  have HR9 : Hid (W9.heap[br]? = some (.cells #[.int .i64 0, .int .i64 0, .int .i64 0, .int .i64 0, .int .i64 0, .int .i64 0] 177 (0, 0))) := by show _ = _; rw [← hW, Below.heap_setCell _ _ _ _ (show br ≠ bo from dro)]; exact HR8.out
  have HW9 : Hid (Below w.heap.size w W9) := by show Below _ _ _; rw [← hW]; exact (drewN_below HW8.out _).setCell (p := ⟨bo, 3, none⟩) hlo _
  clear hW ca cb co fo HA8 HB8 HR8 HO8 HW8
  have ca : W9.cell? ⟨ba, 1, none⟩ = some (.int .i64 a1) := by rw [Lib.cell_of_heap HA9.out]; rfl
  have cb : W9.cell? ⟨bb, 3, none⟩ = some (.int .i64 0) := by rw [Lib.cell_of_heap HB9.out]; rfl
  have co : W9.cell? ⟨bo, 4, none⟩ = some (.int .i64 0) := by rw [Lib.cell_of_heap HO9.out]; rfl
  have fo : W9.frozen? ⟨bo, 4, none⟩ = false := Lib.frozen_of_heap HO9.out 4
  rw [rounds_succ]
  go_wp2
  go_quiet (fail)
  go_wp2
  generalize hW : World.setCell _ _ _ = W10
  have HO10 : Hid (W10.heap[bo]? = some (.cells #[.int .i64 c0, .int .i64 c1, .int .i64 y2, .int .i64 y3, .int .i64 y4, .int .i64 0] 177 (0, 0))) := by show _ = _; rw [← hW]; first | (exact Blk.set_ (show Blk (World.drewN W9 _) bo 177 _ from HO9.out) 4 _) | (rw [r_y4]; exact Blk.set_ (show Blk (World.drewN W9 _) bo 177 _ from HO9.out) 4 _)
  have HA10 : Hid (W10.heap[ba]? = some (.cells #[.int .i64 a0, .int .i64 a1, .int .i64 a2, .int .i64 0, .int .i64 0, .int .i64 0] 177 (0, 0))) := by show _ = _; rw [← hW, Below.heap_setCell _ _ _ _ (show ba ≠ bo from dao)]; exact HA9.out
  have HB10 : Hid (W10.heap[bb]? = some (.cells #[.int .i64 b0, .int .i64 b1, .int .i64 b2, .int .i64 0, .int .i64 0, .int .i64 0] 177 (0, 0))) := by show _ = _; rw [← hW, Below.heap_setCell _ _ _ _ (show bb ≠ bo from dbo)]; exact HB9.out
  have HR10 : Hid (W10.heap[br]? = some (.cells #[.int .i64 0, .int .i64 0, .int .i64 0, .int .i64 0, .int .i64 0, .int .i64 0] 177 (0, 0))) := by show _ = _; rw [← hW, Below.heap_setCell _ _ _ _ (show br ≠ bo from dro)]; exact HR9.out
  have HW10 : Hid (Below w.heap.size w W10) := by show Below _ _ _; rw [← hW]; exact (drewN_below HW9.out _).setCell (p := ⟨bo, 4, none⟩) hlo _
  clear hW ca cb co fo HA9 HB9 HR9 HO9 HW9
  have ca : W10.cell? ⟨ba, 1, none⟩ = some (.int .i64 a1) := by rw [Lib.cell_of_heap HA10.out]; rfl
  have cb : W10.cell? ⟨bb, 4, none⟩ = some (.int .i64 0) := by rw [Lib.cell_of_heap HB10.out]; rfl
  have co : W10.cell? ⟨bo, 5, none⟩ = some (.int .i64 0) := by rw [Lib.cell_of_heap HO10.out]; rfl
  have fo : W10.frozen? ⟨bo, 5, none⟩ = false := Lib.frozen_of_heap HO10.out 5
  rw [rounds_succ]
  go_wp2
  go_quiet (fail)
  go_wp2
  generalize hW : World.setCell _ _ _ = W11
  have HO11 : Hid (W11.heap[bo]? = some (.cells #[.int .i64 c0, .int .i64 c1, .int .i64 y2, .int .i64 y3, .int .i64 y4, .int .i64 0] 177 (0, 0))) := by show _ = _; rw [← hW]; exact Blk.set_ (show Blk (World.drewN W10 _) bo 177 _ from HO10.out) 5 _
  have HA11 : Hid (W11.heap[ba]? = some (.cells #[.int .i64 a0, .int .i64 a1, .int .i64 a2, .int .i64 0, .int .i64 0, .int .i64 0] 177 (0, 0))) := by show _ = _; rw [← hW, Below.heap_setCell _ _ _ _ (show ba ≠ bo from dao)]; exact HA10.out
  have HB11 : Hid (W11.heap[bb]? = some (.cells #[.int .i64 b0, .int .i64 b1, .int .i64 b2, .int .i64 0, .int .i64 0, .int .i64 0] 177 (0, 0))) := by show _ = _; rw [← hW, Below.heap_setCell _ _ _ _ (show bb ≠ bo from dbo)]; exact HB10.out
  have HR11 : Hid (W11.heap[br]? = some (.cells #[.int .i64 0, .int .i64 0, .int .i64 0, .int .i64 0, .int .i64 0, .int .i64 0] 177 (0, 0))) := by show _ = _; rw [← hW, Below.heap_setCell _ _ _ _ (show br ≠ bo from dro)]; exact HR10.out
  have HW11 : Hid (Below w.heap.size w W11) := by show Below _ _ _; rw [← hW]; exact (drewN_below HW10.out _).setCell (p := ⟨bo, 5, none⟩) hlo _
  clear hW ca cb co fo HA10 HB10 HR10 HO10 HW10
  rw [rounds_succ]
  go_wp2
  rw [rounds_succ]
  go_wp2
  refine wp_loop_rounds 5 ?_
  have ca : W11.cell? ⟨ba, 2, none⟩ = some (.int .i64 a2) := by rw [Lib.cell_of_heap HA11.out]; rfl
  have cb : W11.cell? ⟨bb, 0, none⟩ = some (.int .i64 b0) := by rw [Lib.cell_of_heap HB11.out]; rfl
  have co : W11.cell? ⟨bo, 2, none⟩ = some (.int .i64 y2) := by rw [Lib.cell_of_heap HO11.out]; rfl
  have fo : W11.frozen? ⟨bo, 2, none⟩ = false := Lib.frozen_of_heap HO11.out 2
  rw [rounds_succ]
  go_wp2
  go_quiet (fail)
  go_wp2
  generalize hW : World.setCell _ _ _ = W12
  have HO12 : Hid (W12.heap[bo]? = some (.cells #[.int .i64 c0, .int .i64 c1, .int .i64 c2, .int .i64 y3, .int .i64 y4, .int .i64 0] 177 (0, 0))) := by show _ = _; rw [← hW]; first | (exact Blk.set_ (show Blk (World.drewN W11 _) bo 177 _ from HO11.out) 2 _) | (rw [e_c2]; exact Blk.set_ (show Blk (World.drewN W11 _) bo 177 _ from HO11.out) 2 _)
  have HA12 : Hid (W12.heap[ba]? = some (.cells #[.int .i64 a0, .int .i64 a1, .int .i64 a2, .int .i64 0, .int .i64 0, .int .i64 0] 177 (0, 0))) := by show _ = _; rw [← hW, Below.heap_setCell _ _ _ _ (show ba ≠ bo from dao)]; exact HA11.out
  have HB12 : Hid (W12.heap[bb]? = some (.cells #[.int .i64 b0, .int .i64 b1, .int .i64 b2, .int .i64 0, .int .i64 0, .int .i64 0] 177 (0, 0))) := by show _ = _; rw [← hW, Below.heap_setCell _ _ _ _ (show bb ≠ bo from dbo)]; exact HB11.out
  have HR12 : Hid (W12.heap[br]? = some (.cells #[.int .i64 0, .int .i64 0, .int .i64 0, .int .i64 0, .int .i64 0, .int .i64 0] 177 (0, 0))) := by show _ = _; rw [← hW, Below.heap_setCell _ _ _ _ (show br ≠ bo from dro)]; exact HR11.out
  have HW12 : Hid (Below w.heap.size w W12) := by show Below _ _ _; rw [← hW]; exact (drewN_below HW11.out _).setCell (p := ⟨bo, 2, none⟩) hlo _
  clear hW ca cb co fo HA11 HB11 HR11 HO11 HW11
  have ca : W12.cell? ⟨ba, 2, none⟩ = some (.int .i64 a2) := by rw [Lib.cell_of_heap HA12.out]; rfl
  have cb : W12.cell? ⟨bb, 1, none⟩ = some (.int .i64 b1) := by rw [Lib.cell_of_heap HB12.out]; rfl
  have co : W12.cell? ⟨bo, 3, none⟩ = some (.int .i64 y3) := by rw [Lib.cell_of_heap HO12.out]; rfl
  have fo : W12.frozen? ⟨bo, 3, none⟩ = false := Lib.frozen_of_heap HO12.out 3
  rw [rounds_succ]
  go_wp2
  go_quiet (fail)
  go_wp2
  generalize hW : World.setCell _ _ _ = W13
  have HO13 : Hid (W13.heap[bo]? = some (.cells #[.int .i64 c0, .int .i64 c1, .int .i64 c2, .int .i64 c3, .int .i64 y4, .int .i64 0] 177 (0, 0))) := by show _ = _; rw [← hW]; first | (exact Blk.set_ (show Blk (World.drewN W12 _) bo 177 _ from HO12.out) 3 _) | (rw [e_c3]; exact Blk.set_ (show Blk (World.drewN W12 _) bo 177 _ from HO12.out) 3 _)
  have HA13 : Hid (W13.heap[ba]? = some (.cells #[.int .i64 a0, .int .i64 a1, .int .i64 a2, .int .i64 0, .int .i64 0, .int .i64 0] 177 (0, 0))) := by show _ = _; rw [← hW, Below.heap_setCell _ _ _ _ (show ba ≠ bo from dao)]; exact HA12.out
  have HB13 : Hid (W13.heap[bb]? = some (.cells #[.int .i64 b0, .int .i64 b1, .int .i64 b2, .int .i64 0, .int .i64 0, .int .i64 0] 177 (0, 0))) := by show _ = _; rw [← hW, Below.heap_setCell _ _ _ _ (show bb ≠ bo from dbo)]; exact HB12.out
  have HR13 : Hid (W13.heap[br]? = some (.cells #[.int .i64 0, .int .i64 0, .int .i64 0, .int .i64 0, .int .i64 0, .int .i64 0] 177 (0, 0))) := by show _ = _; rw [← hW, Below.heap_setCell _ _ _ _ (show br ≠ bo from dro)]; exact HR12.out
  have HW13 : Hid (Below w.heap.size w W13) := by show Below _ _ _; rw [← hW]; exact (drewN_below HW12.out _).setCell (p := ⟨bo, 3, none⟩) hlo _
  clear hW ca cb co fo HA12 HB12 HR12 HO12 HW12
  have ca : W13.cell? ⟨ba, 2, none⟩ = some (.int .i64 a2) := by rw [Lib.cell_of_heap HA13.out]; rfl
  have cb : W13.cell? ⟨bb, 2, none⟩ = some (.int .i64 b2) := by rw [Lib.cell_of_heap HB13.out]; rfl
  have co : W13.cell? ⟨bo, 4, none⟩ = some (.int .i64 y4) := by rw [Lib.cell_of_heap HO13.out]; rfl
  have fo : W13.frozen? ⟨bo, 4, none⟩ = false := Lib.frozen_of_heap HO13.out 4
  rw [rounds_succ]
  go_wp2
  go_quiet (fail)
  go_wp2
  generalize hW : World.setCell _ _ _ = W14
  have HO14 : Hid (W14.heap[bo]? = some (.cells #[.int .i64 c0, .int .i64 c1, .int .i64 c2, .int .i64 c3, .int .i64 c4, .int .i64 0] 177 (0, 0))) := by show _ = _; rw [← hW]; first | (exact Blk.set_ (show Blk (World.drewN W13 _) bo 177 _ from HO13.out) 4 _) | (rw [e_c4]; exact Blk.set_ (show Blk (World.drewN W13 _) bo 177 _ from HO13.out) 4 _)
  have HA14 : Hid (W14.heap[ba]? = some (.cells #[.int .i64 a0, .int .i64 a1, .int .i64 a2, .int .i64 0, .int .i64 0, .int .i64 0] 177 (0, 0))) := by show _ = _; rw [← hW, Below.heap_setCell _ _ _ _ (show ba ≠ bo from dao)]; exact HA13.out
  have HB14 : Hid (W14.heap[bb]? = some (.cells #[.int .i64 b0, .int .i64 b1, .int .i64 b2, .int .i64 0, .int .i64 0, .int .i64 0] 177 (0, 0))) := by show _ = _; rw [← hW, Below.heap_setCell _ _ _ _ (show bb ≠ bo from dbo)]; exact HB13.out
  have HR14 : Hid (W14.heap[br]? = some (.cells #[.int .i64 0, .int .i64 0, .int .i64 0, .int .i64 0, .int .i64 0, .int .i64 0] 177 (0, 0))) := by show _ = _; rw [← hW, Below.heap_setCell _ _ _ _ (show br ≠ bo from dro)]; exact HR13.out
  have HW14 : Hid (Below w.heap.size w W14) := by show Below _ _ _; rw [← hW]; exact (drewN_below HW13.out _).setCell (p := ⟨bo, 4, none⟩) hlo _
  clear hW ca cb co fo HA13 HB13 HR13 HO13 HW13
  have ca : W14.cell? ⟨ba, 2, none⟩ = some (.int .i64 a2) := by rw [Lib.cell_of_heap HA14.out]; rfl
  have cb : W14.cell? ⟨bb, 3, none⟩ = some (.int .i64 0) := by rw [Lib.cell_of_heap HB14.out]; rfl
  have co : W14.cell? ⟨bo, 5, none⟩ = some (.int .i64 0) := by rw [Lib.cell_of_heap HO14.out]; rfl
  have fo : W14.frozen? ⟨bo, 5, none⟩ = false := Lib.frozen_of_heap HO14.out 5
  rw [rounds_succ]
  go_wp2
  go_quiet (fail)
  go_wp2
  generalize hW : World.setCell _ _ _ = W15
  have HO15 : Hid (W15.heap[bo]? = some (.cells #[.int .i64 c0, .int .i64 c1, .int .i64 c2, .int .i64 c3, .int .i64 c4, .int .i64 c5] 177 (0, 0))) := by show _ = _; rw [← hW]; first | (exact Blk.set_ (show Blk (World.drewN W14 _) bo 177 _ from HO14.out) 5 _) | (rw [r_c5]; exact Blk.set_ (show Blk (World.drewN W14 _) bo 177 _ from HO14.out) 5 _)
  have HA15 : Hid (W15.heap[ba]? = some (.cells #[.int .i64 a0, .int .i64 a1, .int .i64 a2, .int .i64 0, .int .i64 0, .int .i64 0] 177 (0, 0))) := by show _ = _; rw [← hW, Below.heap_setCell _ _ _ _ (show ba ≠ bo from dao)]; exact HA14.out
  have HB15 : Hid (W15.heap[bb]? = some (.cells #[.int .i64 b0, .int .i64 b1, .int .i64 b2, .int .i64 0, .int .i64 0, .int .i64 0] 177 (0, 0))) := by show _ = _; rw [← hW, Below.heap_setCell _ _ _ _ (show bb ≠ bo from dbo)]; exact HB14.out
  have HR15 : Hid (W15.heap[br]? = some (.cells #[.int .i64 0, .int .i64 0, .int .i64 0, .int .i64 0, .int .i64 0, .int .i64 0] 177 (0, 0))) := by show _ = _; rw [← hW, Below.heap_setCell _ _ _ _ (show br ≠ bo from dro)]; exact HR14.out
  have HW15 : Hid (Below w.heap.size w W15) := by show Below _ _ _; rw [← hW]; exact (drewN_below HW14.out _).setCell (p := ⟨bo, 5, none⟩) hlo _
  clear hW ca cb co fo HA14 HB14 HR14 HO14 HW14
  rw [rounds_succ]
  go_wp2
  rw [rounds_succ]
  go_wp2
  refine wp_loop_rounds 4 ?_
  have ca : W15.cell? ⟨ba, 3, none⟩ = some (.int .i64 0) := by rw [Lib.cell_of_heap HA15.out]; rfl
  have cb : W15.cell? ⟨bb, 0, none⟩ = some (.int .i64 b0) := by rw [Lib.cell_of_heap HB15.out]; rfl
  have co : W15.cell? ⟨bo, 3, none⟩ = some (.int .i64 c3) := by rw [Lib.cell_of_heap HO15.out]; rfl
  have fo : W15.frozen? ⟨bo, 3, none⟩ = false := Lib.frozen_of_heap HO15.out 3
  rw [rounds_succ]
  go_wp2
  go_quiet (fail)
  go_wp2
  generalize hW : World.setCell _ _ _ = W16
  have HO16 : Hid (W16.heap[bo]? = some (.cells #[.int .i64 c0, .int .i64 c1, .int .i64 c2, .int .i64 c3, .int .i64 c4, .int .i64 c5] 177 (0, 0))) := by show _ = _; rw [← hW]; first | (exact Blk.set_ (show Blk (World.drewN W15 _) bo 177 _ from HO15.out) 3 _) | (rw [r_c3]; exact Blk.set_ (show Blk (World.drewN W15 _) bo 177 _ from HO15.out) 3 _)
  have HA16 : Hid (W16.heap[ba]? = some (.cells #[.int .i64 a0, .int .i64 a1, .int .i64 a2, .int .i64 0, .int .i64 0, .int .i64 0] 177 (0, 0))) := by show _ = _; rw [← hW, Below.heap_setCell _ _ _ _ (show ba ≠ bo from dao)]; exact HA15.out
  have HB16 : Hid (W16.heap[bb]? = some (.cells #[.int .i64 b0, .int .i64 b1, .int .i64 b2, .int .i64 0, .int .i64 0, .int .i64 0] 177 (0, 0))) := by show _ = _; rw [← hW, Below.heap_setCell _ _ _ _ (show bb ≠ bo from dbo)]; exact HB15.out
  have HR16 : Hid (W16.heap[br]? = some (.cells #[.int .i64 0, .int .i64 0, .int .i64 0, .int .i64 0, .int .i64 0, .int .i64 0] 177 (0, 0))) := by show _ = _; rw [← hW, Below.heap_setCell _ _ _ _ (show br ≠ bo from dro)]; exact HR15.out
  have HW16 : Hid (Below w.heap.size w W16) := by show Below _ _ _; rw [← hW]; exact (drewN_below HW15.out _).setCell (p := ⟨bo, 3, none⟩) hlo _
  clear hW ca cb co fo HA15 HB15 HR15 HO15 HW15
  have ca : W16.cell? ⟨ba, 3, none⟩ = some (.int .i64 0) := by rw [Lib.cell_of_heap HA16.out]; rfl
  have cb : W16.cell? ⟨bb, 1, none⟩ = some (.int .i64 b1) := by rw [Lib.cell_of_heap HB16.out]; rfl
  have co : W16.cell? ⟨bo, 4, none⟩ = some (.int .i64 c4) := by rw [Lib.cell_of_heap HO16.out]; rfl
  have fo : W16.frozen? ⟨bo, 4, none⟩ = false := Lib.frozen_of_heap HO16.out 4
  rw [rounds_succ]
  go_wp2
  go_quiet (fail)
  go_wp2
  generalize hW : World.setCell _ _ _ = W17
  have HO17 : Hid (W17.heap[bo]? = some (.cells #[.int .i64 c0, .int .i64 c1, .int .i64 c2, .int .i64 c3, .int .i64 c4, .int .i64 c5] 177 (0, 0))) := by show _ = _; rw [← hW]; first | (exact Blk.set_ (show Blk (World.drewN W16 _) bo 177 _ from HO16.out) 4 _) | (rw [r_c4]; exact Blk.set_ (show Blk (World.drewN W16 _) bo 177 _ from HO16.out) 4 _)
  have HA17 : Hid (W17.heap[ba]? = some (.cells #[.int .i64 a0, .int .i64 a1, .int .i64 a2, .int .i64 0, .int .i64 0, .int .i64 0] 177 (0, 0))) := by show _ = _; rw [← hW, Below.heap_setCell _ _ _ _ (show ba ≠ bo from dao)]; exact HA16.out
  have HB17 : Hid (W17.heap[bb]? = some (.cells #[.int .i64 b0, .int .i64 b1, .int .i64 b2, .int .i64 0, .int .i64 0, .int .i64 0] 177 (0, 0))) := by show _ = _; rw [← hW, Below.heap_setCell _ _ _ _ (show bb ≠ bo from dbo)]; exact HB16.out
  have HR17 : Hid (W17.heap[br]? = some (.cells #[.int .i64 0, .int .i64 0, .int .i64 0, .int .i64 0, .int .i64 0, .int .i64 0] 177 (0, 0))) := by show _ = _; rw [← hW, Below.heap_setCell _ _ _ _ (show br ≠ bo from dro)]; exact HR16.out
  have HW17 : Hid (Below w.heap.size w W17) := by show Below _ _ _; rw [← hW]; exact (drewN_below HW16.out _).setCell (p := ⟨bo, 4, none⟩) hlo _
  clear hW ca cb co fo HA16 HB16 HR16 HO16 HW16
  have ca : W17.cell? ⟨ba, 3, none⟩ = some (.int .i64 0) := by rw [Lib.cell_of_heap HA17.out]; rfl
  have cb : W17.cell? ⟨bb, 2, none⟩ = some (.int .i64 b2) := by rw [Lib.cell_of_heap HB17.out]; rfl
  have co : W17.cell? ⟨bo, 5, none⟩ = some (.int .i64 c5) := by rw [Lib.cell_of_heap HO17.out]; rfl
  have fo : W17.frozen? ⟨bo, 5, none⟩ = false := Lib.frozen_of_heap HO17.out 5
  rw [rounds_succ]
  go_wp2
  go_quiet (fail)
  go_wp2
  generalize hW : World.setCell _ _ _ = W18
  have HO18 : Hid (W18.heap[bo]? = some (.cells #[.int .i64 c0, .int .i64 c1, .int .i64 c2, .int .i64 c3, .int .i64 c4, .int .i64 c5] 177 (0, 0))) := by show _ = _; rw [← hW]; first | (exact Blk.set_ (show Blk (World.drewN W17 _) bo 177 _ from HO17.out) 5 _) | (rw [r_c5]; exact Blk.set_ (show Blk (World.drewN W17 _) bo 177 _ from HO17.out) 5 _)
  have HA18 : Hid (W18.heap[ba]? = some (.cells #[.int .i64 a0, .int .i64 a1, .int .i64 a2, .int .i64 0, .int .i64 0, .int .i64 0] 177 (0, 0))) := by show _ = _; rw [← hW, Below.heap_setCell _ _ _ _ (show ba ≠ bo from dao)]; exact HA17.out
  have HB18 : Hid (W18.heap[bb]? = some (.cells #[.int .i64 b0, .int .i64 b1, .int .i64 b2, .int .i64 0, .int .i64 0, .int .i64 0] 177 (0, 0))) := by show _ = _; rw [← hW, Below.heap_setCell _ _ _ _ (show bb ≠ bo from dbo)]; exact HB17.out
  have HR18 : Hid (W18.heap[br]? = some (.cells #[.int .i64 0, .int .i64 0, .int .i64 0, .int .i64 0, .int .i64 0, .int .i64 0] 177 (0, 0))) := by show _ = _; rw [← hW, Below.heap_setCell _ _ _ _ (show br ≠ bo from dro)]; exact HR17.out
  have HW18 : Hid (Below w.heap.size w W18) := by show Below _ _ _; rw [← hW]; exact (drewN_below HW17.out _).setCell (p := ⟨bo, 5, none⟩) hlo _
  clear hW ca cb co fo HA17 HB17 HR17 HO17 HW17
  rw [rounds_succ]
  go_wp2
  rw [rounds_succ]
  go_wp2
  refine wp_loop_rounds 3 ?_
  have ca : W18.cell? ⟨ba, 4, none⟩ = some (.int .i64 0) := by rw [Lib.cell_of_heap HA18.out]; rfl
  have cb : W18.cell? ⟨bb, 0, none⟩ = some (.int .i64 b0) := by rw [Lib.cell_of_heap HB18.out]; rfl
  have co : W18.cell? ⟨bo, 4, none⟩ = some (.int .i64 c4) := by rw [Lib.cell_of_heap HO18.out]; rfl
  have fo : W18.frozen? ⟨bo, 4, none⟩ = false := Lib.frozen_of_heap HO18.out 4
  rw [rounds_succ]
  go_wp2
  go_quiet (fail)
  go_wp2
  generalize hW : World.setCell _ _ _ = W19
  have HO19 : Hid (W19.heap[bo]? = some (.cells #[.int .i64 c0, .int .i64 c1, .int .i64 c2, .int .i64 c3, .int .i64 c4, .int .i64 c5] 177 (0, 0))) := by show _ = _; rw [← hW]; first | (exact Blk.set_ (show Blk (World.drewN W18 _) bo 177 _ from HO18.out) 4 _) | (rw [r_c4]; exact Blk.set_ (show Blk (World.drewN W18 _) bo 177 _ from HO18.out) 4 _)
  have HA19 : Hid (W19.heap[ba]? = some (.cells #[.int .i64 a0, .int .i64 a1, .int .i64 a2, .int .i64 0, .int .i64 0, .int .i64 0] 177 (0, 0))) := by show _ = _; rw [← hW, Below.heap_setCell _ _ _ _ (show ba ≠ bo from dao)]; exact HA18.out
  have HB19 : Hid (W19.heap[bb]? = some (.cells #[.int .i64 b0, .int .i64 b1, .int .i64 b2, .int .i64 0, .int .i64 0, .int .i64 0] 177 (0, 0))) := by show _ = _; rw [← hW, Below.heap_setCell _ _ _ _ (show bb ≠ bo from dbo)]; exact HB18.out
  have HR19 : Hid (W19.heap[br]? = some (.cells #[.int .i64 0, .int .i64 0, .int .i64 0, .int .i64 0, .int .i64 0, .int .i64 0] 177 (0, 0))) := by show _ = _; rw [← hW, Below.heap_setCell _ _ _ _ (show br ≠ bo from dro)]; exact HR18.out
  have HW19 : Hid (Below w.heap.size w W19) := by show Below _ _ _; rw [← hW]; exact (drewN_below HW18.out _).setCell (p := ⟨bo, 4, none⟩) hlo _
  clear hW ca cb co fo HA18 HB18 HR18 HO18 HW18
  have ca : W19.cell? ⟨ba, 4, none⟩ = some (.int .i64 0) := by rw [Lib.cell_of_heap HA19.out]; rfl
  have cb : W19.cell? ⟨bb, 1, none⟩ = some (.int .i64 b1) := by rw [Lib.cell_of_heap HB19.out]; rfl
  have co : W19.cell? ⟨bo, 5, none⟩ = some (.int .i64 c5) := by rw [Lib.cell_of_heap HO19.out]; rfl
  have fo : W19.frozen? ⟨bo, 5, none⟩ = false := Lib.frozen_of_heap HO19.out 5
  rw [rounds_succ]
  go_wp2
  go_quiet (fail)
  go_wp2
  generalize hW : World.setCell _ _ _ = W20
  have HO20 : Hid (W20.heap[bo]? = some (.cells #[.int .i64 c0, .int .i64 c1, .int .i64 c2, .int .i64 c3, .int .i64 c4, .int .i64 c5] 177 (0, 0))) := by show _ = _; rw [← hW]; first | (exact Blk.set_ (show Blk (World.drewN W19 _) bo 177 _ from HO19.out) 5 _) | (rw [r_c5]; exact Blk.set_ (show Blk (World.drewN W19 _) bo 177 _ from HO19.out) 5 _)
  have HA20 : Hid (W20.heap[ba]? = some (.cells #[.int .i64 a0, .int .i64 a1, .int .i64 a2, .int .i64 0, .int .i64 0, .int .i64 0] 177 (0, 0))) := by show _ = _; rw [← hW, Below.heap_setCell _ _ _ _ (show ba ≠ bo from dao)]; exact HA19.out
  have HB20 : Hid (W20.heap[bb]? = some (.cells #[.int .i64 b0, .int .i64 b1, .int .i64 b2, .int .i64 0, .int .i64 0, .int .i64 0] 177 (0, 0))) := by show _ = _; rw [← hW, Below.heap_setCell _ _ _ _ (show bb ≠ bo from dbo)]; exact HB19.out
  have HR20 : Hid (W20.heap[br]? = some (.cells #[.int .i64 0, .int .i64 0, .int .i64 0, .int .i64 0, .int .i64 0, .int .i64 0] 177 (0, 0))) := by show _ = _; rw [← hW, Below.heap_setCell _ _ _ _ (show br ≠ bo from dro)]; exact HR19.out
  have HW20 : Hid (Below w.heap.size w W20) := by show Below _ _ _; rw [← hW]; exact (drewN_below HW19.out _).setCell (p := ⟨bo, 5, none⟩) hlo _
  clear hW ca cb co fo HA19 HB19 HR19 HO19 HW19
  rw [rounds_succ]
  go_wp2
  rw [rounds_succ]
  go_wp2
  refine wp_loop_rounds 2 ?_
  have ca : W20.cell? ⟨ba, 5, none⟩ = some (.int .i64 0) := by rw [Lib.cell_of_heap HA20.out]; rfl
  have cb : W20.cell? ⟨bb, 0, none⟩ = some (.int .i64 b0) := by rw [Lib.cell_of_heap HB20.out]; rfl
  have co : W20.cell? ⟨bo, 5, none⟩ = some (.int .i64 c5) := by rw [Lib.cell_of_heap HO20.out]; rfl
  have fo : W20.frozen? ⟨bo, 5, none⟩ = false := Lib.frozen_of_heap HO20.out 5
  rw [rounds_succ]
  go_wp2
  go_quiet (fail)
  go_wp2
  generalize hW : World.setCell _ _ _ = W21
  have HO21 : Hid (W21.heap[bo]? = some (.cells #[.int .i64 c0, .int .i64 c1, .int .i64 c2, .int .i64 c3, .int .i64 c4, .int .i64 c5] 177 (0, 0))) := by show _ = _; rw [← hW]; first | (exact Blk.set_ (show Blk (World.drewN W20 _) bo 177 _ from HO20.out) 5 _) | (rw [r_c5]; exact Blk.set_ (show Blk (World.drewN W20 _) bo 177 _ from HO20.out) 5 _)
  have HA21 : Hid (W21.heap[ba]? = some (.cells #[.int .i64 a0, .int .i64 a1, .int .i64 a2, .int .i64 0, .int .i64 0, .int .i64 0] 177 (0, 0))) := by show _ = _; rw [← hW, Below.heap_setCell _ _ _ _ (show ba ≠ bo from dao)]; exact HA20.out
  have HB21 : Hid (W21.heap[bb]? = some (.cells #[.int .i64 b0, .int .i64 b1, .int .i64 b2, .int .i64 0, .int .i64 0, .int .i64 0] 177 (0, 0))) := by show _ = _; rw [← hW, Below.heap_setCell _ _ _ _ (show bb ≠ bo from dbo)]; exact HB20.out
  have HR21 : Hid (W21.heap[br]? = some (.cells #[.int .i64 0, .int .i64 0, .int .i64 0, .int .i64 0, .int .i64 0, .int .i64 0] 177 (0, 0))) := by show _ = _; rw [← hW, Below.heap_setCell _ _ _ _ (show br ≠ bo from dro)]; exact HR20.out
  have HW21 : Hid (Below w.heap.size w W21) := by show Below _ _ _; rw [← hW]; exact (drewN_below HW20.out _).setCell (p := ⟨bo, 5, none⟩) hlo _
  clear hW ca cb co fo HA20 HB20 HR20 HO20 HW20
  rw [rounds_succ]
  go_wp2
  rw [rounds_succ]
  go_wp2_with (first
    | (refine wpList_load_named rfl 177 _ rfl bo rfl _ _ _ HO21.out Try.underlying177 rfl size_big _ rfl ?_)
    | (refine wpList_store_row rfl 177 _ _ rfl br _ rfl rfl _ _ HR21.out size_big rfl (by simp [Value.oneCell']) ?_))
  have hk := setRow_heap W21 br _ #[.int .i64 c0, .int .i64 c1, .int .i64 c2, .int .i64 c3, .int .i64 c4, .int .i64 c5] _ _ HR21.out
  refine bodyPost_ret (results_cell_row rfl _ _ br _ _ _ _ rfl hk Try.underlying177 rfl size_big) rfl ?_
  exact ⟨c0, c1, c2, c3, c4, c5, rfl, HFIN.out, below_setRow HW21.out hlr _⟩
end Go.Proofs.Ytkcecijepbceiaa
