/-
  The document's great numbers: the greatest number of which the product is at most so much.
  Conditions: numbers from 0 on.
-/
import Derived.Test.YtkcecijepbceiaaBigCmp
import Derived.Deep.RegionHeld3
namespace Go.Proofs.Ytkcecijepbceiaa
open Go.RowKit

theorem most_mid {lo hi : Int} (h0 : 0 ≤ lo) (h : lo < hi) (h1 : hi ≤ 1152921504606846977) : ∃ df hf q rm mid : Int, hi - lo = df ∧ df / 2 = hf ∧ lo + hf = q ∧ df % 2 = rm ∧ q + rm = mid ∧ 0 ≤ df ∧ df ≤ 1152921504606846977 ∧ 0 ≤ hf ∧ hf ≤ 1152921504606846977 ∧ 0 ≤ q ∧ q ≤ 1152921504606846977 ∧ 0 ≤ rm ∧ rm ≤ 1 ∧ lo < mid ∧ mid ≤ hi :=
  ⟨_, _, _, _, _, rfl, rfl, rfl, rfl, rfl, by omega, by omega, by omega, by omega, by omega, by omega, by omega, by omega, by omega, by omega⟩
/-- What stands in the two blocks. -/
theorem big_cells {w : World} {b3 b4 : Nat} {x0 x1 x2 x3 x4 x5 c0 c1 c2 : Int} (h3 : w.heap[b3]? = some (.cells #[.int .i64 x0, .int .i64 x1, .int .i64 x2, .int .i64 x3, .int .i64 x4, .int .i64 x5] 177 (0, 0))) (h4 : w.heap[b4]? = some (.cells #[.int .i64 c0, .int .i64 c1, .int .i64 c2, .int .i64 0, .int .i64 0, .int .i64 0] 177 (0, 0))) :
    w.cell? ⟨b3, 0, none⟩ = some (.int .i64 x0) ∧ w.cell? ⟨b3, 1, none⟩ = some (.int .i64 x1) ∧ w.cell? ⟨b3, 2, none⟩ = some (.int .i64 x2) ∧ w.cell? ⟨b3, 3, none⟩ = some (.int .i64 x3) ∧ w.cell? ⟨b3, 4, none⟩ = some (.int .i64 x4) ∧ w.cell? ⟨b3, 5, none⟩ = some (.int .i64 x5) ∧ w.cell? ⟨b4, 0, none⟩ = some (.int .i64 c0) ∧ w.cell? ⟨b4, 1, none⟩ = some (.int .i64 c1) ∧ w.cell? ⟨b4, 2, none⟩ = some (.int .i64 c2) ∧ w.cell? ⟨b4, 3, none⟩ = some (.int .i64 0) ∧ w.cell? ⟨b4, 4, none⟩ = some (.int .i64 0) ∧ w.cell? ⟨b4, 5, none⟩ = some (.int .i64 0) := by
  refine ⟨?_, ?_, ?_, ?_, ?_, ?_, ?_, ?_, ?_, ?_, ?_, ?_⟩
  all_goals first
    | (rw [Lib.cell_of_heap h3]; rfl)
    | (rw [Lib.cell_of_heap h4]; rfl)
set_option maxHeartbeats 40000000 in
set_option maxRecDepth 100000 in
theorem most_any (x cc x0 x1 x2 x3 x4 x5 c0 c1 c2 : Int) (hx : Big6 x x0 x1 x2 x3 x4 x5) (hc : Big3 cc c0 c1 c2) (hx0 : 0 ≤ x) (w : World) :
    Calls Try.prog 112 #[.agg #[.int .i64 x0, .int .i64 x1, .int .i64 x2, .int .i64 x3, .int .i64 x4, .int .i64 x5], .agg #[.int .i64 c0, .int .i64 c1, .int .i64 c2, .int .i64 0, .int .i64 0, .int .i64 0], .int .i64 1152921504606846977] w fun e w' =>
      ∃ m : Int, e = .returned (.int .i64 m) ∧ 0 ≤ m ∧ m ≤ 1152921504606846977 ∧ m * cc ≤ x ∧ (m = 1152921504606846977 ∨ x < (m + 1) * cc) ∧ Below w.heap.size w w' := by
  have HX := Lib.hid hx; have HC := Lib.hid hc; have HX0 := Lib.hid hx0
  clear hx hc hx0
  obtain ⟨W0, hW0⟩ : ∃ W0, (w.alloc (.cells #[.int .i64 x0, .int .i64 x1, .int .i64 x2, .int .i64 x3, .int .i64 x4, .int .i64 x5] 177)).alloc (.cells #[.int .i64 c0, .int .i64 c1, .int .i64 c2, .int .i64 0, .int .i64 0, .int .i64 0] 177) = W0 := ⟨_, rfl⟩
  have hA : W0.heap[w.heap.size]? = some (.cells #[.int .i64 x0, .int .i64 x1, .int .i64 x2, .int .i64 x3, .int .i64 x4, .int .i64 x5] 177 (0, 0)) := by rw [← hW0, Below.heap_alloc _ _ _ (by simp)]; exact heap_alloc_new w _
  have hB : W0.heap[w.heap.size + 1]? = some (.cells #[.int .i64 c0, .int .i64 c1, .int .i64 c2, .int .i64 0, .int .i64 0, .int .i64 0] 177 (0, 0)) := by
    rw [← hW0]
    have h := heap_alloc_new (w.alloc (.cells #[.int .i64 x0, .int .i64 x1, .int .i64 x2, .int .i64 x3, .int .i64 x4, .int .i64 x5] 177)) (.cells #[.int .i64 c0, .int .i64 c1, .int .i64 c2, .int .i64 0, .int .i64 0, .int .i64 0] 177)
    rw [World.size_alloc] at h
    exact h
  have HW0 : Hid (Below w.heap.size w W0) := by show Below _ _ _; rw [← hW0]; exact ((Below.refl _ _).alloc (Nat.le_refl _) _).alloc (by simp) _
  have HEQ := Lib.hid hW0
  have HA := Lib.hid hA; have HB := Lib.hid hB
  clear hW0 hA hB
  go_enter Try.func112, Try.ntmps112
  go_wp2
  rw [HEQ.out]
  obtain ⟨bb, hbb⟩ : ∃ b, w.heap.size + 1 = b := ⟨_, rfl⟩
  rw [hbb] at HB ⊢
  obtain ⟨ba, hba⟩ : ∃ b, w.heap.size = b := ⟨_, rfl⟩
  rw [hba] at HA ⊢
  have HBA := Lib.hid hba
  clear HEQ hbb hba
  go_loopw [7, 8] (fun l h wr => ∃ lo hi : Int, l = .int .i64 lo ∧ h = .int .i64 hi ∧ 0 ≤ lo ∧ lo ≤ hi ∧ hi ≤ 1152921504606846977 ∧ Hid (lo * cc ≤ x) ∧ Hid (hi = 1152921504606846977 ∨ x < (hi + 1) * cc) ∧ Hid (Below W0.heap.size W0 wr)) (fun l h _ => (intOf h - intOf l).toNat)
  case atStart => exact ⟨0, 1152921504606846977, rfl, rfl, by decide, by decide, by decide, by show _ ≤ _; rw [Int.zero_mul]; exact HX0.out, .inl rfl, Below.refl _ _⟩
  case round =>
    obtain ⟨lo, hi, rfl, rfl, h0, h1, h2, HL, HH, HV⟩ := hrel
    by_cases hlt : lo < hi
    · obtain ⟨df, hf, q, rm, mid, e1, e2, e3, e4, e5, g1, g2, g3, g4, g5, g6, g7, g8, g9, g10⟩ := most_mid h0 hlt h2
      have KA := Lib.hid ((HV.out.block ba (Blk.lt (t := 177) HA.out)).trans HA.out)
      have KB := Lib.hid ((HV.out.block bb (Blk.lt (t := 177) HB.out)).trans HB.out)
      have S0 := big_cells KA.out KB.out
      have q0 := of_any mid (by omega) (by omega) wr.drew
      have S1 : Hid (∀ V, Below wr.heap.size wr.drew V → V.heap[ba]? = some (.cells #[.int .i64 x0, .int .i64 x1, .int .i64 x2, .int .i64 x3, .int .i64 x4, .int .i64 x5] 177 (0, 0)) ∧ V.heap[bb]? = some (.cells #[.int .i64 c0, .int .i64 c1, .int .i64 c2, .int .i64 0, .int .i64 0, .int .i64 0] 177 (0, 0))) := fun V hb => ⟨(hb.block ba (Blk.lt (t := 177) KA.out)).trans KA.out, (hb.block bb (Blk.lt (t := 177) KB.out)).trans KB.out⟩
      have HM := Lib.hid (show 0 < mid ∧ mid ≤ 1152921504606846977 by omega)
      go_wp2
      go_region_held3 (fun V => V.cell? ⟨ba, 0, none⟩ = some (.int .i64 x0) ∧ V.cell? ⟨ba, 1, none⟩ = some (.int .i64 x1) ∧ V.cell? ⟨ba, 2, none⟩ = some (.int .i64 x2) ∧ V.cell? ⟨ba, 3, none⟩ = some (.int .i64 x3) ∧ V.cell? ⟨ba, 4, none⟩ = some (.int .i64 x4) ∧ V.cell? ⟨ba, 5, none⟩ = some (.int .i64 x5) ∧ V.cell? ⟨bb, 0, none⟩ = some (.int .i64 c0) ∧ V.cell? ⟨bb, 1, none⟩ = some (.int .i64 c1) ∧ V.cell? ⟨bb, 2, none⟩ = some (.int .i64 c2) ∧ V.cell? ⟨bb, 3, none⟩ = some (.int .i64 0) ∧ V.cell? ⟨bb, 4, none⟩ = some (.int .i64 0) ∧ V.cell? ⟨bb, 5, none⟩ = some (.int .i64 0))
        (first | exact S0 | exact big_cells (S1.out _ B7).1 (S1.out _ B7).2 | exact big_cells (S1.out _ B6).1 (S1.out _ B6).2 | exact big_cells (S1.out _ B5).1 (S1.out _ B5).2)
        (first
          | (go_at_call 114; refine q0.mono ?_; rintro e w5 ⟨m0, m1, m2, rfl, hM, B5⟩)
          | (go_at_call 113; refine (mul_any mid cc m0 m1 m2 c0 c1 c2 hM HC.out _).mono ?_; rintro e w6 ⟨p0, p1, p2, p3, p4, p5, rfl, hP, b6⟩; have B6 := B5.trans (b6.mono B5.size))
          | (go_at_call 123; refine (bigcmp_any (mid * cc) x p0 p1 p2 p3 p4 p5 x0 x1 x2 x3 x4 x5 hP HX.out _).mono ?_; rintro e w7 ⟨r, rfl, hr, hr1, hr2, b7⟩; have B7 := B6.trans (b7.mono B6.size)))
      have HB7 := Lib.hid (HV.out.drew.trans (B7.mono HV.out.size))
      clear hr q0 S0 S1 KA KB b6 b7 B5 B6 B7 hM hP e1 e2 e3 e4 e5 g1 g2 g3 g4 g5 g6 g7 g8
      by_cases hr0 : mid * cc ≤ x
      · have HN := Lib.hid hr0
        go_wp2
        go_roundw
        case rel => exact ⟨mid, hi, rfl, rfl, by omega, g10, h2, HN.out, HH.out, HB7.out⟩
        case measure => simp [intOf]; omega
      · have HN : Hid (x < (mid - 1 + 1) * cc) := by
          show _ < _
          rw [Int.sub_add_cancel]
          exact Int.not_le.1 hr0
        go_wp2
        go_roundw
        case rel => exact ⟨lo, mid - 1, rfl, by go_num, h0, by omega, by omega, HL.out, .inr HN.out, HB7.out⟩
        case measure => simp [intOf]; omega
    · obtain rfl : lo = hi := by omega
      go_wp2
      go_ret
      exact ⟨lo, rfl, h0, h2, HL.out, HH.out, HW0.out.trans (HV.out.mono HW0.out.size)⟩
end Go.Proofs.Ytkcecijepbceiaa
