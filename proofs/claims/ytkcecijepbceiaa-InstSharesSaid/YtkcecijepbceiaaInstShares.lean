/-
  The walk of InstShares: of more one owes no less; of all that is left all that is left to be paid.
  Conditions: ints.
-/
import Derived.Test.YtkcecijepbceiaaInstA
namespace Go.Proofs.Ytkcecijepbceiaa
open Go.RowKit

theorem shares_plain {q a d x y : Int} (hq : 0 < q) (ha : 0 ≤ a) (ha2 : a ≤ 1125899906842624) (hd : 0 ≤ d) (hdq : d ≤ q) (hx : 0 ≤ x) (hxy : x ≤ y) (hy : y ≤ q - d) :
    ∃ P U V W : Int, Ow.owE q a 0 0 d = 0 ∧ Ow.owV q a 0 0 d = P ∧ 0 ≤ P ∧ P ≤ 1125899906842624 ∧ Ow.owE q a d P x = 0 ∧ Ow.owV q a d P x = U ∧ Ow.owE q a d P y = 0 ∧ Ow.owV q a d P y = V ∧ Ow.owE q a d P (q - d) = 0 ∧ Ow.owV q a d P (q - d) = W ∧
      Ow.owE q a d P (q - d + 1) = 1 ∧ U ≤ V ∧ V ≤ W ∧ W = a - P := by
  have h1 := Ow.ow_ok (q := q) (a := a) (d := 0) (n := d) hq ha ha2 (by omega) hd (by omega)
  rw [Int.mul_zero, Int.zero_ediv, Int.zero_add, Int.sub_zero] at h1
  have h2 := Ow.ow_ok (q := q) (a := a) (d := d) (n := x) hq ha ha2 hd hx (by omega)
  have h3 := Ow.ow_ok (q := q) (a := a) (d := d) (n := y) hq ha ha2 hd (by omega) (by omega)
  have h4 := Ow.ow_ok (q := q) (a := a) (d := d) (n := q - d) hq ha ha2 hd (by omega) (by omega)
  have h5 := Ow.ow_over (q := q) (a := a) (d := d) (p := a * d / q) (n := q - d + 1) hd hdq (by omega)
  have m1 := Ow.part_mono (a := a) (d := d + x) (e := d + y) (q := q) ha hq (by omega)
  have m2 := Ow.part_mono (a := a) (d := d + y) (e := d + (q - d)) (q := q) ha hq (by omega)
  have e : d + (q - d) = q := by omega
  rw [e] at h4 m2
  rw [Ow.part_all hq] at h4 m2
  exact ⟨_, _, _, _, h1.1, h1.2, Ow.part_pos ha hd hq, by have := Ow.part_le (a := a) (d := d) (q := q) ha hq hdq; omega, h2.1, h2.2, h3.1, h3.2, h4.1, h4.2, h5, by omega, by omega, rfl⟩

set_option maxHeartbeats 2000000 in
set_option maxRecDepth 100000 in
theorem shares_bad (q a d x y : Int) (w : World) (h : q < 1 ∨ (1 ≤ q ∧ 1099511627776 < q) ∨ (1 ≤ q ∧ q ≤ 1099511627776 ∧ a < 0) ∨ (1 ≤ q ∧ q ≤ 1099511627776 ∧ 0 ≤ a ∧ 1125899906842624 < a) ∨
      (1 ≤ q ∧ q ≤ 1099511627776 ∧ 0 ≤ a ∧ a ≤ 1125899906842624 ∧ d < 0) ∨ (1 ≤ q ∧ q ≤ 1099511627776 ∧ 0 ≤ a ∧ a ≤ 1125899906842624 ∧ 0 ≤ d ∧ q < d) ∨
      (1 ≤ q ∧ q ≤ 1099511627776 ∧ 0 ≤ a ∧ a ≤ 1125899906842624 ∧ 0 ≤ d ∧ d ≤ q ∧ x < 0) ∨ (1 ≤ q ∧ q ≤ 1099511627776 ∧ 0 ≤ a ∧ a ≤ 1125899906842624 ∧ 0 ≤ d ∧ d ≤ q ∧ 0 ≤ x ∧ y < x) ∨
      (1 ≤ q ∧ q ≤ 1099511627776 ∧ 0 ≤ a ∧ a ≤ 1125899906842624 ∧ 0 ≤ d ∧ d ≤ q ∧ 0 ≤ x ∧ x ≤ y ∧ q - d < y)) :
    Calls Try.prog 5 #[.int .i64 q, .int .i64 a, .int .i64 d, .int .i64 x, .int .i64 y] w fun e w' => e = .returned (.bool true) ∧ Below w.heap.size w w' := by
  rcases h with h | ⟨h1, h⟩ | ⟨h1, h2, h⟩ | ⟨h1, h2, h3, h⟩ | ⟨h1, h2, h3, h4, h⟩ | ⟨h1, h2, h3, h4, h5, h⟩ | ⟨h1, h2, h3, h4, h5, h6, h⟩ | ⟨h1, h2, h3, h4, h5, h6, h7, h⟩ | ⟨h1, h2, h3, h4, h5, h6, h7, h8, h⟩
  all_goals
    go_enter Try.func5, Try.ntmps5
    go_wp2_with fail
    refine (alive12_any _).mono ?_
    rintro e w1 ⟨rfl, hb1⟩
    go_wp2
    go_ret
    exact ⟨rfl, hb1⟩

set_option maxHeartbeats 2000000 in
set_option maxRecDepth 100000 in
theorem shares_good (q a d x y : Int) (w : World) (h1 : 1 ≤ q) (h2 : q ≤ 1099511627776) (h3 : 0 ≤ a) (h4 : a ≤ 1125899906842624) (h5 : 0 ≤ d) (h6 : d ≤ q) (h7 : 0 ≤ x) (h8 : x ≤ y) (h9 : y ≤ q - d) :
    Calls Try.prog 5 #[.int .i64 q, .int .i64 a, .int .i64 d, .int .i64 x, .int .i64 y] w fun e w' => e = .returned (.bool true) ∧ Below w.heap.size w w' := by
  obtain ⟨P, U, V, W, e1, v1, p1, p2, e2, v2, e3, v3, e4, v4, e5, m1, m2, m3⟩ := shares_plain (q := q) (a := a) (d := d) (x := x) (y := y) (by omega) h3 h4 h5 h6 h7 h8 h9
  have v5 : Ow.owV q a d P (q - d + 1) = 0 := by unfold Ow.owV; rw [e5]; rfl
  have E1 := Lib.hid e1; have E2 := Lib.hid e2; have E3 := Lib.hid e3; have E4 := Lib.hid e4; have E5 := Lib.hid e5
  have V1 := Lib.hid v1; have V2 := Lib.hid v2; have V3 := Lib.hid v3; have V4 := Lib.hid v4; have V5 := Lib.hid v5
  have M3 := Lib.hid m3
  clear e1 e2 e3 e4 e5 v1 v2 v3 v4 v5 m3
  have b1 : decide (q < 1) = false := by simp; omega
  have b2 : decide (1099511627776 < q) = false := by simp; omega
  have b3 : decide (a < 0) = false := by simp; omega
  have b4 : decide (1125899906842624 < a) = false := by simp; omega
  have b5 : decide (d < 0) = false := by simp; omega
  have b6 : decide (q < d) = false := by simp; omega
  have b7 : decide (x < 0) = false := by simp; omega
  have b8 : decide (y < x) = false := by simp; omega
  have b9 : decide (q - d < y) = false := by simp; omega
  go_enter Try.func5, Try.ntmps5
  go_wp2_with (first
    | (refine wpList_store_last rfl 25 _ _ rfl _ 25 _ _ rfl rfl (by exact size_inst) (by rfl) (by simp [Value.oneCell']) ?_)
    | (refine wpList_load_named rfl 25 _ rfl _ rfl _ _ _ (heap_alloc_new w _) Try.underlying25 rfl size_inst _ rfl ?_))
  refine (owes_any _ _ _ _ _ _ _ _ _ _ _ _ _ _ _ _ _ q a 0 0 d _ (by omega) (by omega) (by omega) (by omega) (by omega) (by omega) (by omega) (by omega) (by omega) (by omega)).mono ?_
  rw [E1.out, V1.out]
  rintro e w1 ⟨rfl, hb1⟩
  obtain ⟨hk, hb⟩ := new_block hb1
  have hlt : w.heap.size < w1.heap.size := Blk.lt hk
  clear hb1
  obtain ⟨w2, hw2⟩ : ∃ w2, w2 = (w1.setCell ⟨w.heap.size, 19, none⟩ (.int .i64 d)).setCell ⟨w.heap.size, 20, none⟩ (.int .i64 P) := ⟨_, rfl⟩
  have hk2 : w2.heap[w.heap.size]? = some (.cells #[.int .i64 0, .string ⟨#[]⟩, .string ⟨#[]⟩, .string ⟨#[]⟩, .string ⟨#[]⟩, .bool false, .string ⟨#[]⟩, .string ⟨#[]⟩, .string ⟨#[]⟩, .int .i64 (q), .int .i64 (a), .int .i64 0, .int .i64 0, .int .i64 0, .bool false, .bool false, .bool false, .int .i64 0, .int .i64 0, .int .i64 (d), .int .i64 (P)] 25 (0, 0)) := by
    rw [hw2]
    exact Blk.set_ (Blk.set_ hk 19 _) 20 _
  have hbw2 : Below w.heap.size w w2 := by rw [hw2]; exact (hb.setCell (p := ⟨w.heap.size, 19, none⟩) (Nat.le_refl _) _).setCell (p := ⟨w.heap.size, 20, none⟩) (Nat.le_refl _) _
  have c19 : w1.cell? ⟨w.heap.size, 19, none⟩ = some (.int .i64 0) := by rw [Lib.cell_of_heap hk]; rfl
  have c20 : w1.cell? ⟨w.heap.size, 20, none⟩ = some (.int .i64 0) := by rw [Lib.cell_of_heap hk]; rfl
  have f19 : w1.frozen? ⟨w.heap.size, 19, none⟩ = false := Lib.frozen_of_heap hk 19
  have f20 : w1.frozen? ⟨w.heap.size, 20, none⟩ = false := Lib.frozen_of_heap hk 20
  have HW2 := Lib.hid hw2; clear hw2
  have HK2 := Lib.hid hk2; clear hk2 hk
  have HB := Lib.hid hb; clear hb
  have HB2 := Lib.hid hbw2; clear hbw2
  go_wp2_with (refine wpList_load_named rfl 25 _ rfl w.heap.size rfl 25 #[.int .i64 0, .string ⟨#[]⟩, .string ⟨#[]⟩, .string ⟨#[]⟩, .string ⟨#[]⟩, .bool false, .string ⟨#[]⟩, .string ⟨#[]⟩, .string ⟨#[]⟩, .int .i64 (q), .int .i64 (a), .int .i64 0, .int .i64 0, .int .i64 0, .bool false, .bool false, .bool false, .int .i64 0, .int .i64 0, .int .i64 (d), .int .i64 (P)] _ (by rw [HW2.out] at HK2; exact HK2.out) Try.underlying25 rfl size_inst _ rfl ?_)
  rw [← HW2.out]
  refine (owes_any _ _ _ _ _ _ _ _ _ _ _ _ _ _ _ _ _ q a d P x _ (by omega) (by omega) (by omega) (by omega) (by omega) (by omega) (by omega) (by omega) (by omega) (by omega)).mono ?_
  rw [E2.out, V2.out]
  rintro e w3 ⟨rfl, hb3⟩
  have HKw3 := Lib.hid ((hb3.block _ (Blk.lt HK2.out)).trans HK2.out)
  have HBw3 := Lib.hid (HB2.out.trans (hb3.mono HB2.out.size))
  clear hb3
  clear c19 c20 f19 f20 HB b1 b2 b3 b4 b5 b6 b7 b8 b9
  go_wp2_with (refine wpList_load_named rfl 25 _ rfl w.heap.size rfl _ _ _ HKw3.out Try.underlying25 rfl size_inst _ rfl ?_)
  refine (owes_any _ _ _ _ _ _ _ _ _ _ _ _ _ _ _ _ _ q a d P y _ (by omega) (by omega) (by omega) (by omega) (by omega) (by omega) (by omega) (by omega) (by omega) (by omega)).mono ?_
  rw [E3.out, V3.out]
  rintro e w4 ⟨rfl, hb3⟩
  have HKw4 := Lib.hid ((hb3.block _ (Blk.lt HKw3.out)).trans HKw3.out)
  have HBw4 := Lib.hid (HBw3.out.trans (hb3.mono HBw3.out.size))
  clear hb3
  go_wp2_with (refine wpList_load_named rfl 25 _ rfl w.heap.size rfl _ _ _ HKw4.out Try.underlying25 rfl size_inst _ rfl ?_)
  refine (owes_any _ _ _ _ _ _ _ _ _ _ _ _ _ _ _ _ _ q a d P (q - d) _ (by omega) (by omega) (by omega) (by omega) (by omega) (by omega) (by omega) (by omega) (by omega) (by omega)).mono ?_
  rw [E4.out, V4.out]
  rintro e w5 ⟨rfl, hb3⟩
  have HKw5 := Lib.hid ((hb3.block _ (Blk.lt HKw4.out)).trans HKw4.out)
  have HBw5 := Lib.hid (HBw4.out.trans (hb3.mono HBw4.out.size))
  clear hb3
  go_wp2_with (refine wpList_load_named rfl 25 _ rfl w.heap.size rfl _ _ _ HKw5.out Try.underlying25 rfl size_inst _ rfl ?_)
  refine (owes_any _ _ _ _ _ _ _ _ _ _ _ _ _ _ _ _ _ q a d P (q - d + 1) _ (by omega) (by omega) (by omega) (by omega) (by omega) (by omega) (by omega) (by omega) (by omega) (by omega)).mono ?_
  rw [E5.out, V5.out]
  rintro e w6 ⟨rfl, hb3⟩
  have HKw6 := Lib.hid ((hb3.block _ (Blk.lt HKw5.out)).trans HKw5.out)
  have HBw6 := Lib.hid (HBw5.out.trans (hb3.mono HBw5.out.size))
  clear hb3
  go_wp2_with fail
  refine (alive12_any _).mono ?_
  rintro e w7 ⟨rfl, hb7⟩
  have m3 := M3.out
  subst m3
  go_wp2
  go_ret
  exact ⟨rfl, HBw6.out.trans (hb7.mono HBw6.out.size)⟩

theorem shares_walk (q a d x y : Int) (w : World) :
    Calls Try.prog 5 #[.int .i64 q, .int .i64 a, .int .i64 d, .int .i64 x, .int .i64 y] w fun e w' => e = .returned (.bool true) ∧ Below w.heap.size w w' := by
  by_cases h1 : 1 ≤ q
  rotate_left
  · exact shares_bad q a d x y w (.inl (by omega))
  by_cases h2 : q ≤ 1099511627776
  rotate_left
  · exact shares_bad q a d x y w (.inr (.inl (⟨h1, by omega⟩)))
  by_cases h3 : 0 ≤ a
  rotate_left
  · exact shares_bad q a d x y w (.inr (.inr (.inl (⟨h1, h2, by omega⟩))))
  by_cases h4 : a ≤ 1125899906842624
  rotate_left
  · exact shares_bad q a d x y w (.inr (.inr (.inr (.inl (⟨h1, h2, h3, by omega⟩)))))
  by_cases h5 : 0 ≤ d
  rotate_left
  · exact shares_bad q a d x y w (.inr (.inr (.inr (.inr (.inl (⟨h1, h2, h3, h4, by omega⟩))))))
  by_cases h6 : d ≤ q
  rotate_left
  · exact shares_bad q a d x y w (.inr (.inr (.inr (.inr (.inr (.inl (⟨h1, h2, h3, h4, h5, by omega⟩)))))))
  by_cases h7 : 0 ≤ x
  rotate_left
  · exact shares_bad q a d x y w (.inr (.inr (.inr (.inr (.inr (.inr (.inl (⟨h1, h2, h3, h4, h5, h6, by omega⟩))))))))
  by_cases h8 : x ≤ y
  rotate_left
  · exact shares_bad q a d x y w (.inr (.inr (.inr (.inr (.inr (.inr (.inr (.inl (⟨h1, h2, h3, h4, h5, h6, h7, by omega⟩)))))))))
  by_cases h9 : y ≤ q - d
  rotate_left
  · exact shares_bad q a d x y w (.inr (.inr (.inr (.inr (.inr (.inr (.inr (.inr ((⟨h1, h2, h3, h4, h5, h6, h7, h8, by omega⟩))))))))))
  exact shares_good q a d x y w h1 h2 h3 h4 h5 h6 h7 h8 h9
end Go.Proofs.Ytkcecijepbceiaa
