/-
  The walk of WireFirst: the first error stays, whatever comes behind it; nothing is put or read any more.
  Conditions: ints, a text within what a string may have.
-/
import Derived.Test.YtfjdcmhhnknojaaWire7
namespace Go.Proofs.Ytfjdcmhhnknojaa
open Go.RowKit

theorem first_st (e f : Int) : Wire.stFail (Wire.stFail ((0, [2]) : Wire.St) e) f = (if e = 0 then f else e, [2]) := by
  unfold Wire.stFail
  by_cases h : e = 0
  · simp [h]
  · simp [h]
theorem first_rd (e f : Int) : rdFail (rdFail ⟨0, 0⟩ e) f = ⟨if e = 0 then f else e, 0⟩ := by
  unfold rdFail
  by_cases h : e = 0
  · simp [h]
  · simp [h]
theorem first_num : rdNum ⟨#[2, 2, 65]⟩ ⟨0, 0⟩ = (1, ⟨0, 1⟩) := by kernel_rfl

set_option maxHeartbeats 2000000 in
set_option maxRecDepth 100000 in
theorem first_walk (e f n : Int) (h1 : -9223372036854775808 ≤ n) (h2 : n ≤ 9223372036854775807) (s : ByteArray) (hs : s.size ≤ 9223372036854775807) (w : World) :
    Calls Try.prog 6 #[.int .i64 e, .int .i64 f, .int .i64 n, .string s] w fun e w' => e = .returned (.bool true) ∧ Below w.heap.size w w' := by
  by_cases hlong : 1000 < s.size
  · go_enter Try.func6, Try.ntmps6
    go_wp2_with fail
    refine (newWriter_any _).mono ?_
    rintro e1 w1 ⟨rfl, hw1, hb1⟩
    have hz1 := hb1.size
    go_wp2_with fail
    refine (newReader_any _ _ (by decide)).mono ?_
    rintro e1 w2 ⟨g, rfl, hg, hr2, hb2⟩
    have hb3 : Below w.heap.size w w2 := hb1.trans (hb2.mono hz1)
    have hz2 := hb2.size
    clear hb1 hb2 hw1 hr2
    go_wp2_with (go_at_call 10; refine (alive3_any _).mono ?_; rintro e1 w3 ⟨rfl, hb4⟩)
    go_ret
    exact ⟨rfl, hb3.trans (hb4.mono (by omega))⟩
  · obtain ⟨want, Hwant⟩ : ∃ want : Int, Hid ((if e = 0 then f else e) = want) := ⟨_, rfl⟩
    go_enter Try.func6, Try.ntmps6
    go_wp2_with fail
    refine (newWriter_any _).mono ?_
    rintro e1 w1 ⟨rfl, hw1, hb1⟩
    have hz1 := hb1.size
    have hm1 : Mv [] [w.heap.size] w w1 := .of_new hb1 (by simp)
    have HW1 := Lib.hid hw1; clear hw1 hb1
    go_wp2_with fail
    refine (newReader_any _ _ (by decide)).mono ?_
    rintro e1 w2 ⟨g, rfl, hg, hr2, hb2⟩
    have hz2 := hb2.size
    have HW2 := Lib.hid (HW1.out.below hb2)
    have hm2 : Mv [] [w.heap.size, g] w w2 := hm1.trans (.of_new hb2 (by simp; omega))
    have hl2 := hr2.lt
    have hg2 : g ∉ [w.heap.size] := by have := HW1.out.lt; simp; omega
    have HR2 := Lib.hid hr2; clear hr2 hb2 hm1 HW1
    go_wp2_with fail
    refine (num1_any w.heap.size _ (0, []) 1 (by decide) (by decide) _ _ _ rfl HW2.out (by simp)).mono ?_
    rw [show Wire.stNum (0, []) 1 = (0, [2]) from by decide +kernel]
    rintro e1 w3 ⟨rfl, S3, hw3, hm3⟩
    have hz3 := hm3.size
    have hR3 := Lib.hid (HR2.out.aside hm3 hg2)
    have hg3 := hm3.out hg2 hl2
    have HW3 := Lib.hid hw3; clear hw3
    go_wp2_with fail
    refine (wfail_any w.heap.size S3 (0, [2]) e _ HW3.out).mono ?_
    rintro e1 w4 ⟨rfl, S4, hw4, hm4⟩
    have hz4 := hm4.size
    have HR4 := Lib.hid (hR3.out.aside hm4 hg3)
    have hg4 := hm4.out hg3 (by omega)
    have HW4 := Lib.hid hw4; clear hw4
    go_wp2_with fail
    refine (wfail_any w.heap.size S4 _ f _ HW4.out).mono ?_
    rw [first_st, Hwant.out]
    rintro e1 w5 ⟨rfl, S5, hw5, hm5⟩
    have hz5 := hm5.size
    have HR5 := Lib.hid (HR4.out.aside hm5 hg4)
    have hg5 := hm5.out hg4 (by omega)
    have HW5 := Lib.hid hw5; clear hw5
    have hmw5 : Mv [w.heap.size] S5 w2 w5 := (hm3.trans hm4).trans hm5
    clear HW2 HW3 HW4 HR2 hR3 HR4 hm3 hm4 hm5 hg2 hg3 hg4
    go_wp2_with fail
    refine (rfail_any g ⟨#[2, 2, 65]⟩ ⟨0, 0⟩ e _ HR5.out).mono ?_
    rintro e1 w6 ⟨rfl, hr6, hm6⟩
    have hz6 := hm6.size
    have HW6 := Lib.hid (HW5.out.aside hm6 (fun k hk => not_mem_one hg5 hk))
    have HR6 := Lib.hid hr6; clear hr6
    go_wp2_with fail
    refine (rfail_any g ⟨#[2, 2, 65]⟩ _ f _ HR6.out).mono ?_
    rw [first_rd, Hwant.out]
    rintro e1 w7 ⟨rfl, hr7, hm7⟩
    have hz7 := hm7.size
    have HW7 := Lib.hid (HW6.out.aside hm7 (fun k hk => not_mem_one hg5 hk))
    have HR7 := Lib.hid hr7; clear hr7
    have hmr7 : Mv [g] [g] w5 w7 := hm6.trans hm7
    have hmw7 : Mv [] (g :: S5) w w7 := by
      have q1 : Mv [w.heap.size, g] (g :: S5) w2 w5 := ⟨hmw5.os, hmw5.tape, hmw5.output, hmw5.size, fun k hk hn => hmw5.block k hk (by simp at hn ⊢; omega), fun k hk => by
        simp only [List.mem_cons] at hk ⊢
        rcases hk with hk | hk
        · exact .inl (.inr (.inl hk))
        · rcases hmw5.link k hk with h | h
          · simp at h; exact .inl (.inl h)
          · exact .inr h⟩
      have q2 : Mv (g :: S5) (g :: S5) w5 w7 := ⟨hmr7.os, hmr7.tape, hmr7.output, hmr7.size, fun k hk hn => hmr7.block k hk (by simp at hn ⊢; exact hn.1), fun k hk => .inl hk⟩
      exact (hm2.trans q1).trans q2
    have hlow : ∀ k, k ∈ S5 → w.heap.size ≤ k := fun k hk => hmw7.low (B := w.heap.size) (by simp) (Nat.le_refl _) k (by simp [hk])
    have hb7 : Below w.heap.size w w7 := hmw7.below (by simp) (Nat.le_refl _)
    clear HW5 HR5 HW6 HR6 hm6 hm7 hmr7 hmw5 hm2 hmw7
    have hS5 : ∀ k, k ∈ S5 → w.heap.size ≤ k := hlow
    have hwt : (if e = 0 then f else e) = want := Hwant.out
    obtain ⟨st8, H8⟩ : ∃ st8 : Wire.St, Hid (Wire.stNum (want, [2]) n = st8) := ⟨_, rfl⟩
    obtain ⟨st9, H9⟩ : ∃ st9 : Wire.St, Hid (Wire.stText st8 s.data.toList = st9) := ⟨_, rfl⟩
    have hlen8 : st8.2.length + 1010 ≤ 1000000000 := by have := Wire.stNum_len (want, [2]) [n]; rw [← H8.out]; simp at this; omega
    have hst9 : st9.1 = want ∧ (want = 0 → st9.2 ≠ []) := by
      have hl' : ¬ 1000 < s.data.toList.length := by rw [len_data]; exact hlong
      rw [← H9.out, ← H8.out]
      unfold Wire.stNum
      by_cases h0 : want = 0
      · rw [if_pos h0]; unfold Wire.stText; rw [if_pos rfl, if_neg hl']; exact ⟨h0.symm, fun _ e => by have := congrArg List.length e; simp [Wire.wNum] at this⟩
      · rw [if_neg (by simpa using h0)]; unfold Wire.stText; rw [if_neg (by simpa using h0)]; exact ⟨rfl, fun h => absurd h h0⟩
    obtain ⟨hst1, hst2⟩ := hst9
    obtain ⟨b, Hb⟩ : ∃ b : ByteArray, Hid (b = ⟨(bytesOf st9).toArray⟩) := ⟨_, rfl⟩
    have Hst2 := Lib.hid hst2; clear hst2
    by_cases he : e = 0
    all_goals
      first
        | (rw [if_pos he] at hwt; subst he; have hwt' := hwt.symm; subst hwt'; clear hwt)
        | (rw [if_neg he] at hwt; have hwt' := hwt.symm; subst hwt'; clear hwt)
      clear Hwant
      go_wp2_with fail
      refine (num1_any w.heap.size S5 (want, [2]) n h1 h2 _ _ _ rfl HW7.out (by simp)).mono ?_
      rw [H8.out]
      rintro e1 w8 ⟨rfl, S8, hw8, hm8⟩
      have hz8 := hm8.size
      have HR8 := Lib.hid (HR7.out.aside hm8 hg5)
      have hg8 := hm8.out hg5 (by omega)
      have HW8 := Lib.hid hw8; clear hw8
      have hb8 := hb7.trans (hm8.below hS5 (by omega))
      have hS8 := hm8.low hS5 (show w.heap.size ≤ w7.heap.size by omega)
      clear hm8 hb7 hS5 hg5
      go_wp2_with fail
      refine (text1_any w.heap.size S8 st8 s hs _ _ _ rfl HW8.out hlen8).mono ?_
      rw [H9.out]
      rintro e1 w9 ⟨rfl, S9, hw9, hm9⟩
      have hg9 := hm9.out hg8 (by omega)
      have hz9 := hm9.size
      have HR9 := Lib.hid (HR8.out.aside hm9 hg8)
      have HW9 := Lib.hid hw9; clear hw9
      have hb9 := hb8.trans (hm9.below hS8 (by omega))
      clear hm9 hb8 hS8 hg8 HW7 HW8 HR7 HR8
      go_wp2_with fail
      refine (bytes_any w.heap.size S9 _ _ HW9.out).mono ?_
      rw [← Hb.out, hst1]
      rintro e1 w9' ⟨rfl, rfl⟩
      rw [hst1] at HW9
      have c9 := HW9.out.cell0
      go_wp2_with fail
      refine (rNum_any g ⟨#[2, 2, 65]⟩ ⟨want, 0⟩ _ HR9.out (Nat.zero_le _) (by decide)).mono ?_
      by_cases h0 : want = 0
      · have hbe : b.toList.isEmpty = false := by
          rw [Hb.out]; unfold bytesOf; rw [if_pos (hst1.trans h0), ByteArray.toList_eq]
          have hne := Hst2.out h0
          simpa using hne
        first
          | exact absurd h0 he
          | (subst h0
             rw [first_num]
             rintro e1 w10 ⟨rfl, hr10, hm10⟩
             have hz10 := hm10.size
             have hc10 : w10.cell? ⟨w.heap.size, 0, none⟩ = some (.int .i64 0) := (HW9.out.aside hm10 (fun k hk => not_mem_one hg9 hk)).cell0
             have hc11 := hr10.cell0
             have hb10 := hb9.trans (hm10.below (by simp; omega) (by omega))
             have HR10 := Lib.hid hr10; clear hr10 Hb HW9
             go_wp2_with (first
               | (go_at_call 17; first | (refine (wrong_any w.heap.size 0 _ hc10).mono ?_; rintro e1 w11 ⟨rfl, rfl⟩) | (refine (wrong_any g 0 _ hc11).mono ?_; rintro e1 w11 ⟨rfl, rfl⟩))
               | (go_at_call 10; refine (alive3_any _).mono ?_; rintro e1 w12 ⟨rfl, hb12⟩)
               | (go_at_call 16; refine (left_any g 0 ⟨#[2, 2, 65]⟩ 1 _ (HR10.out.below hb12) (by decide) (by decide)).mono ?_; rw [show (((⟨#[2, 2, 65]⟩ : ByteArray).size - 1 : Nat) : Int) = 2 from by decide]; rintro e1 w13 ⟨rfl, q, rfl⟩))
             go_ret
             exact ⟨rfl, drewN_below (hb10.trans (hb12.mono (by omega))) q⟩)
      · have hbe : b.toList.isEmpty = true := by
          rw [Hb.out]; unfold bytesOf; rw [if_neg (by rw [hst1]; exact h0), ByteArray.toList_eq]; rfl
        have hw0 : (want == 0) = false := by simp [h0]
        have hrn : rdNum ⟨#[2, 2, 65]⟩ ⟨want, 0⟩ = (0, ⟨want, 0⟩) := by unfold rdNum; rw [if_pos h0]
        have hen : endOf ⟨#[2, 2, 65]⟩ ⟨want, 0⟩ = want := by unfold endOf; rw [if_pos h0]
        rw [hrn]
        rintro e1 w10 ⟨rfl, hr10, hm10⟩
        have hz10 := hm10.size
        have hc10 : w10.cell? ⟨w.heap.size, 0, none⟩ = some (.int .i64 want) := (HW9.out.aside hm10 (fun k hk => not_mem_one hg9 hk)).cell0
        have hc11 := hr10.cell0
        have hb10 := hb9.trans (hm10.below (by simp; omega) (by omega))
        have HR10 := Lib.hid hr10; clear hr10 Hb HW9 Hst2 h0
        go_wp2_with (first
          | (go_at_call 17; first | (refine (wrong_any w.heap.size want _ hc10).mono ?_; rintro e1 w11 ⟨rfl, rfl⟩) | (refine (wrong_any g want _ hc11).mono ?_; rintro e1 w11 ⟨rfl, rfl⟩))
          | (go_at_call 10; refine (alive3_any _).mono ?_; rintro e1 w12 ⟨rfl, hb12⟩)
          | (go_at_call 16; refine (left_any g want ⟨#[2, 2, 65]⟩ 0 _ (HR10.out.below hb12) (by decide) (by decide)).mono ?_; rw [show (((⟨#[2, 2, 65]⟩ : ByteArray).size - 0 : Nat) : Int) = 3 from by decide]; rintro e1 w13 ⟨rfl, q, rfl⟩)
          | (go_at_call 31; go_must (refine (end_any g ⟨#[2, 2, 65]⟩ ⟨want, 0⟩ _ ((HR10.out.below hb12).drewN q) (Nat.zero_le _) (by decide)).mono ?_; rw [hen]; rintro e1 w14 ⟨rfl, q2, rfl⟩)))
        go_ret
        exact ⟨rfl, drewN_below (hb10.trans (hb12.mono (by omega))) _⟩
end Go.Proofs.Ytfjdcmhhnknojaa
