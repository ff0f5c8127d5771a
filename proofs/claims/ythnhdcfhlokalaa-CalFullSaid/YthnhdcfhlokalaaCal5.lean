/-
  Chapter 8's alive as a contract; what a nil calendar tells.
  Conditions: none.
-/
import Derived.Test.YthnhdcfhlokalaaCal4
import Derived.Test.YthnhdcfhlokalaaMv
namespace Go.Proofs.Ythnhdcfhlokalaa
open Go.RowKit Go.Maps

set_option maxHeartbeats 1000000 in
theorem days_nil (x y : Int) (hx2 : x ≤ 9223372036854775807) (w : World) :
    Calls Try.prog 12 #[.pointer none, .int .i64 x, .int .i64 y] w fun e w' => e = .returned (.int .i64 0) ∧ w = w' := by
  by_cases hd : x < -1 <;> by_cases hy : 1000000 < y
  · go_enter Try.func12, Try.ntmps12
    go_wp2
    go_loopw [7, 8] (fun n i wr => ∃ z : Int, i = .int .i64 z ∧ n = .int .i64 0 ∧ -1 ≤ z ∧ z ≤ 9223372036854775807 ∧ wr = w) (fun _ i _ => (1000000 - intOf i).toNat)
    case atStart => exact ⟨(-1), rfl, rfl, by omega, by omega, rfl⟩
    case round =>
      obtain ⟨z, rfl, rfl, hz0, hz1, rfl⟩ := hrel
      by_cases hlt : z < 1000000
      · go_wp2_with (go_at_call 10; refine (is_nil _ _).mono ?_; rintro e w1 ⟨rfl, rfl⟩)
        go_roundw
        case rel => exact ⟨z + 1, rfl, rfl, by omega, by omega, trivial⟩
        case measure => simp [intOf]; omega
      · go_wp2
        go_ret
        exact ⟨rfl, rfl⟩
  · go_enter Try.func12, Try.ntmps12
    go_wp2
    go_loopw [7, 8] (fun n i wr => ∃ z : Int, i = .int .i64 z ∧ n = .int .i64 0 ∧ -1 ≤ z ∧ z ≤ 9223372036854775807 ∧ wr = w) (fun _ i _ => (y - intOf i).toNat)
    case atStart => exact ⟨(-1), rfl, rfl, by omega, by omega, rfl⟩
    case round =>
      obtain ⟨z, rfl, rfl, hz0, hz1, rfl⟩ := hrel
      by_cases hlt : z < y
      · go_wp2_with (go_at_call 10; refine (is_nil _ _).mono ?_; rintro e w1 ⟨rfl, rfl⟩)
        go_roundw
        case rel => exact ⟨z + 1, rfl, rfl, by omega, by omega, trivial⟩
        case measure => simp [intOf]; omega
      · go_wp2
        go_ret
        exact ⟨rfl, rfl⟩
  · go_enter Try.func12, Try.ntmps12
    go_wp2
    go_loopw [7, 8] (fun n i wr => ∃ z : Int, i = .int .i64 z ∧ n = .int .i64 0 ∧ -1 ≤ z ∧ z ≤ 9223372036854775807 ∧ wr = w) (fun _ i _ => (1000000 - intOf i).toNat)
    case atStart => exact ⟨x, rfl, rfl, by omega, by omega, rfl⟩
    case round =>
      obtain ⟨z, rfl, rfl, hz0, hz1, rfl⟩ := hrel
      by_cases hlt : z < 1000000
      · go_wp2_with (go_at_call 10; refine (is_nil _ _).mono ?_; rintro e w1 ⟨rfl, rfl⟩)
        go_roundw
        case rel => exact ⟨z + 1, rfl, rfl, by omega, by omega, trivial⟩
        case measure => simp [intOf]; omega
      · go_wp2
        go_ret
        exact ⟨rfl, rfl⟩
  · go_enter Try.func12, Try.ntmps12
    go_wp2
    go_loopw [7, 8] (fun n i wr => ∃ z : Int, i = .int .i64 z ∧ n = .int .i64 0 ∧ -1 ≤ z ∧ z ≤ 9223372036854775807 ∧ wr = w) (fun _ i _ => (y - intOf i).toNat)
    case atStart => exact ⟨x, rfl, rfl, by omega, by omega, rfl⟩
    case round =>
      obtain ⟨z, rfl, rfl, hz0, hz1, rfl⟩ := hrel
      by_cases hlt : z < y
      · go_wp2_with (go_at_call 10; refine (is_nil _ _).mono ?_; rintro e w1 ⟨rfl, rfl⟩)
        go_roundw
        case rel => exact ⟨z + 1, rfl, rfl, by omega, by omega, trivial⟩
        case measure => simp [intOf]; omega
      · go_wp2
        go_ret
        exact ⟨rfl, rfl⟩
theorem close_nil (v : Value) (w : World) :
    Calls Try.prog 14 #[.pointer none, v] w fun e w' => e = .returned (.int .i64 1) ∧ w = w' := by
  go_enter Try.func14, Try.ntmps14
  go_wp2
  go_ret
  exact ⟨rfl, rfl⟩
theorem holidays_nil (w : World) :
    Calls Try.prog 13 #[.pointer none] w fun e w' => e = .returned (.slice none 0 0) ∧ w = w' := by
  go_enter Try.func13, Try.ntmps13
  go_wp2
  go_ret
  exact ⟨rfl, rfl⟩

theorem alive8_err : errNew [7] = 0 := by kernel_rfl
theorem alive8_is4 : isB (setD [7]) 4 = true := by kernel_rfl
theorem alive8_is5 : isB (setD [7]) 5 = false := by kernel_rfl
theorem alive8_next : Dy.next (isB (setD [7])) 4 = 8 := by kernel_rfl
theorem alive8_add : Dy.add (isB (setD [7])) 2 4 = 9 := by kernel_rfl
theorem alive8_days : Dy.days (isB (setD [7])) 0 7 = 4 := by kernel_rfl

set_option maxHeartbeats 1000000 in
theorem alive8_any (w : World) :
    Calls Try.prog 8 #[] w fun e w' => e = .returned (.bool true) ∧ Below w.heap.size w w' := by
  have hn := new_any [7] (some ⟨w.heap.size, 0, none⟩) 1 (w.alloc (.cells #[.int .i64 7] 3)) (reads_newV w (ints [7]) 3 _ rfl rfl rfl (by simp)) (by decide) (by simp)
  rw [alive8_err, if_pos rfl] at hn
  have HN := Lib.hid hn; clear hn
  go_enter Try.func8, Try.ntmps8
  go_wp2_with fail
  refine HN.out.mono ?_
  obtain ⟨c, hc⟩ : ∃ c, (w.alloc (.cells #[.int .i64 7] 3)).heap.size = c := ⟨_, rfl⟩
  rw [hc]
  rintro e w1 ⟨rfl, hok, hb1⟩
  have hb1' : Below w.heap.size w w1 := ((Below.refl w.heap.size w).alloc (Nat.le_refl _) _).trans (hb1.mono (by rw [← hc]; simp))
  have H1 := Lib.hid (hok rfl); clear hok hb1 hc
  go_wp2_with fail
  refine (is_any c _ 4 (by decide) (by decide) w1 H1.out).mono ?_
  rw [alive8_is4]
  rintro e w2 ⟨rfl, hb2⟩
  have H2 := Lib.hid (H1.out.below hb2)
  have hb2' := hb1'.trans (hb2.mono hb1'.size); clear hb2
  go_wp2_with fail
  refine (is_any c _ 5 (by decide) (by decide) w2 H2.out).mono ?_
  rw [alive8_is5]
  rintro e w3 ⟨rfl, hb3⟩
  have H3 := Lib.hid (H2.out.below hb3)
  have hb3' := hb2'.trans (hb3.mono hb2'.size); clear hb3
  go_wp2_with fail
  refine (next_any c _ 4 (by decide) (by decide) w3 H3.out).mono ?_
  rw [alive8_next]
  rintro e w4 ⟨rfl, hb4⟩
  have H4 := Lib.hid (H3.out.below hb4)
  have hb4' := hb3'.trans (hb4.mono hb3'.size); clear hb4
  go_wp2_with fail
  refine (add_any c _ 4 2 (by decide) (by decide) (by decide) w4 H4.out).mono ?_
  rw [alive8_add]
  rintro e w5 ⟨rfl, hb5⟩
  have H5 := Lib.hid (H4.out.below hb5)
  have hb5' := hb4'.trans (hb5.mono hb4'.size); clear hb5
  go_wp2_with fail
  refine (days_any c _ 0 7 (by decide) (by decide) (by decide) (by decide) w5 H5.out).mono ?_
  rw [alive8_days]
  rintro e w6 ⟨rfl, hb6⟩
  go_wp2
  go_ret
  exact ⟨rfl, hb5'.trans (hb6.mono hb5'.size)⟩

set_option maxHeartbeats 1000000 in
theorem none_walk (d n : Int) (hd2 : d ≤ 9223372036854775807) (w : World) :
    Calls Try.prog 4 #[.int .i64 d, .int .i64 n] w fun e w' => e = .returned (.bool true) ∧ Below w.heap.size w w' := by
  go_enter Try.func4, Try.ntmps4
  go_wp2_with (first
    | (go_at_call 8; refine (alive8_any _).mono ?_; rintro e w1 ⟨rfl, hb1⟩)
    | (go_at_call 10; refine (is_nil _ _).mono ?_; rintro e w2 ⟨rfl, rfl⟩)
    | (go_at_call 9; refine (next_nil _ _).mono ?_; rintro e w2 ⟨rfl, rfl⟩)
    | (go_at_call 12; refine (days_nil _ _ hd2 _).mono ?_; rintro e w2 ⟨rfl, rfl⟩)
    | (go_at_call 13; refine (holidays_nil _).mono ?_; rintro e w2 ⟨rfl, rfl⟩)
    | (go_at_call 14; refine (close_nil _ _).mono ?_; rintro e w2 ⟨rfl, rfl⟩))
  go_ret
  exact ⟨rfl, hb1.alloc hb1.size _⟩
end Go.Proofs.Ythnhdcfhlokalaa
