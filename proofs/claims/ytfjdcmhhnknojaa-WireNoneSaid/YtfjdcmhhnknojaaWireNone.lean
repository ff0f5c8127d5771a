/-
  The walk of WireNone: what a nil writer, a nil reader and a zero reader tell.
  Conditions: none.
-/
import Derived.Test.YtfjdcmhhnknojaaWire7
namespace Go.Proofs.Ytfjdcmhhnknojaa
open Go.RowKit

section
variable (w : World)
theorem noff_any : Calls Try.prog 37 #[.pointer none] w fun r w' => r = .returned (.bool true) ∧ w = w' := by
  go_enter Try.func37, Try.ntmps37
  go_wp2
  go_ret
  exact ⟨rfl, rfl⟩
theorem nrNum_any : Calls Try.prog 18 #[.pointer none] w fun r w' => r = .returned (.int .i64 0) ∧ w = w' := by
  go_enter Try.func18, Try.ntmps18
  go_wp2_with (go_at_call 37; refine (noff_any _).mono ?_; rintro e w1 ⟨rfl, rfl⟩)
  go_ret
  exact ⟨rfl, rfl⟩
theorem nrCount_any (n : Int) : Calls Try.prog 34 #[.pointer none, .int .i64 n] w fun r w' => r = .returned (.int .i64 0) ∧ w = w' := by
  go_enter Try.func34, Try.ntmps34
  go_wp2_with (go_at_call 37; refine (noff_any _).mono ?_; rintro e w1 ⟨rfl, rfl⟩)
  go_ret
  exact ⟨rfl, rfl⟩
theorem nrText_any : Calls Try.prog 32 #[.pointer none] w fun r w' => r = .returned (.string ⟨#[]⟩) ∧ w = w' := by
  go_enter Try.func32, Try.ntmps32
  go_wp2_with (go_at_call 37; refine (noff_any _).mono ?_; rintro e w1 ⟨rfl, rfl⟩)
  go_ret
  exact ⟨rfl, rfl⟩
theorem nrBool_any : Calls Try.prog 33 #[.pointer none] w fun r w' => r = .returned (.bool false) ∧ w = w' := by
  go_enter Try.func33, Try.ntmps33
  go_wp2_with (go_at_call 37; refine (noff_any _).mono ?_; rintro e w1 ⟨rfl, rfl⟩)
  go_ret
  exact ⟨rfl, rfl⟩
theorem nrLeft_any : Calls Try.prog 16 #[.pointer none] w fun r w' => r = .returned (.int .i64 0) ∧ w = w' := by
  go_enter Try.func16, Try.ntmps16
  go_wp2
  go_ret
  exact ⟨rfl, rfl⟩
theorem nrEnd_any : Calls Try.prog 31 #[.pointer none] w fun r w' => r = .returned (.int .i64 1) ∧ w = w' := by
  go_enter Try.func31, Try.ntmps31
  go_wp2
  go_ret
  exact ⟨rfl, rfl⟩
theorem nwBytes_any : Calls Try.prog 13 #[.pointer none] w fun r w' => r = .returned (.tuple #[.string ⟨#[]⟩, .int .i64 1]) ∧ w = w' := by
  go_enter Try.func13, Try.ntmps13
  go_wp2
  go_ret2
  exact ⟨rfl, rfl⟩
theorem nwNum_any (b c : Nat) (v : Value) (h : w.cell? ⟨b, 0, none⟩ = some v) : Calls Try.prog 12 #[.pointer none, .slice (some ⟨b, 0, none⟩) 1 c] w fun r w' => r = .returned (.tuple #[]) ∧ w = w' := by
  go_enter Try.func12, Try.ntmps12
  go_wp2
  go_loopw [8] (fun i wr => i = .int .i64 0 ∧ wr = w) (fun _ _ => 0)
  case atStart => exact ⟨rfl, rfl⟩
  case round =>
    obtain ⟨rfl, rfl⟩ := hrel
    go_wp2
    refine bodyPost_ret (results_none rfl _ _ _) rfl ?_
    exact ⟨rfl, rfl⟩
theorem nwText_any (b c : Nat) (v : Value) (h : w.cell? ⟨b, 0, none⟩ = some v) : Calls Try.prog 14 #[.pointer none, .slice (some ⟨b, 0, none⟩) 1 c] w fun r w' => r = .returned (.tuple #[]) ∧ w = w' := by
  go_enter Try.func14, Try.ntmps14
  go_wp2
  go_loopw [8] (fun i wr => i = .int .i64 0 ∧ wr = w) (fun _ _ => 0)
  case atStart => exact ⟨rfl, rfl⟩
  case round =>
    obtain ⟨rfl, rfl⟩ := hrel
    go_wp2
    refine bodyPost_ret (results_none rfl _ _ _) rfl ?_
    exact ⟨rfl, rfl⟩
theorem nwBool_any (b c : Nat) (v : Value) (h : w.cell? ⟨b, 0, none⟩ = some v) : Calls Try.prog 26 #[.pointer none, .slice (some ⟨b, 0, none⟩) 1 c] w fun r w' => r = .returned (.tuple #[]) ∧ w = w' := by
  go_enter Try.func26, Try.ntmps26
  go_wp2
  go_loopw [9] (fun i wr => i = .int .i64 0 ∧ wr = w) (fun _ _ => 0)
  case atStart => exact ⟨rfl, rfl⟩
  case round =>
    obtain ⟨rfl, rfl⟩ := hrel
    go_wp2
    refine bodyPost_ret (results_none rfl _ _ _) rfl ?_
    exact ⟨rfl, rfl⟩
end
theorem cell_new0 (w : World) (v : Value) (t : TypeId) {b : Nat} (hb : b = w.heap.size) : (w.alloc (.cells #[v] t)).cell? ⟨b, 0, none⟩ = some v := by
  subst hb
  rw [Lib.cell_of_heap (heap_alloc_new w _)]; rfl

theorem zNum : rdNum ⟨#[]⟩ ⟨0, 0⟩ = (0, ⟨5, 0⟩) := by kernel_rfl
theorem zEnd : endOf ⟨#[]⟩ ⟨0, 0⟩ = 0 := by kernel_rfl
set_option maxHeartbeats 1000000 in
set_option maxRecDepth 100000 in
theorem none_walk (n : Int) (s : ByteArray) (w : World) :
    Calls Try.prog 9 #[.int .i64 n, .string s] w fun e w' => e = .returned (.bool true) ∧ Below w.heap.size w w' := by
  go_enter Try.func9, Try.ntmps9
  go_wp2_with fail
  refine (nwNum_any _ _ _ _ (cell_new0 _ _ _ (by simp))).mono ?_
  rintro e w1 ⟨rfl, rfl⟩
  go_wp2_with fail
  refine (nwText_any _ _ _ _ (cell_new0 _ _ _ (by simp))).mono ?_
  rintro e w1 ⟨rfl, rfl⟩
  go_wp2_with fail
  refine (nwBool_any _ _ _ _ (cell_new0 _ _ _ (by simp))).mono ?_
  rintro e w1 ⟨rfl, rfl⟩
  go_wp2_with fail
  refine (nwBytes_any _).mono ?_
  rintro e w1 ⟨rfl, rfl⟩
  obtain ⟨w1, hw1⟩ : ∃ w1, w1 = (((w.alloc (.cells #[.int .i64 0, .string ⟨#[]⟩, .int .i64 0] 40)).alloc (.cells #[.int .i64 n] 3)).alloc (.cells #[.string s] 9)).alloc (.cells #[.bool true] 4) := ⟨_, rfl⟩
  have hr0 : RdAt w.heap.size 0 ⟨#[]⟩ 0 (w.alloc (.cells #[.int .i64 0, .string ⟨#[]⟩, .int .i64 0] 40)) := heap_alloc_new w _
  have hr1 : RdAt w.heap.size 0 ⟨#[]⟩ 0 w1 := by rw [hw1]; exact ((hr0.alloc _).alloc _).alloc _
  have hb1 : Below w.heap.size w w1 := by rw [hw1]; exact (((((Below.refl _ _).alloc (Nat.le_refl _) _).alloc (by simp) _).alloc (by simp; omega) _).alloc (by simp; omega) _)
  have HR1 := Lib.hid hr1; clear hr1 hr0
  rw [← hw1]
  clear hw1
  have hz1 := HR1.out.lt
  go_wp2_with fail
  refine (alive3_any _).mono ?_
  rintro e w2 ⟨rfl, hb2⟩
  have HR2 := Lib.hid (HR1.out.below hb2)
  have hb3 := hb1.trans (hb2.mono (by omega))
  have hz2 := hb2.size
  clear hb2 hb1 HR1
  go_wp2_with fail
  refine (nrNum_any _).mono ?_
  rintro e w3 ⟨rfl, rfl⟩
  go_wp2_with fail
  refine (nrCount_any _ _).mono ?_
  rintro e w3 ⟨rfl, rfl⟩
  go_wp2_with fail
  refine (nrLeft_any _).mono ?_
  rintro e w3 ⟨rfl, rfl⟩
  go_wp2_with fail
  refine (nrText_any _).mono ?_
  rintro e w3 ⟨rfl, rfl⟩
  go_wp2_with fail
  refine (nrBool_any _).mono ?_
  rintro e w3 ⟨rfl, rfl⟩
  go_wp2_with fail
  refine (nrEnd_any _).mono ?_
  rintro e w3 ⟨rfl, rfl⟩
  go_wp2_with fail
  refine (end_any w.heap.size ⟨#[]⟩ ⟨0, 0⟩ _ HR2.out (Nat.zero_le _) (by decide)).mono ?_
  rw [zEnd]
  rintro e w4 ⟨rfl, q1, rfl⟩
  go_wp2_with fail
  refine (left_any w.heap.size 0 ⟨#[]⟩ 0 _ (HR2.out.drewN _) (Nat.zero_le _) (by decide)).mono ?_
  rw [show (((⟨#[]⟩ : ByteArray).size - 0 : Nat) : Int) = 0 from by decide]
  rintro e w5 ⟨rfl, q2, rfl⟩
  go_wp2_with fail
  refine (rNum_any w.heap.size ⟨#[]⟩ ⟨0, 0⟩ _ (HR2.out.drewN _) (Nat.zero_le _) (by decide)).mono ?_
  rw [zNum]
  rintro e w6 ⟨rfl, hr6, hm6⟩
  have hc6 := hr6.cell0
  go_wp2_with fail
  refine (wrong_any w.heap.size 5 _ hc6).mono ?_
  rintro e w7 ⟨rfl, rfl⟩
  go_wp2
  go_ret
  exact ⟨rfl, (drewN_below hb3 _).trans (hm6.below (by simp) (by show w.heap.size ≤ w2.heap.size; omega))⟩
end Go.Proofs.Ytfjdcmhhnknojaa
