/-
  NameParts, case by case (a place ahead of the twelfth).
  Conditions: each theorem's own.
-/
import Derived.Test.YtlniafpbkhkkaaaNameParts
namespace Go.Proofs.Ytlniafpbkhkkaaa
open Go.RowKit Go.Maps

set_option maxHeartbeats 4000000 in
set_option maxRecDepth 100000 in
theorem nparts_L1 (s : ByteArray) (k c : Nat) (hs9 : validS s = true) (hk1 : 1 ≤ k) (hk2 : k ≤ s.size) (hc : c < 256) (g1 : 65 ≤ c) (g2 : c ≤ 90) (hk : k < 12) (w : World) :
    Calls Try.prog 4 #[.string s, .int .i64 k, .int .u8 c] w fun e w' => e = .returned (.bool true) ∧ Below w.heap.size w w' := by
  have hv := valid_any s
  rw [hs9] at hv
  have HV := fun w => Lib.hid (hv w)
  obtain ⟨_, h12, _⟩ := validS_iff.1 hs9
  have v1 := valid_cut hs9 hk1 hk2
  have v2 := valid_with hs9 hk1 hk2 hc
  have v3 := valid_digit s
  have V1 := Lib.hid v1; have V3 := Lib.hid v3
  have hcv := conv_one c hc
  have h12i : (s.size : Int) ≤ 12 := by omega
  have hadd1 : 1 + s.size ≤ 9223372036854775807 := by omega
  have hadd2 : k + 1 ≤ 9223372036854775807 := by omega
  have hcut : (s.extract 0 k).size = k := cut_size hk2
  have hg : goodB c = true := by unfold goodB; rw [decide_eq_true (show 65 ≤ c ∧ c ≤ 90 by omega)]; rfl
  rw [hg, decide_eq_true hk] at v2
  have v2' : validS (s.extract 0 k ++ ⟨#[UInt8.ofNat c]⟩) = true := v2
  have V2 := Lib.hid v2'
  clear hv v1 v2 v2' v3 hs9 hg
  have i0 : (65 : Int) ≤ (c : Int) := by omega
  have i1 : (c : Int) ≤ 90 := by omega
  have k1 : (k : Int) < 12 := by omega
  have k2 : decide ((k : Int) < 12) = true := decide_eq_true k1
  have b1 : (true == true) = true := rfl
  have b2 : (false == false) = true := rfl
  go_enter Try.func4, Try.ntmps4
  go_wp2_with fail
  refine (HV _).out.mono ?_
  rintro e w1 ⟨rfl, rfl⟩
  go_wp2
  first
    | (go_region_held (fun _ => True) (trivial) (first
    | (go_at_call 9; refine (alive2_any _).mono ?_; rintro e w2 ⟨rfl, hb2⟩)
    | (go_at_call 13; refine (valid_any _ _).mono ?_; rintro e w3 ⟨rfl, rfl⟩; first | rw [V1.out] | rw [V2.out] | rw [V3.out])))
    | fail
  go_wp2
  go_ret
  refine ⟨rfl, ?_⟩
  have h : Below w.heap.size w w2 := ((Below.refl w.heap.size w).drew).trans hb2
  exact h.alloc h.size _

set_option maxHeartbeats 4000000 in
set_option maxRecDepth 100000 in
theorem nparts_D1 (s : ByteArray) (k c : Nat) (hs9 : validS s = true) (hk1 : 1 ≤ k) (hk2 : k ≤ s.size) (hc : c < 256) (g1 : 48 ≤ c) (g2 : c ≤ 57) (hk : k < 12) (w : World) :
    Calls Try.prog 4 #[.string s, .int .i64 k, .int .u8 c] w fun e w' => e = .returned (.bool true) ∧ Below w.heap.size w w' := by
  have hv := valid_any s
  rw [hs9] at hv
  have HV := fun w => Lib.hid (hv w)
  obtain ⟨_, h12, _⟩ := validS_iff.1 hs9
  have v1 := valid_cut hs9 hk1 hk2
  have v2 := valid_with hs9 hk1 hk2 hc
  have v3 := valid_digit s
  have V1 := Lib.hid v1; have V3 := Lib.hid v3
  have hcv := conv_one c hc
  have h12i : (s.size : Int) ≤ 12 := by omega
  have hadd1 : 1 + s.size ≤ 9223372036854775807 := by omega
  have hadd2 : k + 1 ≤ 9223372036854775807 := by omega
  have hcut : (s.extract 0 k).size = k := cut_size hk2
  have hg : goodB c = true := by unfold goodB; rw [decide_eq_false (show ¬ (65 ≤ c ∧ c ≤ 90) by omega), decide_eq_true (show 48 ≤ c ∧ c ≤ 57 by omega)]; rfl
  rw [hg, decide_eq_true hk] at v2
  have v2' : validS (s.extract 0 k ++ ⟨#[UInt8.ofNat c]⟩) = true := v2
  have V2 := Lib.hid v2'
  clear hv v1 v2 v2' v3 hs9 hg
  have i0 : (c : Int) < 65 := by omega
  have j0 : decide ((65 : Int) ≤ (c : Int)) = false := decide_eq_false (by omega)
  have i1 : (48 : Int) ≤ (c : Int) := by omega
  have i2 : (c : Int) ≤ 57 := by omega
  have k1 : (k : Int) < 12 := by omega
  have k2 : decide ((k : Int) < 12) = true := decide_eq_true k1
  have b1 : (true == true) = true := rfl
  have b2 : (false == false) = true := rfl
  go_enter Try.func4, Try.ntmps4
  go_wp2_with fail
  refine (HV _).out.mono ?_
  rintro e w1 ⟨rfl, rfl⟩
  go_wp2
  first
    | (go_region_held (fun _ => True) (trivial) (first
    | (go_at_call 9; refine (alive2_any _).mono ?_; rintro e w2 ⟨rfl, hb2⟩)
    | (go_at_call 13; refine (valid_any _ _).mono ?_; rintro e w3 ⟨rfl, rfl⟩; first | rw [V1.out] | rw [V2.out] | rw [V3.out])))
    | fail
  go_wp2
  go_ret
  refine ⟨rfl, ?_⟩
  have h : Below w.heap.size w w2 := ((Below.refl w.heap.size w).drew).trans hb2
  exact h.alloc h.size _

set_option maxHeartbeats 4000000 in
set_option maxRecDepth 100000 in
theorem nparts_A1 (s : ByteArray) (k c : Nat) (hs9 : validS s = true) (hk1 : 1 ≤ k) (hk2 : k ≤ s.size) (hc : c < 256) (g1 : c < 48) (hk : k < 12) (w : World) :
    Calls Try.prog 4 #[.string s, .int .i64 k, .int .u8 c] w fun e w' => e = .returned (.bool true) ∧ Below w.heap.size w w' := by
  have hv := valid_any s
  rw [hs9] at hv
  have HV := fun w => Lib.hid (hv w)
  obtain ⟨_, h12, _⟩ := validS_iff.1 hs9
  have v1 := valid_cut hs9 hk1 hk2
  have v2 := valid_with hs9 hk1 hk2 hc
  have v3 := valid_digit s
  have V1 := Lib.hid v1; have V3 := Lib.hid v3
  have hcv := conv_one c hc
  have h12i : (s.size : Int) ≤ 12 := by omega
  have hadd1 : 1 + s.size ≤ 9223372036854775807 := by omega
  have hadd2 : k + 1 ≤ 9223372036854775807 := by omega
  have hcut : (s.extract 0 k).size = k := cut_size hk2
  have hg : goodB c = false := by unfold goodB; rw [decide_eq_false (show ¬ (65 ≤ c ∧ c ≤ 90) by omega), decide_eq_false (show ¬ (48 ≤ c ∧ c ≤ 57) by omega)]; rfl
  rw [hg, decide_eq_true hk] at v2
  have v2' : validS (s.extract 0 k ++ ⟨#[UInt8.ofNat c]⟩) = false := v2
  have V2 := Lib.hid v2'
  clear hv v1 v2 v2' v3 hs9 hg
  have i0 : (c : Int) < 65 := by omega
  have j0 : decide ((65 : Int) ≤ (c : Int)) = false := decide_eq_false (by omega)
  have i1 : (c : Int) < 48 := by omega
  have j1 : decide ((48 : Int) ≤ (c : Int)) = false := decide_eq_false (by omega)
  have k1 : (k : Int) < 12 := by omega
  have k2 : decide ((k : Int) < 12) = true := decide_eq_true k1
  have b1 : (true == true) = true := rfl
  have b2 : (false == false) = true := rfl
  go_enter Try.func4, Try.ntmps4
  go_wp2_with fail
  refine (HV _).out.mono ?_
  rintro e w1 ⟨rfl, rfl⟩
  go_wp2
  first
    | (go_region_held (fun _ => True) (trivial) (first
    | (go_at_call 9; refine (alive2_any _).mono ?_; rintro e w2 ⟨rfl, hb2⟩)
    | (go_at_call 13; refine (valid_any _ _).mono ?_; rintro e w3 ⟨rfl, rfl⟩; first | rw [V1.out] | rw [V2.out] | rw [V3.out])))
    | fail
  go_wp2
  go_ret
  refine ⟨rfl, ?_⟩
  have h : Below w.heap.size w w2 := ((Below.refl w.heap.size w).drew).trans hb2
  exact h.alloc h.size _

set_option maxHeartbeats 4000000 in
set_option maxRecDepth 100000 in
theorem nparts_M1 (s : ByteArray) (k c : Nat) (hs9 : validS s = true) (hk1 : 1 ≤ k) (hk2 : k ≤ s.size) (hc : c < 256) (g1 : 57 < c) (g2 : c < 65) (hk : k < 12) (w : World) :
    Calls Try.prog 4 #[.string s, .int .i64 k, .int .u8 c] w fun e w' => e = .returned (.bool true) ∧ Below w.heap.size w w' := by
  have hv := valid_any s
  rw [hs9] at hv
  have HV := fun w => Lib.hid (hv w)
  obtain ⟨_, h12, _⟩ := validS_iff.1 hs9
  have v1 := valid_cut hs9 hk1 hk2
  have v2 := valid_with hs9 hk1 hk2 hc
  have v3 := valid_digit s
  have V1 := Lib.hid v1; have V3 := Lib.hid v3
  have hcv := conv_one c hc
  have h12i : (s.size : Int) ≤ 12 := by omega
  have hadd1 : 1 + s.size ≤ 9223372036854775807 := by omega
  have hadd2 : k + 1 ≤ 9223372036854775807 := by omega
  have hcut : (s.extract 0 k).size = k := cut_size hk2
  have hg : goodB c = false := by unfold goodB; rw [decide_eq_false (show ¬ (65 ≤ c ∧ c ≤ 90) by omega), decide_eq_false (show ¬ (48 ≤ c ∧ c ≤ 57) by omega)]; rfl
  rw [hg, decide_eq_true hk] at v2
  have v2' : validS (s.extract 0 k ++ ⟨#[UInt8.ofNat c]⟩) = false := v2
  have V2 := Lib.hid v2'
  clear hv v1 v2 v2' v3 hs9 hg
  have i0 : (c : Int) < 65 := by omega
  have j0 : decide ((65 : Int) ≤ (c : Int)) = false := decide_eq_false (by omega)
  have i1 : (48 : Int) ≤ (c : Int) := by omega
  have i2 : 57 < (c : Int) := by omega
  have j2 : decide ((c : Int) ≤ 57) = false := decide_eq_false (by omega)
  have k1 : (k : Int) < 12 := by omega
  have k2 : decide ((k : Int) < 12) = true := decide_eq_true k1
  have b1 : (true == true) = true := rfl
  have b2 : (false == false) = true := rfl
  go_enter Try.func4, Try.ntmps4
  go_wp2_with fail
  refine (HV _).out.mono ?_
  rintro e w1 ⟨rfl, rfl⟩
  go_wp2
  first
    | (go_region_held (fun _ => True) (trivial) (first
    | (go_at_call 9; refine (alive2_any _).mono ?_; rintro e w2 ⟨rfl, hb2⟩)
    | (go_at_call 13; refine (valid_any _ _).mono ?_; rintro e w3 ⟨rfl, rfl⟩; first | rw [V1.out] | rw [V2.out] | rw [V3.out])))
    | fail
  go_wp2
  go_ret
  refine ⟨rfl, ?_⟩
  have h : Below w.heap.size w w2 := ((Below.refl w.heap.size w).drew).trans hb2
  exact h.alloc h.size _

set_option maxHeartbeats 4000000 in
set_option maxRecDepth 100000 in
theorem nparts_H1 (s : ByteArray) (k c : Nat) (hs9 : validS s = true) (hk1 : 1 ≤ k) (hk2 : k ≤ s.size) (hc : c < 256) (g1 : 90 < c) (hk : k < 12) (w : World) :
    Calls Try.prog 4 #[.string s, .int .i64 k, .int .u8 c] w fun e w' => e = .returned (.bool true) ∧ Below w.heap.size w w' := by
  have hv := valid_any s
  rw [hs9] at hv
  have HV := fun w => Lib.hid (hv w)
  obtain ⟨_, h12, _⟩ := validS_iff.1 hs9
  have v1 := valid_cut hs9 hk1 hk2
  have v2 := valid_with hs9 hk1 hk2 hc
  have v3 := valid_digit s
  have V1 := Lib.hid v1; have V3 := Lib.hid v3
  have hcv := conv_one c hc
  have h12i : (s.size : Int) ≤ 12 := by omega
  have hadd1 : 1 + s.size ≤ 9223372036854775807 := by omega
  have hadd2 : k + 1 ≤ 9223372036854775807 := by omega
  have hcut : (s.extract 0 k).size = k := cut_size hk2
  have hg : goodB c = false := by unfold goodB; rw [decide_eq_false (show ¬ (65 ≤ c ∧ c ≤ 90) by omega), decide_eq_false (show ¬ (48 ≤ c ∧ c ≤ 57) by omega)]; rfl
  rw [hg, decide_eq_true hk] at v2
  have v2' : validS (s.extract 0 k ++ ⟨#[UInt8.ofNat c]⟩) = false := v2
  have V2 := Lib.hid v2'
  clear hv v1 v2 v2' v3 hs9 hg
  have i0 : (65 : Int) ≤ (c : Int) := by omega
  have i1 : 90 < (c : Int) := by omega
  have j1 : decide ((c : Int) ≤ 90) = false := decide_eq_false (by omega)
  have i2 : (48 : Int) ≤ (c : Int) := by omega
  have i3 : 57 < (c : Int) := by omega
  have j3 : decide ((c : Int) ≤ 57) = false := decide_eq_false (by omega)
  have k1 : (k : Int) < 12 := by omega
  have k2 : decide ((k : Int) < 12) = true := decide_eq_true k1
  have b1 : (true == true) = true := rfl
  have b2 : (false == false) = true := rfl
  go_enter Try.func4, Try.ntmps4
  go_wp2_with fail
  refine (HV _).out.mono ?_
  rintro e w1 ⟨rfl, rfl⟩
  go_wp2
  first
    | (go_region_held (fun _ => True) (trivial) (first
    | (go_at_call 9; refine (alive2_any _).mono ?_; rintro e w2 ⟨rfl, hb2⟩)
    | (go_at_call 13; refine (valid_any _ _).mono ?_; rintro e w3 ⟨rfl, rfl⟩; first | rw [V1.out] | rw [V2.out] | rw [V3.out])))
    | fail
  go_wp2
  go_ret
  refine ⟨rfl, ?_⟩
  have h : Below w.heap.size w w2 := ((Below.refl w.heap.size w).drew).trans hb2
  exact h.alloc h.size _

end Go.Proofs.Ytlniafpbkhkkaaa
