/-
  The reference's reader as contracts: num (a number at the front of a text).
  Conditions: texts of at most 10^9 bytes.
-/
import Derived.Test.YtkcecijepbceiaaRw1B
namespace Go.Proofs.Ytkcecijepbceiaa
open Go.RowKit

theorem unit_step {j U : Nat} (hj : j ≤ 9) (hU : U = 128 ^ j) : ∃ U' : Nat, IntKind.u64.wrap ((U : Int) * 128) = (U' : Int) ∧ (j < 9 → U' = 128 ^ (j + 1)) := by
  by_cases h9 : j < 9
  · refine ⟨U * 128, ?_, fun _ => by rw [hU, Nat.pow_succ]⟩
    have h1 := Nat.pow_le_pow_right (n := 128) (by omega) (show j ≤ 8 by omega)
    have h2 : (128 : Nat) ^ 8 = 72057594037927936 := by decide
    rw [IntKind.wrap_u64]
    omega
  · refine ⟨(IntKind.u64.wrap ((U : Int) * 128)).toNat, ?_, fun h => absurd h h9⟩
    rw [Int.toNat_of_nonneg]
    rw [IntKind.wrap_u64]
    omega
theorem part_fits {acc c j U : Nat} (hj : j ≤ 9) (hc : c < 256) (h9 : j = 9 → c ≤ 1) (hU : U = 128 ^ j) (ha : acc < 128 ^ j) : acc + c % 128 * U < 18446744073709551616 := by
  subst hU
  by_cases h : j < 9
  · have h1 := Nat.pow_le_pow_right (n := 128) (by omega) (show j ≤ 8 by omega)
    have h2 : (128 : Nat) ^ 8 = 72057594037927936 := by decide
    have h3 : c % 128 * 128 ^ j ≤ 127 * 128 ^ j := Nat.mul_le_mul_right _ (by omega)
    omega
  · have e : j = 9 := by omega
    subst e
    have h1 := h9 rfl
    have h2 : (128 : Nat) ^ 9 = 9223372036854775808 := by decide
    rw [h2] at ha ⊢
    have h3 : c % 128 * 9223372036854775808 ≤ 1 * 9223372036854775808 := Nat.mul_le_mul_right _ (by omega)
    omega
set_option maxHeartbeats 2000000 in
set_option maxRecDepth 100000 in
theorem rrnum_any (s : ByteArray) (w : World) (hs : s.size ≤ 1000000000) :
    Calls Try.prog 83 #[.string s] w fun r w' => r = .returned (.tuple #[.int .i64 (numTells s 0).1, .int .i64 (numTells s 0).2.1, .int .i64 (numTells s 0).2.2]) ∧ w = w' := by
  go_enter Try.func83, Try.ntmps83
  go_wp2
  go_loopw [5, 6, 7] (fun n u i wr => ∃ (j acc U : Nat), n = .int .u64 acc ∧ u = .int .u64 U ∧ i = .int .i64 j ∧ j ≤ 9 ∧ j ≤ s.size ∧ Hid (U = 128 ^ j) ∧ Hid (acc < 128 ^ j) ∧ Hid (Wire.dec 0 0 (s.data.toList.drop 0) = Wire.dec j acc (s.data.toList.drop j)) ∧ wr = w) (fun _ _ i _ => 10 - (intOf i).toNat)
  case atStart => exact ⟨0, 0, 1, rfl, rfl, rfl, by omega, by omega, by simp [Hid], by simp [Hid], by simp [Hid], rfl⟩
  case round =>
    obtain ⟨j, acc, U, rfl, rfl, rfl, hj, hkj, HU, HA, HD, rfl⟩ := hrel
    by_cases hlt : j < s.size
    · have b3 : decide ((s.size : Int) ≤ j) = false := by simp; omega
      obtain ⟨c, hc⟩ : ∃ c : UInt8, s[j] = c := ⟨_, rfl⟩
      have hdrop : s.data.toList.drop j = c :: s.data.toList.drop (j + 1) := by
        rw [drop_cons (byte_at s hlt), hc]
      have Hdrop := Lib.hid hdrop; clear hdrop
      have hcl := c.toNat_lt
      by_cases h9 : j = 9 ∧ 1 < c.toNat
      · obtain ⟨h9e, h1c⟩ := h9
        have h9b : ((j : Int) == 9) = true := by simp; omega
        have H9e := Lib.hid h9e; clear h9e
        have h1c' : (1 : Int) < (c.toNat : Int) := by omega
        obtain ⟨t9, h9b⟩ : ∃ t : Bool, ((j : Int) == 9) = t ∧ t = true := ⟨_, rfl, h9b⟩
        obtain ⟨h9b, rfl⟩ := h9b
        go_wp2
        go_ret3
        refine ⟨?_, rfl⟩
        have : numTells s 0 = (0, 0, ((4 : Nat) : Int)) := numTells_err (by
          rw [HD.out, Hdrop.out]
          simp only [Wire.dec]
          rw [if_pos ⟨H9e.out, h1c⟩])
        rw [this]; rfl
      · have h9c : j = 9 → c.toNat ≤ 1 := fun h => by rcases Nat.lt_or_ge 1 c.toNat with h' | h'; exact absurd ⟨h, h'⟩ h9; exact h'
        have hfit := part_fits hj hcl h9c HU.out HA.out
        obtain ⟨U', hU1, hU2⟩ := unit_step hj HU.out
        obtain ⟨P, hP⟩ : ∃ P : Nat, c.toNat % 128 * U = P := ⟨_, rfl⟩
        rw [hP] at hfit
        obtain ⟨acc', hacc'⟩ : ∃ acc' : Nat, acc + P = acc' := ⟨_, rfl⟩
        rw [hacc'] at hfit
        have hm : IntKind.u64.wrap ((c.toNat : Int) % 128 * (U : Int)) = (P : Int) := by
          have e : (c.toNat : Int) % 128 * (U : Int) = (P : Int) := by rw [← hP]; simp
          rw [e, IntKind.wrap_u64]; omega
        have ha2 : IntKind.u64.wrap ((acc : Int) + (P : Int)) = (acc' : Int) := by rw [IntKind.wrap_u64]; omega
        have hacc2 : acc + c.toNat % 128 * 128 ^ j = acc' := by rw [← HU.out, hP]; exact hacc'
        have Hacc' := Lib.hid hacc2; clear hacc2
        have Hfit := Lib.hid hfit
        have HU2 := Lib.hid hU2; clear hU2 hP hacc' hfit
        have H9c := Lib.hid h9c; clear h9c
        have H9 := Lib.hid h9; clear h9
        obtain ⟨t9, h9b, h9d⟩ : ∃ t : Bool, ((j : Int) == 9) = t ∧ (t = true → c.toNat ≤ 1) :=
          ⟨_, rfl, fun h => by
            exact H9c.out (by have := of_decide_eq_true h; omega)⟩
        have h128j : 128 ≤ c.toNat → ¬ j = 9 := fun h1 h2 => by
          have h' : c.toNat ≤ 1 := H9c.out h2
          omega
        have H128j := Lib.hid h128j; clear h128j
        by_cases h128 : 128 ≤ c.toNat
        · have hj9 := H128j.out h128
          cases t9
          · clear h9d
            go_wp2
            case roundEnd =>
              refine ⟨⟨j + 1, acc', U', rfl, rfl, by go_num, by omega, by omega, ?_, ?_, ?_, by first | rfl | trivial⟩, by simp [intOf]; omega⟩
              · exact HU2.out (by omega)
              · show _ < _
                rw [← Hacc'.out]; exact acc_step HA.out
              · show _ = _
                rw [HD.out, Hdrop.out]
                simp only [Wire.dec]
                rw [if_neg H9.out, if_pos h128, Hacc'.out]
          · exact absurd (by have := of_decide_eq_true h9b; omega) hj9
        · by_cases hz : c.toNat = 0 ∧ 0 < j
          · have hz0 : ((c.toNat : Int) == 0) = true := by simp; omega
            have hz1 : (0 : Int) < (j : Int) := by omega
            have Hz := Lib.hid hz; clear hz
            cases t9
            all_goals
              first
                | (have h9e := h9d rfl; clear h9d)
                | clear h9d
              go_wp2
              go_ret3
              refine ⟨?_, rfl⟩
              have : numTells s 0 = (0, 0, ((4 : Nat) : Int)) := numTells_err (by
                rw [HD.out, Hdrop.out]
                simp only [Wire.dec]
                rw [if_neg H9.out, if_neg h128, if_pos Hz.out])
              rw [this]; rfl
          · have Hz := Lib.hid hz
            have hzb : ((c.toNat : Int) == 0) = true → j ≤ 0 := fun h => by
              have := of_decide_eq_true h
              omega
            have hfin : numTells s 0 = (Wire.unzz acc', 0 + (j + 1), 0) := numTells_ok (by
              rw [HD.out, Hdrop.out]
              simp only [Wire.dec]
              rw [if_neg H9.out, if_neg h128, if_neg Hz.out, ← Hacc'.out, Nat.mod_eq_of_lt (by omega)])
            have Hfin := Lib.hid hfin; clear hfin hz
            have hf := Hfit.out
            have e2 : IntKind.u64.wrap ((acc' : Int) / 2) = (acc' : Int) / 2 := by rw [IntKind.wrap_u64]; omega
            have e3 : IntKind.i64.wrap ((acc' : Int) / 2) = (acc' : Int) / 2 := IntWalk.i64_in _ (by omega)
            have e4 : IntKind.i64.wrap (-((acc' : Int) / 2)) = -((acc' : Int) / 2) := IntWalk.i64_in _ (by omega)
            have e5 : IntKind.i64.wrap (-((acc' : Int) / 2) - 1) = -((acc' : Int) / 2) - 1 := IntWalk.i64_in _ (by omega)
            clear hf
            cases t9
            all_goals
              first
                | (have h9e := h9d rfl; clear h9d)
                | clear h9d
              obtain ⟨tz, hz0, hz1⟩ : ∃ t : Bool, ((c.toNat : Int) == 0) = t ∧ (t = true → j ≤ 0) := ⟨_, rfl, hzb⟩
              clear hzb
              cases tz
              all_goals
                first
                  | (have h0e := hz1 rfl; clear hz1)
                  | clear hz1
                by_cases hodd : acc' % 2 = 1
                · have o1 : ((acc' : Int) % 2 == 1) = true := by simp; omega
                  have hu : -((acc' : Int) / 2) - 1 = Wire.unzz acc' := by
                    unfold Wire.unzz; rw [if_neg (by omega)]; omega
                  have Hu := Lib.hid hu; clear hu
                  go_wp2
                  all_goals
                    go_ret3
                    rw [Hfin.out, Hu.out, Nat.zero_add]
                    exact ⟨rfl, rfl⟩
                · have o1 : ((acc' : Int) % 2 == 1) = false := by simp; omega
                  have hu : (acc' : Int) / 2 = Wire.unzz acc' := by
                    unfold Wire.unzz; rw [if_pos (by omega)]; omega
                  have Hu := Lib.hid hu; clear hu
                  go_wp2
                  all_goals
                    go_ret3
                    rw [Hfin.out, Hu.out, Nat.zero_add]
                    exact ⟨rfl, rfl⟩
    · have b1 : decide ((s.size : Int) ≤ j) = true := by simp; omega
      have hnil : s.data.toList.drop j = [] := List.drop_of_length_le (by rw [len_data]; omega)
      have Hnil := Lib.hid hnil; clear hnil
      go_wp2
      go_ret3
      refine ⟨?_, rfl⟩
      have : numTells s 0 = (0, 0, ((5 : Nat) : Int)) := numTells_err (by rw [HD.out, Hnil.out]; rfl)
      rw [this]; rfl
end Go.Proofs.Ytkcecijepbceiaa
