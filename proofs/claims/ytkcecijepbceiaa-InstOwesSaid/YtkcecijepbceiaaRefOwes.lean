/-
  The document's own MulDiv, Share, Left, Owes.
  Conditions: numbers of 64 bits.
-/
import Derived.Test.YtkcecijepbceiaaBigMost
import Derived.Test.YtkcecijepbceiaaOpenInst
import Derived.Test.YtkcecijepbceiaaInstPlain
namespace Go.Proofs.Ytkcecijepbceiaa
open Go.RowKit

theorem md_spec {a b c m : Int} (ha : 0 ≤ a) (hb : 0 ≤ b) (hc : 1 ≤ c) (h1 : m * c ≤ a * b) (h2 : m = 1152921504606846977 ∨ a * b < (m + 1) * c) (h3 : m ≤ 1152921504606846977) :
    (1152921504606846976 < m → Ow.mdE a b c = 12 ∧ Ow.mdV a b c = 0) ∧ (m ≤ 1152921504606846976 → Ow.mdE a b c = 0 ∧ Ow.mdV a b c = m) := by
  have hq1 : m ≤ a * b / c := (Int.le_ediv_iff_mul_le (by omega)).2 h1
  have hlt : a * b < (m + 1) * c → a * b / c < m + 1 := fun h => (Int.ediv_lt_iff_lt_mul (by omega)).2 h
  constructor
  · intro hm
    have he : Ow.mdE a b c = 12 := by
      unfold Ow.mdE
      rw [if_neg (by omega), if_pos (by omega)]
    exact ⟨he, by unfold Ow.mdV; rw [he]; rfl⟩
  · intro hm
    have hq2 : a * b / c < m + 1 := h2.elim (fun h => by omega) hlt
    have he : Ow.mdE a b c = 0 := by
      unfold Ow.mdE
      rw [if_neg (by omega), if_neg (by omega)]
    exact ⟨he, by unfold Ow.mdV; rw [he, if_pos rfl]; omega⟩
set_option maxHeartbeats 4000000 in
set_option maxRecDepth 100000 in
theorem rmd_any (a b c : Int) (ha1 : -9223372036854775808 ≤ a) (ha2 : a ≤ 9223372036854775807) (hb1 : -9223372036854775808 ≤ b) (hb2 : b ≤ 9223372036854775807) (hc1 : -9223372036854775808 ≤ c) (hc2 : c ≤ 9223372036854775807) (w : World) :
    Calls Try.prog 76 #[.int .i64 a, .int .i64 b, .int .i64 c] w fun e w' => e = .returned (.tuple #[.int .i64 (Ow.mdV a b c), .int .i64 (Ow.mdE a b c)]) ∧ Below w.heap.size w w' := by
  by_cases hbad : a < 0 ∨ b < 0 ∨ c < 1
  · have he : Ow.mdE a b c = 1 := by unfold Ow.mdE; rw [if_pos hbad]
    have hv : Ow.mdV a b c = 0 := by unfold Ow.mdV; rw [he]; rfl
    rw [he, hv]
    clear he hv
    rcases (show a < 0 ∨ (0 ≤ a ∧ b < 0) ∨ (0 ≤ a ∧ 0 ≤ b ∧ c < 1) by omega) with h | ⟨h, h'⟩ | ⟨h, h', h''⟩
    all_goals
      clear hbad
      go_enter Try.func76, Try.ntmps76
      go_wp2
      go_ret2
      exact ⟨rfl, Below.refl _ _⟩
  · have ha : 0 ≤ a := by omega
    have hb : 0 ≤ b := by omega
    have hc : 1 ≤ c := by omega
    have hab : 0 ≤ a * b := Int.mul_nonneg ha hb
    have HAB := Lib.hid hab
    have HSP := Lib.hid (fun (m : Int) => md_spec (m := m) ha hb hc)
    have d0 : decide (a < 0) = false := decide_eq_false (by omega)
    have d1 : decide (b < 0) = false := decide_eq_false (by omega)
    have d2 : decide (c < 1) = false := decide_eq_false (by omega)
    clear hbad hab
    go_enter Try.func76, Try.ntmps76
    go_wp2_with fail
    refine (of_any a ha ha2 _).mono ?_
    rintro e w1 ⟨a0, a1, a2, rfl, hA, hb1'⟩
    have HB1 := Lib.hid hb1'; have HA := Lib.hid hA
    clear hb1' hA
    go_wp2_with fail
    refine (of_any b hb hb2 _).mono ?_
    rintro e w2 ⟨b0, b1, b2, rfl, hB, hb2'⟩
    have HB2 := Lib.hid (HB1.out.trans (hb2'.mono HB1.out.size)); have HB := Lib.hid hB
    clear hb2' hB HB1
    go_wp2_with fail
    refine (mul_any a b a0 a1 a2 b0 b1 b2 HA.out HB.out _).mono ?_
    rintro e w3 ⟨p0, p1, p2, p3, p4, p5, rfl, hP, hb3'⟩
    have HB3 := Lib.hid (HB2.out.trans (hb3'.mono HB2.out.size)); have HP := Lib.hid hP
    clear hb3' hP HB2 HA HB
    go_wp2_with fail
    refine (of_any c (by omega) hc2 _).mono ?_
    rintro e w4 ⟨c0, c1, c2, rfl, hC, hb4'⟩
    have HB4 := Lib.hid (HB3.out.trans (hb4'.mono HB3.out.size)); have HC := Lib.hid hC
    clear hb4' hC HB3
    go_wp2_with fail
    refine (most_any (a * b) c p0 p1 p2 p3 p4 p5 c0 c1 c2 HP.out HC.out HAB.out _).mono ?_
    rintro e w5 ⟨m, rfl, hm0, hm1, hm2, hm3, hb5'⟩
    have HB5 := Lib.hid (HB4.out.trans (hb5'.mono HB4.out.size))
    have HS := Lib.hid (HSP.out m hm2 hm3 hm1)
    clear hb5' HB4 HSP hm2 hm3
    by_cases hm : 1152921504606846976 < m
    · have HE := Lib.hid (HS.out.1 hm)
      go_wp2
      go_ret2
      rw [HE.out.1, HE.out.2]
      exact ⟨rfl, HB5.out⟩
    · have HE := Lib.hid (HS.out.2 (by omega))
      go_wp2
      go_ret2
      rw [HE.out.1, HE.out.2]
      exact ⟨rfl, HB5.out⟩
theorem rshare_any (a d q : Int) (ha1 : -9223372036854775808 ≤ a) (ha2 : a ≤ 9223372036854775807) (hb1 : -9223372036854775808 ≤ d) (hb2 : d ≤ 9223372036854775807) (hc1 : -9223372036854775808 ≤ q) (hc2 : q ≤ 9223372036854775807) (w : World) :
    Calls Try.prog 37 #[.int .i64 a, .int .i64 d, .int .i64 q] w fun e w' => e = .returned (.tuple #[.int .i64 (Ow.shV a d q), .int .i64 (Ow.shE a d q)]) ∧ Below w.heap.size w w' := by
  by_cases hbad : d < 0 ∨ q < d
  · have he : Ow.shE a d q = 1 := by unfold Ow.shE; rw [if_pos hbad]
    have hv : Ow.shV a d q = 0 := by unfold Ow.shV; rw [he]; rfl
    rw [he, hv]
    clear he hv
    rcases (show d < 0 ∨ (0 ≤ d ∧ q < d) by omega) with h | ⟨h, h'⟩
    all_goals
      clear hbad
      go_enter Try.func37, Try.ntmps37
      go_wp2
      go_ret2
      exact ⟨rfl, Below.refl _ _⟩
  · have he : Ow.shE a d q = Ow.mdE a d q := by unfold Ow.shE; rw [if_neg hbad]
    have hv : Ow.shV a d q = Ow.mdV a d q := by unfold Ow.shV Ow.mdV; rw [he]
    rw [he, hv]
    have d0 : decide (d < 0) = false := decide_eq_false (by omega)
    have d1 : decide (q < d) = false := decide_eq_false (by omega)
    have HM := Lib.hid (rmd_any a d q ha1 ha2 hb1 hb2 hc1 hc2 w)
    clear he hv hbad
    go_enter Try.func37, Try.ntmps37
    go_wp2_with fail
    refine HM.out.mono ?_
    rintro e w1 ⟨rfl, hb⟩
    go_wp2
    go_ret2
    exact ⟨rfl, hb⟩
end Go.Proofs.Ytkcecijepbceiaa
