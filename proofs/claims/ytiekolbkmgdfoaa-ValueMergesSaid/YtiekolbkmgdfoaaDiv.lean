/-
  math/bits.Div64 as a contract: the quotient of 128 bits by 64.
  Conditions: numbers of 64 bits; the upper half below the divisor.
-/
import Derived.WalkKit
import Derived.Lib.Hide
import Derived.Lib.ItoaNum
import Derived.Deep.QuietTactic
import Derived.BigQuiet
import Derived.Deep.DeepCutAuto
import Derived.KernelRfl
import Derived.Outline
import Derived.Laws.Bits64b
import Derived.Test.YtiekolbkmgdfoaaBytes
import Derived.Test.YtiekolbkmgdfoaaShelf
import Derived.Test.YtiekolbkmgdfoaaDivPlain
namespace Go.Proofs.Ytiekolbkmgdfoaa
open Go.RowKit

theorem ret2_of {a b : Int} {r : Value} (h : a = b) : Ending.returned (.tuple #[.int .u64 a, r]) = .returned (.tuple #[.int .u64 b, r]) := by rw [h]
theorem or_join (s : Nat) (hs : s ≤ 64) (a lo : Nat) (ha : a * 2 ^ s < 18446744073709551616) (hl : lo < 18446744073709551616) :
    bits .or .u64 ((a * 2 ^ s : Nat) : Int) ((lo / 2 ^ (64 - s) : Nat) : Int) = ((a * 2 ^ s + lo / 2 ^ (64 - s) : Nat) : Int) := by
  have hp : 0 < 2 ^ s := Nat.two_pow_pos s
  have h1 : lo / 2 ^ (64 - s) < 2 ^ s := by
    rw [Nat.div_lt_iff_lt_mul (Nat.two_pow_pos _), Nat.mul_comm, Dv.two_pow_64 s hs]; exact hl
  have h2 : lo / 2 ^ (64 - s) < 18446744073709551616 := Nat.lt_of_le_of_lt (Nat.div_le_self _ _) hl
  rw [bits_or_u64_nat _ _ ha h2]
  have h3 := Nat.two_pow_add_eq_or_of_lt h1 a
  rw [Nat.mul_comm a, ← h3]
theorem mask32 (a : Nat) (ha : a < 18446744073709551616) : bits .and .u64 (a : Int) 4294967295 = ((a % 4294967296 : Nat) : Int) := by
  have h := bits_and_u64_nat a 4294967295 ha (by omega)
  have e : a &&& 4294967295 = a % 4294967296 := Nat.and_two_pow_sub_one_eq_mod a 32
  rw [e] at h
  exact h
theorem wrap_rest {U un1 q1 Y : Nat} (hq : q1 = (U * 4294967296 + un1) / Y) (hY : Y < 18446744073709551616) (hY0 : 0 < Y) :
    IntKind.u64.wrap (IntKind.u64.wrap (IntKind.u64.wrap ((U : Int) * 4294967296) + (un1 : Int)) - IntKind.u64.wrap ((q1 : Int) * (Y : Int))) = (((U * 4294967296 + un1) % Y : Nat) : Int) := by
  have h1 := Nat.div_add_mod (U * 4294967296 + un1) Y
  have h2 := Nat.mod_lt (U * 4294967296 + un1) hY0
  rw [← hq] at h1
  obtain ⟨P, hP⟩ : ∃ P : Nat, P = Y * q1 := ⟨_, rfl⟩
  have e : (q1 : Int) * (Y : Int) = (P : Int) := by rw [hP, Int.natCast_mul, Int.mul_comm]
  rw [← hP] at h1
  rw [e]
  simp only [IntKind.wrap_u64]
  omega

set_option maxHeartbeats 1000000 in
set_option maxRecDepth 100000 in
theorem div64_small (lo y : Nat) (hl : lo < 18446744073709551616) (hy : y < 18446744073709551616) (h : 0 < y) (w : World) :
    Calls Try.prog 26 #[.int .u64 0, .int .u64 lo, .int .u64 y] w fun e w' => (∃ r : Int, e = .returned (.tuple #[.int .u64 (lo / y : Nat), .int .u64 r])) ∧ ∃ q, w' = w.drewN q := by
  have hy0 : ((y : Int) == 0) = false := by simp; omega
  go_enter Try.func26, Try.ntmps26
  go_wp2
  go_quiet (fail)
  rename_i nq
  go_wp2
  go_ret2
  have e : IntKind.u64.wrap ((lo : Int) / (y : Int)) = ((lo / y : Nat) : Int) := by
    have e2 : (lo : Int) / (y : Int) = ((lo / y : Nat) : Int) := by simp
    have e3 : lo / y ≤ lo := Nat.div_le_self _ _
    rw [e2]
    generalize lo / y = d at e3
    rw [IntKind.wrap_u64]; omega
  exact ⟨⟨(lo : Int) % (y : Int), by rw [← e]; rfl⟩, nq, rfl⟩

/-- A round of the loop that sets a digit right: what it comes to. -/
theorem dg_round {yn1 yn0 U un1 Y : Nat} (hYe : Y = yn1 * 4294967296 + yn0) (h0 : yn0 < 4294967296) (hU : U < Y) (h1 : un1 < 4294967296) {q r : Int} (hq0 : 0 ≤ q) (hq1 : q ≤ 4294967297) (hr0 : 0 ≤ r) (hr1 : r < 4294967296)
    (hi : q.toNat * yn1 + r.toNat = U) (hle : (U * 4294967296 + un1) / Y ≤ q.toNat) :
    ∃ P : Int, q * (yn0 : Int) = P ∧ 0 ≤ P ∧ P < 18446744073709551616 ∧
      ((4294967296 ≤ q ∨ q < 4294967296 ∧ 4294967296 * r + (un1 : Int) < P) → 1 ≤ q ∧ (q - 1).toNat * yn1 + (r + (yn1 : Int)).toNat = U ∧ (U * 4294967296 + un1) / Y ≤ (q - 1).toNat ∧ (4294967296 ≤ r + (yn1 : Int) → (q - 1).toNat = (U * 4294967296 + un1) / Y)) ∧
      (q < 4294967296 → P ≤ 4294967296 * r + (un1 : Int) → q.toNat = (U * 4294967296 + un1) / Y) := by
  obtain ⟨a, rfl⟩ : ∃ a : Nat, q = a := ⟨q.toNat, by omega⟩
  obtain ⟨b, rfl⟩ : ∃ b : Nat, r = b := ⟨r.toNat, by omega⟩
  rw [Int.toNat_natCast] at *
  rw [Int.toNat_natCast] at *
  have hm : a * yn0 ≤ 4294967297 * 4294967295 := Nat.mul_le_mul (by omega) (by omega)
  obtain ⟨P, hP⟩ : ∃ P : Nat, a * yn0 = P := ⟨_, rfl⟩
  rw [hP] at hm
  refine ⟨(P : Int), by rw [← hP]; simp, by omega, by omega, fun hc => ?_, fun h2 h3 => ?_⟩
  · have hd := Dv.down hYe rfl hi h1 hU (by rw [hP]; omega)
    have hp : 1 ≤ a := Nat.le_trans (Nat.le_add_left 1 _) hd
    obtain ⟨a', rfl⟩ : ∃ a', a = a' + 1 := ⟨a - 1, by omega⟩
    have e1 : (((a' + 1 : Nat) : Int) - 1).toNat = a' := by omega
    have e2 : ((b : Int) + (yn1 : Int)).toNat = b + yn1 := by omega
    have e3 : a' * yn1 + (b + yn1) = U := by rw [Nat.add_mul] at hi; omega
    have e4 : (U * 4294967296 + un1) / Y ≤ a' := Nat.le_of_succ_le_succ hd
    rw [e1, e2]
    refine ⟨by omega, e3, e4, fun h4 => ?_⟩
    exact Dv.up hYe rfl e3 hU (Dv.far h0 (by omega) (by omega)) e4
  · exact Dv.up hYe rfl hi hU (by rw [hP]; omega) hle

set_option maxHeartbeats 4000000 in
set_option maxRecDepth 100000 in
theorem div64_any (hi lo y : Nat) (hl : lo < 18446744073709551616) (hy : y < 18446744073709551616) (h : hi < y) (h0 : 0 < hi) (w : World) :
    Calls Try.prog 26 #[.int .u64 hi, .int .u64 lo, .int .u64 y] w fun e w' => (∃ r : Int, e = .returned (.tuple #[.int .u64 ((hi * 18446744073709551616 + lo) / y : Nat), .int .u64 r])) ∧ w = w' := by
  have hy0 : ((y : Int) == 0) = false := by simp; omega
  have hhi0 : ((hi : Int) == 0) = false := by simp; omega
  have hb := Lib.bitLenAux_bounds 64 y (by omega) (by omega)
  have hL := Lib.bitLen_le y 64 (by omega) (by omega)
  have hc1 := Try.bits_LeadingZeros64 (y : Int) w (by omega) (by omega)
  obtain ⟨L, HL⟩ : ∃ L : Nat, Hid (Lib.bitLen y = L) := ⟨_, rfl⟩
  have hbb : 1 ≤ L ∧ 2 ^ (L - 1) ≤ y ∧ y < 2 ^ L ∧ L ≤ 64 := by rw [← HL.out]; exact ⟨hb.1, hb.2.1, hb.2.2, hL⟩
  obtain ⟨b1, b2, b3, b4⟩ := hbb
  clear hb hL
  rw [Int.toNat_natCast, HL.out] at hc1
  have e1 : (64 : Int) - (L : Int) = ((64 - L : Nat) : Int) := by omega
  rw [e1] at hc1
  obtain ⟨s, hs⟩ : ∃ s : Nat, s = 64 - L := ⟨_, rfl⟩
  rw [← hs] at hc1
  have hs64 : s < 64 := by omega
  have HC := Lib.hid hc1; clear hc1 e1
  -- the numbers of the division, each by its name
  have hp : 0 < 2 ^ s := Nat.two_pow_pos s
  have hYlt : y * 2 ^ s < 18446744073709551616 := by
    have h1 : y * 2 ^ s < 2 ^ L * 2 ^ s := Nat.mul_lt_mul_of_pos_right b3 hp
    rw [← Nat.pow_add, show L + s = 64 from by omega] at h1
    exact h1
  have hYge : 9223372036854775808 ≤ y * 2 ^ s := by
    have h1 : 2 ^ (L - 1) * 2 ^ s ≤ y * 2 ^ s := Nat.mul_le_mul_right _ b2
    rw [← Nat.pow_add, show L - 1 + s = 63 from by omega] at h1
    exact h1
  have hHlt : hi * 2 ^ s < 18446744073709551616 := Nat.lt_of_le_of_lt (Nat.mul_le_mul_right _ (Nat.le_of_lt h)) hYlt
  have hUlt := Dv.shifted_lt (hi := hi) (lo := lo) (y := y) (s := s) (by omega) hl h
  have hfin := Dv.shifted (hi := hi) (lo := lo) (y := y) (s := s) (by omega)
  have hor := or_join s (by omega) hi lo hHlt hl
  have eY : IntKind.u64.wrap ((y : Int) * 2 ^ s) = ((y * 2 ^ s : Nat) : Int) := by
    have e : (y : Int) * 2 ^ s = ((y * 2 ^ s : Nat) : Int) := by simp
    rw [e, IntKind.wrap_u64]; omega
  have eH : IntKind.u64.wrap ((hi : Int) * 2 ^ s) = ((hi * 2 ^ s : Nat) : Int) := by
    have e : (hi : Int) * 2 ^ s = ((hi * 2 ^ s : Nat) : Int) := by simp
    rw [e, IntKind.wrap_u64]; omega
  have eZ : IntKind.u64.wrap ((lo : Int) * 2 ^ s) = ((lo * 2 ^ s % 18446744073709551616 : Nat) : Int) := by
    have e : (lo : Int) * 2 ^ s = ((lo * 2 ^ s : Nat) : Int) := by simp
    rw [e, IntKind.wrap_u64]; omega
  have eL : (lo : Int) / 2 ^ (64 - s) = ((lo / 2 ^ (64 - s) : Nat) : Int) := by simp
  obtain ⟨Y, HY⟩ : ∃ Y : Nat, y * 2 ^ s = Y := ⟨_, rfl⟩
  obtain ⟨hiS, HHS⟩ : ∃ hiS : Nat, hi * 2 ^ s = hiS := ⟨_, rfl⟩
  obtain ⟨loS, HLS⟩ : ∃ loS : Nat, lo / 2 ^ (64 - s) = loS := ⟨_, rfl⟩
  obtain ⟨Z, HZ⟩ : ∃ Z : Nat, lo * 2 ^ s % 18446744073709551616 = Z := ⟨_, rfl⟩
  obtain ⟨U, HU⟩ : ∃ U : Nat, hiS + loS = U := ⟨_, rfl⟩
  rw [HY] at hYlt hYge hUlt hfin eY
  rw [HHS] at hHlt hUlt hfin eH hor
  rw [HLS] at hUlt hfin eL hor
  rw [HZ] at hfin eZ
  rw [HU] at hUlt hfin hor
  have hZlt : Z < 18446744073709551616 := by omega
  have mY := mask32 Y hYlt
  have mZ := mask32 Z hZlt
  obtain ⟨yn1, h1⟩ : ∃ yn1 : Nat, Y / 4294967296 = yn1 := ⟨_, rfl⟩
  obtain ⟨yn0, h2⟩ : ∃ yn0 : Nat, Y % 4294967296 = yn0 := ⟨_, rfl⟩
  obtain ⟨un1, h3⟩ : ∃ un1 : Nat, Z / 4294967296 = un1 := ⟨_, rfl⟩
  obtain ⟨un0, h4⟩ : ∃ un0 : Nat, Z % 4294967296 = un0 := ⟨_, rfl⟩
  rw [h2] at mY
  rw [h4] at mZ
  have dY : (Y : Int) / 4294967296 = (yn1 : Int) := by omega
  have dZ : (Z : Int) / 4294967296 = (un1 : Int) := by omega
  have hYe : Y = yn1 * 4294967296 + yn0 := by omega
  have hZe : Z = un1 * 4294967296 + un0 := by omega
  have by0 : yn0 < 4294967296 := by omega
  have by1 : 2147483648 ≤ yn1 := by omega
  have by2 : yn1 < 4294967296 := by omega
  have bu0 : un0 < 4294967296 := by omega
  have bu1 : un1 < 4294967296 := by omega
  have hyn : ((yn1 : Int) == 0) = false := by simp; omega
  have hq := Dv.most hYe by0 by1 hUlt
  have hst := Dv.start (un32 := U) (un1 := un1) hYe rfl bu1 (by omega)
  obtain ⟨qs, h5⟩ : ∃ qs : Nat, U / yn1 = qs := ⟨_, rfl⟩
  obtain ⟨rs, h6⟩ : ∃ rs : Nat, U % yn1 = rs := ⟨_, rfl⟩
  have hqr : qs * yn1 + rs = U := by rw [← h5, ← h6, Nat.mul_comm]; exact Nat.div_add_mod _ _
  have hrs : rs < 4294967296 := by have := Nat.mod_lt U (show 0 < yn1 by omega); omega
  rw [h5] at hq hst
  have eq1 : IntKind.u64.wrap ((U : Int) / (yn1 : Int)) = (qs : Int) := by
    have e : (U : Int) / (yn1 : Int) = (qs : Int) := by rw [← h5]; simp
    rw [e, IntKind.wrap_u64]; omega
  have eq1' : (U : Int) / (yn1 : Int) = (qs : Int) := by rw [← h5]; simp
  have er1 : IntKind.u64.wrap ((U : Int) - IntKind.u64.wrap ((qs : Int) * (yn1 : Int))) = (rs : Int) := by
    have e : (qs : Int) * (yn1 : Int) = ((qs * yn1 : Nat) : Int) := by simp
    rw [e]; simp only [IntKind.wrap_u64]; omega
  clear h1 h2 h3 h4 h5 h6 HU HZ HLS HHS HY HL
  have HYE := Lib.hid hYe; clear hYe
  have HZE := Lib.hid hZe; clear hZe
  have Hst := Lib.hid hst; clear hst
  have Hqr := Lib.hid hqr; clear hqr
  have Hfin := Lib.hid hfin; clear hfin
  have Hs := Lib.hid hs; clear hs
  clear b2 b3
  go_enter Try.func26, Try.ntmps26
  go_wp2_with fail
  refine HC.out.mono ?_
  rintro e w' ⟨rfl, hw'⟩
  rw [hw']
  clear hw'
  go_wp2
  clear eY eH eL eZ hor mY mZ dY dZ eq1 eq1' er1 HC
  go_loopw [15, 16] (fun a b wr => ∃ q r : Int, wr = w ∧ a = .int .u64 q ∧ b = .int .u64 r ∧ 0 ≤ q ∧ q ≤ 4294967297 ∧ 0 ≤ r ∧ r < 4294967296 ∧ Hid (q.toNat * yn1 + r.toNat = U) ∧ Hid ((U * 4294967296 + un1) / Y ≤ q.toNat)) (fun a _ _ => (intOf a).toNat)
  case atStart => exact ⟨qs, rs, rfl, rfl, rfl, by omega, by omega, by omega, by omega, Hqr.out, Hst.out⟩
  case round =>
    obtain ⟨q, r, rfl, rfl, rfl, bq0, bq, br0, br, HI, HLe⟩ := hrel
    clear hq hrs Hqr Hst
    obtain ⟨P, hPi, hP0, hP1, hyes, hno⟩ := dg_round HYE.out by0 hUlt bu1 bq0 bq br0 br HI.out HLe.out
    obtain ⟨r', hr'⟩ : ∃ r' : Int, r + (yn1 : Int) = r' := ⟨_, rfl⟩
    obtain ⟨q', hq'⟩ : ∃ q' : Int, q - 1 = q' := ⟨_, rfl⟩
    rw [hr', hq'] at hyes
    have hr'b : 0 ≤ r' ∧ r' < 18446744073709551616 := by omega
    obtain ⟨hr'0, hr'1⟩ := hr'b
    have hcs : ((4294967296 ≤ q ∨ q < 4294967296 ∧ 4294967296 * r + (un1 : Int) < P) ∧ r' < 4294967296) ∨ ((4294967296 ≤ q ∨ q < 4294967296 ∧ 4294967296 * r + (un1 : Int) < P) ∧ 4294967296 ≤ r') ∨ (q < 4294967296 ∧ P ≤ 4294967296 * r + (un1 : Int)) := by omega
    have Hyes := Lib.hid hyes; clear hyes
    have Hno := Lib.hid hno; clear hno
    clear HI HLe
    rcases hcs with ⟨hc, hr⟩ | ⟨hc, hr⟩ | ⟨hc, hr⟩
    · obtain ⟨hq1, HI', HLe', _⟩ := Hyes.out hc
      have HI2 := Lib.hid HI'; clear HI'
      have HLe2 := Lib.hid HLe'; clear HLe'
      rcases hc with hc | ⟨hc, hc2⟩
      all_goals
        go_wp2
        go_roundw
        case rel => exact ⟨q', r', trivial, rfl, rfl, by omega, by omega, by omega, by omega, HI2.out, HLe2.out⟩
        case measure => simp [intOf]; omega
    case' inr.inl =>
      obtain ⟨hq1, _, _, hdone⟩ := Hyes.out hc
      obtain ⟨q1, hx⟩ : ∃ q1 : Nat, q' = q1 := ⟨q'.toNat, by omega⟩
      have Hq1 : Hid (q1 = (U * 4294967296 + un1) / Y) := by have := hdone hr; rw [hx, Int.toNat_natCast] at this; exact this
      clear hdone
      have hq1b : q1 < 4294967296 := by rw [Hq1.out]; exact Dv.lt_base rfl bu1 hUlt
      have hv : 0 ≤ q' ∧ q' < 4294967296 := by omega
    case' inr.inr =>
      obtain ⟨q1, hx⟩ : ∃ q1 : Nat, q = q1 := ⟨q.toNat, by omega⟩
      have Hq1 : Hid (q1 = (U * 4294967296 + un1) / Y) := by have := Hno.out hc hr; rw [hx, Int.toNat_natCast] at this; exact this
      have hq1b : q1 < 4294967296 := by rw [Hq1.out]; exact Dv.lt_base rfl bu1 hUlt
      have hv : 0 ≤ q ∧ q < 4294967296 := by omega
    all_goals
      have h21 := wrap_rest (U := U) (un1 := un1) (q1 := q1) (Y := Y) Hq1.out hYlt (by omega)
      obtain ⟨R, hR⟩ : ∃ R : Nat, R = (U * 4294967296 + un1) % Y := ⟨_, rfl⟩
      have hRlt : R < Y := by rw [hR]; exact Nat.mod_lt _ (by omega)
      rw [← hR, ← hx] at h21
      obtain ⟨hv0, hv1⟩ := hv
      have HX1 := Lib.hid hx; clear hx hq1b
      have HR := Lib.hid hR; clear hR
      have hqq := Dv.most HYE.out by0 by1 hRlt
      have hst2 := Dv.start (un32 := R) (un1 := un0) HYE.out rfl bu0 (by omega)
      obtain ⟨qt, h5⟩ : ∃ qt : Nat, R / yn1 = qt := ⟨_, rfl⟩
      obtain ⟨rt, h6⟩ : ∃ rt : Nat, R % yn1 = rt := ⟨_, rfl⟩
      have hqr2 : qt * yn1 + rt = R := by rw [← h5, ← h6, Nat.mul_comm]; exact Nat.div_add_mod _ _
      have hrt : rt < 4294967296 := by have := Nat.mod_lt R (show 0 < yn1 by omega); omega
      rw [h5] at hqq hst2
      have eq2 : IntKind.u64.wrap ((R : Int) / (yn1 : Int)) = (qt : Int) := by
        have e : (R : Int) / (yn1 : Int) = (qt : Int) := by rw [← h5]; simp
        rw [e, IntKind.wrap_u64]; omega
      have eq2' : (R : Int) / (yn1 : Int) = (qt : Int) := by rw [← h5]; simp
      have er2 : IntKind.u64.wrap ((R : Int) - IntKind.u64.wrap ((qt : Int) * (yn1 : Int))) = (rt : Int) := by
        have e : (qt : Int) * (yn1 : Int) = ((qt * yn1 : Nat) : Int) := by simp
        rw [e]; simp only [IntKind.wrap_u64]; omega
      clear h5 h6
      have Hst2 := Lib.hid hst2; clear hst2
      have Hqr2 := Lib.hid hqr2; clear hqr2
    case' inr.inl => rcases hc with hc | ⟨hc, hc2⟩
    all_goals
      go_wp2
      clear eq2 eq2' er2 h21 hPi hq'
      try clear hr'
      go_loopw [18, 16] (fun a b wz => ∃ q r : Int, wz = wr ∧ a = .int .u64 q ∧ b = .int .u64 r ∧ 0 ≤ q ∧ q ≤ 4294967297 ∧ 0 ≤ r ∧ r < 4294967296 ∧ Hid (q.toNat * yn1 + r.toNat = R) ∧ Hid ((R * 4294967296 + un0) / Y ≤ q.toNat)) (fun a _ _ => (intOf a).toNat)
      case atStart => exact ⟨qt, rt, rfl, rfl, rfl, by omega, by omega, by omega, by omega, Hqr2.out, Hst2.out⟩
      case round =>
        clear hc hr hP0 hP1 bq0 bq br0 br hr'0 hr'1
        try clear hc2
        try clear hq1
        clear Hyes Hno
        obtain ⟨q, r, rfl, rfl, rfl, bq0, bq, br0, br, HI, HLe⟩ := hrel
        clear hqq hrt Hqr2 Hst2
        obtain ⟨P, hPi, hP0, hP1, hyes, hno⟩ := dg_round HYE.out by0 hRlt bu0 bq0 bq br0 br HI.out HLe.out
        obtain ⟨r', hr'⟩ : ∃ r' : Int, r + (yn1 : Int) = r' := ⟨_, rfl⟩
        obtain ⟨q', hq'⟩ : ∃ q' : Int, q - 1 = q' := ⟨_, rfl⟩
        rw [hr', hq'] at hyes
        have hr'b : 0 ≤ r' ∧ r' < 18446744073709551616 := by omega
        obtain ⟨hr'0, hr'1⟩ := hr'b
        have hcs : ((4294967296 ≤ q ∨ q < 4294967296 ∧ 4294967296 * r + (un0 : Int) < P) ∧ r' < 4294967296) ∨ ((4294967296 ≤ q ∨ q < 4294967296 ∧ 4294967296 * r + (un0 : Int) < P) ∧ 4294967296 ≤ r') ∨ (q < 4294967296 ∧ P ≤ 4294967296 * r + (un0 : Int)) := by omega
        have Hyes := Lib.hid hyes; clear hyes
        have Hno := Lib.hid hno; clear hno
        clear HI HLe
        rcases hcs with ⟨hc, hr⟩ | ⟨hc, hr⟩ | ⟨hc, hr⟩
        · obtain ⟨hq1, HI', HLe', _⟩ := Hyes.out hc
          have HI2 := Lib.hid HI'; clear HI'
          have HLe2 := Lib.hid HLe'; clear HLe'
          rcases hc with hc | ⟨hc, hc2⟩
          all_goals
            go_wp2
            go_roundw
            case rel => exact ⟨q', r', trivial, rfl, rfl, by omega, by omega, by omega, by omega, HI2.out, HLe2.out⟩
            case measure => simp [intOf]; omega
        case' inr.inl =>
          obtain ⟨hq1, _, _, hdone⟩ := Hyes.out hc
          obtain ⟨q0, hx⟩ : ∃ q0 : Nat, q' = q0 := ⟨q'.toNat, by omega⟩
          have Hq0 : Hid (q0 = (R * 4294967296 + un0) / Y) := by have := hdone hr; rw [hx, Int.toNat_natCast] at this; exact this
          clear hdone
          have hq0b : q0 < 4294967296 := by rw [Hq0.out]; exact Dv.lt_base rfl bu0 hRlt
          have hv : 0 ≤ q' ∧ q' < 4294967296 := by omega
        case' inr.inr =>
          obtain ⟨q0, hx⟩ : ∃ q0 : Nat, q = q0 := ⟨q.toNat, by omega⟩
          have Hq0 : Hid (q0 = (R * 4294967296 + un0) / Y) := by have := Hno.out hc hr; rw [hx, Int.toNat_natCast] at this; exact this
          have hq0b : q0 < 4294967296 := by rw [Hq0.out]; exact Dv.lt_base rfl bu0 hRlt
          have hv : 0 ≤ q ∧ q < 4294967296 := by omega
        all_goals
          obtain ⟨hw0, hw1⟩ := hv
          have HX0 := Lib.hid hx; clear hx hq0b
        case' inr.inl => rcases hc with hc | ⟨hc, hc2⟩
        all_goals
          have hres : ((hi * 18446744073709551616 + lo) / y : Nat) = q1 * 4294967296 + q0 := by
            rw [← Hfin.out, HZE.out]
            exact Dv.both (by omega) Hq1.out HR.out Hq0.out
          have Hres := Lib.hid hres; clear hres
          go_wp2
          go_ret2
          exact ⟨⟨_, ret2_of (by rw [Hres.out, HX1.out, HX0.out]; simp)⟩, rfl⟩
end Go.Proofs.Ytiekolbkmgdfoaa
