/-
  Package money's Need as a contract: the least quantity that is worth so much.
  Conditions: ints of 64 bits.
-/
import Derived.Test.YtiekolbkmgdfoaaWorth
namespace Go.Proofs.Ytiekolbkmgdfoaa
open Go.RowKit

namespace Nd
def bs (v p c : Int) : Nat → Int → Int → Int
  | 0, lo, _ => lo
  | f + 1, lo, hi => if lo < hi then (if v ≤ Wo.wV (lo + (hi - lo) / 2) p c then bs v p c f lo (lo + (hi - lo) / 2) else bs v p c f (lo + (hi - lo) / 2 + 1) hi) else lo
def most (p : Int) : Int := if 0 < p then 1152921504606846976 / p else 1152921504606846976
def found (v p c : Int) : Int := bs v p c 64 0 (most p + 1)
def needE (v p c : Int) : Int := if Wo.bad v p c then 1 else if most p < found v p c then 32 else 0
def needV (v p c : Int) : Int := if needE v p c = 0 then found v p c else 0
theorem most_range {p : Int} (hp : 0 ≤ p) : 0 ≤ most p ∧ most p ≤ 1152921504606846976 := by
  unfold most
  split
  · refine ⟨Int.ediv_nonneg (by omega) hp, ?_⟩
    exact Int.ediv_le_self _ (by omega)
  · omega
theorem pow64 : (2 : Int) ^ 64 = 18446744073709551616 := by decide
theorem bs_done {v p c : Int} {f : Nat} {lo hi : Int} (h : ¬ lo < hi) : bs v p c f lo hi = lo := by
  cases f
  · rfl
  · simp only [bs]; rw [if_neg h]
theorem bs_range (v p c : Int) (f : Nat) : ∀ lo hi : Int, lo ≤ hi → lo ≤ bs v p c f lo hi ∧ bs v p c f lo hi ≤ hi := by
  induction f with
  | zero => intro lo hi h; simp only [bs]; omega
  | succ f ih =>
    intro lo hi h
    simp only [bs]
    split
    · split
      · have := ih lo (lo + (hi - lo) / 2) (by omega); omega
      · have := ih (lo + (hi - lo) / 2 + 1) hi (by omega); omega
    · omega
end Nd

set_option maxHeartbeats 2000000 in
theorem need_any (v p c : Int) (_hv1 : -9223372036854775808 ≤ v) (_hv2 : v ≤ 9223372036854775807) (hp1 : -9223372036854775808 ≤ p) (hp2 : p ≤ 9223372036854775807) (hc1 : -9223372036854775808 ≤ c) (hc2 : c ≤ 9223372036854775807) (w : World) :
    Calls Try.prog 22 #[.int .i64 v, .int .i64 p, .int .i64 c] w fun e w' => e = .returned (.tuple #[.int .i64 (Nd.needV v p c), .int .i64 (Nd.needE v p c)]) ∧ Below w.heap.size w w' := by
  by_cases hb : Wo.bad v p c
  · have h1 : Nd.needE v p c = 1 := by unfold Nd.needE; rw [if_pos hb]
    have h2 : Nd.needV v p c = 0 := by unfold Nd.needV; rw [h1]; rfl
    rw [h1, h2]
    have HW := fun w => Lib.hid (wrong_bad v p c hb w)
    clear hb h1 h2
    go_enter Try.func22, Try.ntmps22
    go_wp2_with (go_at_call 15; refine (HW _).out.mono ?_; rintro e w' ⟨rfl, rfl⟩)
    go_ret2
    exact ⟨rfl, Below.refl _ _⟩
  · have HW := Lib.hid (wrong_fine v p c hb w)
    have he : Nd.needE v p c = if Nd.most p < Nd.found v p c then 32 else 0 := by unfold Nd.needE; rw [if_neg hb]
    unfold Wo.bad at hb
    have hmr := Nd.most_range (p := p) (by omega)
    have hmd : Nd.most p = if 0 < p then 1152921504606846976 / p else 1152921504606846976 := rfl
    obtain ⟨M, hM⟩ : ∃ M, Nd.most p = M := ⟨_, rfl⟩
    obtain ⟨R, hR⟩ : ∃ R, Nd.found v p c = R := ⟨_, rfl⟩
    have hR2 : Nd.bs v p c 64 0 (M + 1) = R := by rw [← hM]; exact hR
    rw [hM, hR] at he
    have hv : Nd.needV v p c = if Nd.needE v p c = 0 then R else 0 := by unfold Nd.needV; rw [hR]
    rw [hM] at hmr hmd
    have HE := Lib.hid he; have HV := Lib.hid hv; have HR := Lib.hid hR2
    clear he hv hM hR hR2
    by_cases hp0 : 0 < p
    · rw [if_pos hp0] at hmd
      have hpz : (p == 0) = false := by simp; omega
      have hq1 : (1152921504606846976 : Int) / p = M := hmd.symm
      have hq2 : IntKind.i64.wrap ((1152921504606846976 : Int) / p) = M := by rw [hq1, IntKind.wrap_i64]; omega
      clear hmd
      go_enter Try.func22, Try.ntmps22
      go_wp2_with (go_at_call 15; refine HW.out.mono ?_; rintro e w' ⟨rfl, rfl⟩)
      have HQ := Lib.hid hq1
      clear hq1 hq2
      go_loopw [9, 10] (fun lo hi wr => ∃ (a b : Int) (f : Nat), lo = .int .i64 a ∧ hi = .int .i64 b ∧ 0 ≤ a ∧ a ≤ b ∧ b ≤ M + 1 ∧ Hid (b - a < 2 ^ f) ∧ Hid (Nd.bs v p c f a b = R) ∧ Below w.heap.size w wr) (fun lo hi _ => (intOf hi - intOf lo).toNat)
      case atStart => exact ⟨0, M + 1, 64, rfl, rfl, by omega, by omega, by omega, by show _ < _; rw [Nd.pow64]; omega, HR.out, Below.refl _ _⟩
      case round =>
        obtain ⟨a, b, f, rfl, rfl, ha, hab, hbm, HF, HB, hbl⟩ := hrel
        have hsz := hbl.size
        by_cases hlt : a < b
        · obtain ⟨f', rfl⟩ : ∃ f', f = f' + 1 := by
            cases f with
            | zero => exfalso; have h := HF.out; rw [Int.pow_zero] at h; omega
            | succ f' => exact ⟨f', rfl⟩
          obtain ⟨m, hm⟩ : ∃ m : Int, a + (b - a) / 2 = m := ⟨_, rfl⟩
          have hmb : a ≤ m ∧ m < b := by omega
          obtain ⟨x, hx⟩ : ∃ x, Wo.wV m p c = x := ⟨_, rfl⟩
          have hstep : R = if v ≤ x then Nd.bs v p c f' a m else Nd.bs v p c f' (m + 1) b := by
            rw [← HB.out]
            simp only [Nd.bs]
            rw [if_pos hlt, hm, hx]
          have hF1 : m - a < 2 ^ f' ∧ b - (m + 1) < 2 ^ f' := by
            have h := HF.out
            rw [Int.pow_succ] at h
            omega
          have HF1 := Lib.hid hF1.1; have HF2 := Lib.hid hF1.2
          have HS := Lib.hid hstep
          have HX := Lib.hid hx
          clear hF1 hstep hx HF HB
          have hdiv : 0 ≤ b - a := by omega
          by_cases hvx : v ≤ x
          · go_wp2_with (go_at_call 9; refine (worth_any m p c (by omega) (by omega) hp1 hp2 hc1 hc2 _).mono ?_; rw [HX.out]; rintro e w1 ⟨rfl, hb1⟩)
            go_roundw
            case rel => exact ⟨a, m, f', rfl, rfl, ha, hmb.1, by omega, HF1.out, by show _ = _; rw [HS.out, if_pos hvx], hbl.trans (hb1.mono hsz)⟩
            case measure => simp [intOf]; omega
          · go_wp2_with (go_at_call 9; refine (worth_any m p c (by omega) (by omega) hp1 hp2 hc1 hc2 _).mono ?_; rw [HX.out]; rintro e w1 ⟨rfl, hb1⟩)
            go_roundw
            case rel => exact ⟨m + 1, b, f', rfl, rfl, by omega, by omega, hbm, HF2.out, by show _ = _; rw [HS.out, if_neg (by omega)], hbl.trans (hb1.mono hsz)⟩
            case measure => simp [intOf]; omega
        · have haR : a = R := by rw [← HB.out, Nd.bs_done hlt]
          subst haR
          by_cases hMR : M < a
          · have h1 : Nd.needE v p c = 32 := by rw [HE.out, if_pos hMR]
            have h2 : Nd.needV v p c = 0 := by rw [HV.out, h1]; rfl
            have H1 := Lib.hid h1; have H2 := Lib.hid h2
            clear h1 h2
            have hq1 := HQ.out
            have hq2 : a ≤ M + 1 := by omega
            go_wp2
            go_ret2
            refine ⟨?_, hbl⟩
            rw [H1.out, H2.out]
            rfl
          · have h1 : Nd.needE v p c = 0 := by rw [HE.out, if_neg hMR]
            have h2 : Nd.needV v p c = a := by rw [HV.out, if_pos h1]
            have H1 := Lib.hid h1; have H2 := Lib.hid h2
            clear h1 h2
            have hq1 := HQ.out
            have hq2 : a ≤ M + 1 := by omega
            go_wp2
            go_ret2
            refine ⟨?_, hbl⟩
            rw [H1.out, H2.out]
            rfl
    · rw [if_neg hp0] at hmd
      subst hmd
      go_enter Try.func22, Try.ntmps22
      go_wp2_with (go_at_call 15; refine HW.out.mono ?_; rintro e w' ⟨rfl, rfl⟩)
      go_loopw [9, 10] (fun lo hi wr => ∃ (a b : Int) (f : Nat), lo = .int .i64 a ∧ hi = .int .i64 b ∧ 0 ≤ a ∧ a ≤ b ∧ b ≤ 1152921504606846977 ∧ Hid (b - a < 2 ^ f) ∧ Hid (Nd.bs v p c f a b = R) ∧ Below w.heap.size w wr) (fun lo hi _ => (intOf hi - intOf lo).toNat)
      case atStart => exact ⟨0, 1152921504606846977, 64, rfl, rfl, by omega, by omega, by omega, by show _ < _; rw [Nd.pow64]; omega, HR.out, Below.refl _ _⟩
      case round =>
        obtain ⟨a, b, f, rfl, rfl, ha, hab, hbm, HF, HB, hbl⟩ := hrel
        have hsz := hbl.size
        by_cases hlt : a < b
        · obtain ⟨f', rfl⟩ : ∃ f', f = f' + 1 := by
            cases f with
            | zero => exfalso; have h := HF.out; rw [Int.pow_zero] at h; omega
            | succ f' => exact ⟨f', rfl⟩
          obtain ⟨m, hm⟩ : ∃ m : Int, a + (b - a) / 2 = m := ⟨_, rfl⟩
          have hmb : a ≤ m ∧ m < b := by omega
          obtain ⟨x, hx⟩ : ∃ x, Wo.wV m p c = x := ⟨_, rfl⟩
          have hstep : R = if v ≤ x then Nd.bs v p c f' a m else Nd.bs v p c f' (m + 1) b := by
            rw [← HB.out]
            simp only [Nd.bs]
            rw [if_pos hlt, hm, hx]
          have hF1 : m - a < 2 ^ f' ∧ b - (m + 1) < 2 ^ f' := by
            have h := HF.out
            rw [Int.pow_succ] at h
            omega
          have HF1 := Lib.hid hF1.1; have HF2 := Lib.hid hF1.2
          have HS := Lib.hid hstep
          have HX := Lib.hid hx
          clear hF1 hstep hx HF HB
          have hdiv : 0 ≤ b - a := by omega
          by_cases hvx : v ≤ x
          · go_wp2_with (go_at_call 9; refine (worth_any m p c (by omega) (by omega) hp1 hp2 hc1 hc2 _).mono ?_; rw [HX.out]; rintro e w1 ⟨rfl, hb1⟩)
            go_roundw
            case rel => exact ⟨a, m, f', rfl, rfl, ha, hmb.1, by omega, HF1.out, by show _ = _; rw [HS.out, if_pos hvx], hbl.trans (hb1.mono hsz)⟩
            case measure => simp [intOf]; omega
          · go_wp2_with (go_at_call 9; refine (worth_any m p c (by omega) (by omega) hp1 hp2 hc1 hc2 _).mono ?_; rw [HX.out]; rintro e w1 ⟨rfl, hb1⟩)
            go_roundw
            case rel => exact ⟨m + 1, b, f', rfl, rfl, by omega, by omega, hbm, HF2.out, by show _ = _; rw [HS.out, if_neg (by omega)], hbl.trans (hb1.mono hsz)⟩
            case measure => simp [intOf]; omega
        · have haR : a = R := by rw [← HB.out, Nd.bs_done hlt]
          subst haR
          by_cases hMR : 1152921504606846976 < a
          · have h1 : Nd.needE v p c = 32 := by rw [HE.out, if_pos hMR]
            have h2 : Nd.needV v p c = 0 := by rw [HV.out, h1]; rfl
            have H1 := Lib.hid h1; have H2 := Lib.hid h2
            clear h1 h2
            go_wp2
            go_ret2
            refine ⟨?_, hbl⟩
            rw [H1.out, H2.out]
            rfl
          · have h1 : Nd.needE v p c = 0 := by rw [HE.out, if_neg hMR]
            have h2 : Nd.needV v p c = a := by rw [HV.out, if_pos h1]
            have H1 := Lib.hid h1; have H2 := Lib.hid h2
            clear h1 h2
            go_wp2
            go_ret2
            refine ⟨?_, hbl⟩
            rw [H1.out, H2.out]
            rfl
end Go.Proofs.Ytiekolbkmgdfoaa
