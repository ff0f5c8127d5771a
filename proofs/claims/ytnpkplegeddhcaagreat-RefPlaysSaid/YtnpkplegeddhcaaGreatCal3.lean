/-
 Package cal as contracts: the next day of business, so many on, how many between.
 Conditions: ints; a calendar that the call has made.
-/
import Derived.Test.YtnpkplegeddhcaaGreatRefName
namespace Go.Proofs.YtnpkplegeddhcaaGreat
namespace Dy
variable (B : Int → Bool)

/-- The first day of business behind d, within f days; -1: none. -/
def nextF : Nat → Int → Int
 | 0, _ => -1
 | f + 1, d => if B (d + 1) then d + 1 else nextF f (d + 1)
/-- How many there are of the f days behind d. -/
def cntF : Nat → Int → Int
 | 0, _ => 0
 | f + 1, d => (if B (d + 1) then 1 else 0) + cntF f (d + 1)
def next (d : Int) : Int := nextF B (1000000 - max d (-1)).toNat (max d (-1))
def days (x y : Int) : Int := cntF B (min y 1000000 - max x (-1)).toNat (max x (-1))
def add : Nat → Int → Int
 | 0, d => d
 | n + 1, d => if next B d < 0 then next B d else add n (next B d)

theorem cntF_nonneg (f : Nat) (d : Int) : 0 ≤ cntF B f d ∧ cntF B f d ≤ f := by
 induction f generalizing d with
 | zero => simp [cntF]
 | succ f ih => have := ih (d + 1); unfold cntF; split <;> omega
theorem cntF_split (f g : Nat) (d : Int) : cntF B (f + g) d = cntF B f d + cntF B g (d + f) := by
 induction f generalizing d with
 | zero => simp [cntF]
 | succ f ih =>
  rw [show f + 1 + g = (f + g) + 1 from by omega]
  simp only [cntF]
  rw [ih (d + 1), show d + 1 + (f : Int) = d + ((f + 1 : Nat) : Int) from by omega]
  omega
theorem nextF_pos (f : Nat) (d : Int) (hd : -1 ≤ d) : nextF B f d = -1 ∧ cntF B f d = 0 ∨ (d < nextF B f d ∧ nextF B f d ≤ d + f ∧ B (nextF B f d) = true ∧ (∀ x, d < x → x < nextF B f d → B x = false) ∧ cntF B (nextF B f d - d).toNat d = 1) := by
 induction f generalizing d with
 | zero => left; simp [nextF, cntF]
 | succ f ih =>
  unfold nextF
  by_cases hb : B (d + 1) = true
  ·right
   rw [if_pos hb]
   refine ⟨by omega, by omega, hb, fun x h1 h2 => by omega, ?_⟩
   rw [show (d + 1 - d).toNat = 0 + 1 from by omega]
   simp [cntF, hb]
  ·rw [if_neg hb]
   rcases ih (d + 1) (by omega) with ⟨h1, h2⟩ | ⟨h1, h2, h3, h4, h5⟩
   ·left
    refine ⟨h1, ?_⟩
    simp only [cntF]
    rw [if_neg hb, h2]; rfl
   ·right
    refine ⟨by omega, by omega, h3, fun x hx1 hx2 => ?_, ?_⟩
    ·by_cases hx : x = d + 1
     ·subst hx; simpa using hb
     ·exact h4 x (by omega) hx2
    ·rw [show (nextF B f (d + 1) - d).toNat = (nextF B f (d + 1) - (d + 1)).toNat + 1 from by omega]
     simp only [cntF]
     rw [if_neg hb, h5]; rfl
theorem next_range (d : Int) : -1 ≤ next B d ∧ next B d ≤ 1000000 := by
 unfold next
 rcases nextF_pos B (1000000 - max d (-1)).toNat (max d (-1)) (by omega) with ⟨h, _⟩ | ⟨h1, h2, _⟩
 ·omega
 ·omega
theorem add_zero (d : Int) : add B 0 d = d := rfl
theorem add_no {n : Nat} {d : Int} (h : next B d < 0) : add B (n + 1) d = next B d := by simp [add, h]
theorem add_yes {n : Nat} {d : Int} (h : ¬ next B d < 0) : add B (n + 1) d = add B n (next B d) := by simp [add, h]
end Dy
end Go.Proofs.YtnpkplegeddhcaaGreat
namespace Go.Proofs.YtnpkplegeddhcaaGreat
open Go.RowKit Go.Maps

set_option maxHeartbeats 1000000 in
theorem next_any (c : Nat) (D : DataW Unit) (d : Int) (hd1 : -9223372036854775808 ≤ d) (hd2 : d ≤ 9223372036854775807) (w : World) (h : CalAt c D w) :
  Calls Tryz.prog 35 #[.pointer (some ⟨c, 0, none⟩), .int .i64 d] w fun e w' => e = .returned (.int .i64 (Dy.next (isB D) d)) ∧ Below w.heap.size w w' := by
 have HC := Lib.hid h; clear h
 unfold Dy.next
 by_cases hd : d < -1
 ·rw [show max d (-1) = -1 from by omega]
  obtain ⟨R, hR⟩ : ∃ R, Dy.nextF (isB D) (1000000 - (-1)).toNat (-1) = R := ⟨_, rfl⟩
  rw [hR]
  have HR := Lib.hid hR; clear hR
  go_enter Tryz.func35, Tryz.ntmps35
  go_wp2
  go_loopw [1] (fun i wr => ∃ x : Int, i = .int .i64 x ∧ -1 ≤ x ∧ x ≤ 9223372036854775807 ∧ Hid (Dy.nextF (isB D) (1000000 - x).toNat x = R) ∧ Hid (CalAt c D wr) ∧ Below w.heap.size w wr) (fun i _ => (1000000 - intOf i).toNat)
  case atStart => exact ⟨(-1), by first | rfl | exact congrArg (Value.int .i64) (by omega), by omega, by omega, HR.out, HC.out, Below.refl _ _⟩
  case round =>
   obtain ⟨x, rfl, hx0, hx1, HX, HCr, hb⟩ := hrel
   have hsz := hb.size
   by_cases hlt : x < 1000000
   ·have hstep : Dy.nextF (isB D) (1000000 - x).toNat x = if isB D (x + 1) then x + 1 else Dy.nextF (isB D) (1000000 - (x + 1)).toNat (x + 1) := by
     rw [show (1000000 - x).toNat = (1000000 - (x + 1)).toNat + 1 from by omega]; rfl
    have HS := Lib.hid hstep; clear hstep
    cases hB : isB D (x + 1)
    ·have hc := is_any c D (x + 1) (by omega) (by omega) wr HCr.out
     rw [hB] at hc
     have HI := Lib.hid hc; clear hc
     have HB := Lib.hid hB; clear hB
     go_wp2_with (go_at_call 33; refine HI.out.mono ?_; rintro e w1 ⟨rfl, hb1⟩)
     go_roundw
     case rel => exact ⟨x + 1, rfl, by omega, by omega, by show _ = _; rw [← HX.out, HS.out, HB.out]; rfl, HCr.out.below hb1, hb.trans (hb1.mono hsz)⟩
     case measure => simp [intOf]; omega
    ·have hc := is_any c D (x + 1) (by omega) (by omega) wr HCr.out
     rw [hB] at hc
     have HI := Lib.hid hc; clear hc
     have HB := Lib.hid hB; clear hB
     go_wp2_with (go_at_call 33; refine HI.out.mono ?_; rintro e w1 ⟨rfl, hb1⟩)
     go_ret
     exact ⟨ret_int (by rw [← HX.out, HS.out, HB.out]; rfl), hb.trans (hb1.mono hsz)⟩
   ·go_wp2
    go_ret
    exact ⟨ret_int (by rw [← HX.out, show (1000000 - x).toNat = 0 from by omega]; rfl), hb⟩
 ·rw [show max d (-1) = d from by omega]
  obtain ⟨R, hR⟩ : ∃ R, Dy.nextF (isB D) (1000000 - d).toNat d = R := ⟨_, rfl⟩
  rw [hR]
  have HR := Lib.hid hR; clear hR
  go_enter Tryz.func35, Tryz.ntmps35
  go_wp2
  go_loopw [1] (fun i wr => ∃ x : Int, i = .int .i64 x ∧ -1 ≤ x ∧ x ≤ 9223372036854775807 ∧ Hid (Dy.nextF (isB D) (1000000 - x).toNat x = R) ∧ Hid (CalAt c D wr) ∧ Below w.heap.size w wr) (fun i _ => (1000000 - intOf i).toNat)
  case atStart => exact ⟨d, by first | rfl | exact congrArg (Value.int .i64) (by omega), by omega, by omega, HR.out, HC.out, Below.refl _ _⟩
  case round =>
   obtain ⟨x, rfl, hx0, hx1, HX, HCr, hb⟩ := hrel
   have hsz := hb.size
   by_cases hlt : x < 1000000
   ·have hstep : Dy.nextF (isB D) (1000000 - x).toNat x = if isB D (x + 1) then x + 1 else Dy.nextF (isB D) (1000000 - (x + 1)).toNat (x + 1) := by
     rw [show (1000000 - x).toNat = (1000000 - (x + 1)).toNat + 1 from by omega]; rfl
    have HS := Lib.hid hstep; clear hstep
    cases hB : isB D (x + 1)
    ·have hc := is_any c D (x + 1) (by omega) (by omega) wr HCr.out
     rw [hB] at hc
     have HI := Lib.hid hc; clear hc
     have HB := Lib.hid hB; clear hB
     go_wp2_with (go_at_call 33; refine HI.out.mono ?_; rintro e w1 ⟨rfl, hb1⟩)
     go_roundw
     case rel => exact ⟨x + 1, rfl, by omega, by omega, by show _ = _; rw [← HX.out, HS.out, HB.out]; rfl, HCr.out.below hb1, hb.trans (hb1.mono hsz)⟩
     case measure => simp [intOf]; omega
    ·have hc := is_any c D (x + 1) (by omega) (by omega) wr HCr.out
     rw [hB] at hc
     have HI := Lib.hid hc; clear hc
     have HB := Lib.hid hB; clear hB
     go_wp2_with (go_at_call 33; refine HI.out.mono ?_; rintro e w1 ⟨rfl, hb1⟩)
     go_ret
     exact ⟨ret_int (by rw [← HX.out, HS.out, HB.out]; rfl), hb.trans (hb1.mono hsz)⟩
   ·go_wp2
    go_ret
    exact ⟨ret_int (by rw [← HX.out, show (1000000 - x).toNat = 0 from by omega]; rfl), hb⟩
end Go.Proofs.YtnpkplegeddhcaaGreat
