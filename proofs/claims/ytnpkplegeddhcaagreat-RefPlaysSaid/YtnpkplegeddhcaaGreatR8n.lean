/-
 The document's calendar: Next as a contract.
 Conditions: the caller's memory stays.
-/
import Derived.Test.YtnpkplegeddhcaaGreatR8g
import Derived.Test.YtnpkplegeddhcaaGreatCal3
namespace Go.Proofs.YtnpkplegeddhcaaGreat
open Go.RowKit Go.Maps
set_option maxRecDepth 100000
set_option maxHeartbeats 2000000 in
theorem next8_any (x : Nat) (P : List Int) (A : Option Addr) (n c B : Nat) (d : Int) (w : World) (hn : P.length = n) (hc : w.cell? ⟨x, 0, none⟩ = some (.slice A n c)) (hr : Reads w B 1 A n (ints P)) (hl : n ≤ 9223372036854775807) (hd2 : d ≤ 9223372036854775807) :
  Calls Tryz.prog 36 #[.pointer (some ⟨x, 0, none⟩), .int .i64 d] w fun e w' => e = .returned (.int .i64 (Dy.next (isI P) d)) ∧ w' = w := by
 have HI := fun d => Lib.hid (is8_any x P A n c B d w hn hc hr hl)
 clear hn hc hr hl
 unfold Dy.next
 obtain ⟨m, hm⟩ : ∃ m : Int, max d (-1) = m := ⟨_, rfl⟩
 rw [hm]
 obtain ⟨R, hR⟩ : ∃ R, Dy.nextF (isI P) (1000000 - m).toNat m = R := ⟨_, rfl⟩
 rw [hR]
 have HR := Lib.hid hR; clear hR
 have hm0 : -1 ≤ m := by omega
 have hm1 : m ≤ 9223372036854775807 := by omega
 by_cases hd : d < -1
 ·have e : m = -1 := by omega
  subst e
  clear hm
  go_enter Tryz.func36, Tryz.ntmps36
  go_wp2
  go_loopw [1] (fun i wr => ∃ x : Int, i = .int .i64 x ∧ -1 ≤ x ∧ x ≤ 9223372036854775807 ∧ Hid (Dy.nextF (isI P) (1000000 - x).toNat x = R) ∧ wr = w) (fun i _ => (1000000 - intOf i).toNat)
  case atStart => exact ⟨(-1), rfl, by omega, by omega, HR.out, rfl⟩
  case round =>
   obtain ⟨y, rfl, hx0, hx1, HX, rfl⟩ := hrel
   by_cases hlt : y < 1000000
   ·have hstep : Dy.nextF (isI P) (1000000 - y).toNat y = if isI P (y + 1) then y + 1 else Dy.nextF (isI P) (1000000 - (y + 1)).toNat (y + 1) := by
     rw [show (1000000 - y).toNat = (1000000 - (y + 1)).toNat + 1 from by omega]; rfl
    have HS := Lib.hid hstep; clear hstep
    have hc := (HI (y + 1)).out
    cases hB : isI P (y + 1)
    ·rw [hB] at hc
     have HB := Lib.hid hB; clear hB
     go_wp2_with fail
     refine hc.mono ?_
     rintro e w1 ⟨rfl, rfl⟩
     go_wp2
     go_roundw
     case rel => exact ⟨y + 1, rfl, by omega, by omega, by show _ = _; rw [← HX.out, HS.out, HB.out]; rfl, trivial⟩
     case measure => simp [intOf]; omega
    ·rw [hB] at hc
     have HB := Lib.hid hB; clear hB
     go_wp2_with fail
     refine hc.mono ?_
     rintro e w1 ⟨rfl, rfl⟩
     go_wp2
     go_ret
     exact ⟨ret_int (by rw [← HX.out, HS.out, HB.out]; rfl), rfl⟩
   ·go_wp2
    go_ret
    exact ⟨ret_int (by rw [← HX.out, show (1000000 - y).toNat = 0 from by omega]; rfl), rfl⟩
 ·have e : m = d := by omega
  subst e
  clear hm
  go_enter Tryz.func36, Tryz.ntmps36
  go_wp2
  go_loopw [1] (fun i wr => ∃ x : Int, i = .int .i64 x ∧ -1 ≤ x ∧ x ≤ 9223372036854775807 ∧ Hid (Dy.nextF (isI P) (1000000 - x).toNat x = R) ∧ wr = w) (fun i _ => (1000000 - intOf i).toNat)
  case atStart => exact ⟨m, rfl, by omega, by omega, HR.out, rfl⟩
  case round =>
   obtain ⟨y, rfl, hx0, hx1, HX, rfl⟩ := hrel
   by_cases hlt : y < 1000000
   ·have hstep : Dy.nextF (isI P) (1000000 - y).toNat y = if isI P (y + 1) then y + 1 else Dy.nextF (isI P) (1000000 - (y + 1)).toNat (y + 1) := by
     rw [show (1000000 - y).toNat = (1000000 - (y + 1)).toNat + 1 from by omega]; rfl
    have HS := Lib.hid hstep; clear hstep
    have hc := (HI (y + 1)).out
    cases hB : isI P (y + 1)
    ·rw [hB] at hc
     have HB := Lib.hid hB; clear hB
     go_wp2_with fail
     refine hc.mono ?_
     rintro e w1 ⟨rfl, rfl⟩
     go_wp2
     go_roundw
     case rel => exact ⟨y + 1, rfl, by omega, by omega, by show _ = _; rw [← HX.out, HS.out, HB.out]; rfl, trivial⟩
     case measure => simp [intOf]; omega
    ·rw [hB] at hc
     have HB := Lib.hid hB; clear hB
     go_wp2_with fail
     refine hc.mono ?_
     rintro e w1 ⟨rfl, rfl⟩
     go_wp2
     go_ret
     exact ⟨ret_int (by rw [← HX.out, HS.out, HB.out]; rfl), rfl⟩
   ·go_wp2
    go_ret
    exact ⟨ret_int (by rw [← HX.out, show (1000000 - y).toNat = 0 from by omega]; rfl), rfl⟩
end Go.Proofs.YtnpkplegeddhcaaGreat
