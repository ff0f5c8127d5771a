/-
  Package cal as contracts: the next day of business, so many on, how many between.
  Conditions: ints; a calendar that the call has made.
-/
import Derived.Test.YthnhdcfhlokalaaCal2
import Derived.Test.YthnhdcfhlokalaaCalPlain
namespace Go.Proofs.Ythnhdcfhlokalaa
open Go.RowKit Go.Maps

set_option maxHeartbeats 1000000 in
theorem next_any (c : Nat) (D : DataW Unit) (d : Int) (hd1 : -9223372036854775808 ≤ d) (hd2 : d ≤ 9223372036854775807) (w : World) (h : CalAt c D w) :
    Calls Try.prog 9 #[.pointer (some ⟨c, 0, none⟩), .int .i64 d] w fun e w' => e = .returned (.int .i64 (Dy.next (isB D) d)) ∧ Below w.heap.size w w' := by
  have HC := Lib.hid h; clear h
  unfold Dy.next
  by_cases hd : d < -1
  · rw [show max d (-1) = -1 from by omega]
    obtain ⟨R, hR⟩ : ∃ R, Dy.nextF (isB D) (1000000 - (-1)).toNat (-1) = R := ⟨_, rfl⟩
    rw [hR]
    have HR := Lib.hid hR; clear hR
    go_enter Try.func9, Try.ntmps9
    go_wp2
    go_loopw [1] (fun i wr => ∃ x : Int, i = .int .i64 x ∧ -1 ≤ x ∧ x ≤ 9223372036854775807 ∧ Hid (Dy.nextF (isB D) (1000000 - x).toNat x = R) ∧ Hid (CalAt c D wr) ∧ Below w.heap.size w wr) (fun i _ => (1000000 - intOf i).toNat)
    case atStart => exact ⟨(-1), rfl, by omega, by omega, HR.out, HC.out, Below.refl _ _⟩
    case round =>
      obtain ⟨x, rfl, hx0, hx1, HX, HCr, hb⟩ := hrel
      have hsz := hb.size
      by_cases hlt : x < 1000000
      · have hstep : Dy.nextF (isB D) (1000000 - x).toNat x = if isB D (x + 1) then x + 1 else Dy.nextF (isB D) (1000000 - (x + 1)).toNat (x + 1) := by
          rw [show (1000000 - x).toNat = (1000000 - (x + 1)).toNat + 1 from by omega]; rfl
        have HS := Lib.hid hstep; clear hstep
        cases hB : isB D (x + 1)
        · have hc := is_any c D (x + 1) (by omega) (by omega) wr HCr.out
          rw [hB] at hc
          have HI := Lib.hid hc; clear hc
          have HB := Lib.hid hB; clear hB
          go_wp2_with (go_at_call 10; refine HI.out.mono ?_; rintro e w1 ⟨rfl, hb1⟩)
          go_roundw
          case rel => exact ⟨x + 1, rfl, by omega, by omega, by show _ = _; rw [← HX.out, HS.out, HB.out]; rfl, HCr.out.below hb1, hb.trans (hb1.mono hsz)⟩
          case measure => simp [intOf]; omega
        · have hc := is_any c D (x + 1) (by omega) (by omega) wr HCr.out
          rw [hB] at hc
          have HI := Lib.hid hc; clear hc
          have HB := Lib.hid hB; clear hB
          go_wp2_with (go_at_call 10; refine HI.out.mono ?_; rintro e w1 ⟨rfl, hb1⟩)
          go_ret
          exact ⟨ret_int (by rw [← HX.out, HS.out, HB.out]; rfl), hb.trans (hb1.mono hsz)⟩
      · go_wp2
        go_ret
        exact ⟨ret_int (by rw [← HX.out, show (1000000 - x).toNat = 0 from by omega]; rfl), hb⟩
  · rw [show max d (-1) = d from by omega]
    obtain ⟨R, hR⟩ : ∃ R, Dy.nextF (isB D) (1000000 - d).toNat d = R := ⟨_, rfl⟩
    rw [hR]
    have HR := Lib.hid hR; clear hR
    go_enter Try.func9, Try.ntmps9
    go_wp2
    go_loopw [1] (fun i wr => ∃ x : Int, i = .int .i64 x ∧ -1 ≤ x ∧ x ≤ 9223372036854775807 ∧ Hid (Dy.nextF (isB D) (1000000 - x).toNat x = R) ∧ Hid (CalAt c D wr) ∧ Below w.heap.size w wr) (fun i _ => (1000000 - intOf i).toNat)
    case atStart => exact ⟨d, rfl, by omega, by omega, HR.out, HC.out, Below.refl _ _⟩
    case round =>
      obtain ⟨x, rfl, hx0, hx1, HX, HCr, hb⟩ := hrel
      have hsz := hb.size
      by_cases hlt : x < 1000000
      · have hstep : Dy.nextF (isB D) (1000000 - x).toNat x = if isB D (x + 1) then x + 1 else Dy.nextF (isB D) (1000000 - (x + 1)).toNat (x + 1) := by
          rw [show (1000000 - x).toNat = (1000000 - (x + 1)).toNat + 1 from by omega]; rfl
        have HS := Lib.hid hstep; clear hstep
        cases hB : isB D (x + 1)
        · have hc := is_any c D (x + 1) (by omega) (by omega) wr HCr.out
          rw [hB] at hc
          have HI := Lib.hid hc; clear hc
          have HB := Lib.hid hB; clear hB
          go_wp2_with (go_at_call 10; refine HI.out.mono ?_; rintro e w1 ⟨rfl, hb1⟩)
          go_roundw
          case rel => exact ⟨x + 1, rfl, by omega, by omega, by show _ = _; rw [← HX.out, HS.out, HB.out]; rfl, HCr.out.below hb1, hb.trans (hb1.mono hsz)⟩
          case measure => simp [intOf]; omega
        · have hc := is_any c D (x + 1) (by omega) (by omega) wr HCr.out
          rw [hB] at hc
          have HI := Lib.hid hc; clear hc
          have HB := Lib.hid hB; clear hB
          go_wp2_with (go_at_call 10; refine HI.out.mono ?_; rintro e w1 ⟨rfl, hb1⟩)
          go_ret
          exact ⟨ret_int (by rw [← HX.out, HS.out, HB.out]; rfl), hb.trans (hb1.mono hsz)⟩
      · go_wp2
        go_ret
        exact ⟨ret_int (by rw [← HX.out, show (1000000 - x).toNat = 0 from by omega]; rfl), hb⟩
theorem next_nil (d : Int) (w : World) :
    Calls Try.prog 9 #[.pointer none, .int .i64 d] w fun e w' => e = .returned (.int .i64 (-1)) ∧ w = w' := by
  go_enter Try.func9, Try.ntmps9
  go_wp2
  go_ret
  exact ⟨rfl, rfl⟩

set_option maxHeartbeats 2000000 in
theorem days_any (c : Nat) (D : DataW Unit) (x y : Int) (hx1 : -9223372036854775808 ≤ x) (hx2 : x ≤ 9223372036854775807) (hy1 : -9223372036854775808 ≤ y) (hy2 : y ≤ 9223372036854775807) (w : World) (h : CalAt c D w) :
    Calls Try.prog 12 #[.pointer (some ⟨c, 0, none⟩), .int .i64 x, .int .i64 y] w fun e w' => e = .returned (.int .i64 (Dy.days (isB D) x y)) ∧ Below w.heap.size w w' := by
  have HC := Lib.hid h; clear h
  unfold Dy.days
  by_cases hd : x < -1 <;> by_cases hy : 1000000 < y
  · rw [show max x (-1) = (-1) from by omega, show min y 1000000 = 1000000 from by omega]
    obtain ⟨R, hR⟩ : ∃ R, Dy.cntF (isB D) (1000000 - (-1)).toNat (-1) = R := ⟨_, rfl⟩
    rw [hR]
    have HR := Lib.hid hR; clear hR
    go_enter Try.func12, Try.ntmps12
    go_wp2
    go_loopw [7, 8] (fun n i wr => ∃ z s : Int, i = .int .i64 z ∧ n = .int .i64 s ∧ -1 ≤ z ∧ z ≤ 9223372036854775807 ∧ 0 ≤ s ∧ s ≤ 1000001 ∧ (s ≤ z + 1) ∧ Hid (s + Dy.cntF (isB D) (1000000 - z).toNat z = R) ∧ Hid (CalAt c D wr) ∧ Below w.heap.size w wr) (fun _ i _ => (1000000 - intOf i).toNat)
    case atStart => exact ⟨(-1), 0, rfl, rfl, by omega, by omega, by omega, by omega, by omega, by show _ = _; rw [HR.out]; omega, HC.out, Below.refl _ _⟩
    case round =>
      obtain ⟨z, s, rfl, rfl, hz0, hz1, hs0, hs1, hsz', HX, HCr, hb⟩ := hrel
      have hsz := hb.size
      by_cases hlt : z < 1000000
      · have hstep : Dy.cntF (isB D) (1000000 - z).toNat z = (if isB D (z + 1) then 1 else 0) + Dy.cntF (isB D) (1000000 - (z + 1)).toNat (z + 1) := by
          rw [show (1000000 - z).toNat = (1000000 - (z + 1)).toNat + 1 from by omega]; rfl
        have HS := Lib.hid hstep; clear hstep
        cases hB : isB D (z + 1)
        · have hc := is_any c D (z + 1) (by omega) (by omega) wr HCr.out
          rw [hB] at hc
          have HI := Lib.hid hc; clear hc
          have HB := Lib.hid hB; clear hB
          go_wp2_with (go_at_call 10; refine HI.out.mono ?_; rintro e w1 ⟨rfl, hb1⟩)
          go_roundw
          case rel => exact ⟨z + 1, s, rfl, rfl, by omega, by omega, hs0, hs1, by omega, by show _ = _; rw [← HX.out, HS.out, HB.out]; simp, HCr.out.below hb1, hb.trans (hb1.mono hsz)⟩
          case measure => simp [intOf]; omega
        · have hc := is_any c D (z + 1) (by omega) (by omega) wr HCr.out
          rw [hB] at hc
          have HI := Lib.hid hc; clear hc
          have HB := Lib.hid hB; clear hB
          go_wp2_with (go_at_call 10; refine HI.out.mono ?_; rintro e w1 ⟨rfl, hb1⟩)
          go_roundw
          case rel => exact ⟨z + 1, s + 1, rfl, rfl, by omega, by omega, by omega, by omega, by omega, by show _ = _; rw [← HX.out, HS.out, HB.out]; simp; omega, HCr.out.below hb1, hb.trans (hb1.mono hsz)⟩
          case measure => simp [intOf]; omega
      · go_wp2
        go_ret
        exact ⟨ret_int (by rw [← HX.out, show (1000000 - z).toNat = 0 from by omega]; simp [Dy.cntF]), hb⟩
  · rw [show max x (-1) = (-1) from by omega, show min y 1000000 = y from by omega]
    obtain ⟨R, hR⟩ : ∃ R, Dy.cntF (isB D) (y - (-1)).toNat (-1) = R := ⟨_, rfl⟩
    rw [hR]
    have HR := Lib.hid hR; clear hR
    go_enter Try.func12, Try.ntmps12
    go_wp2
    go_loopw [7, 8] (fun n i wr => ∃ z s : Int, i = .int .i64 z ∧ n = .int .i64 s ∧ -1 ≤ z ∧ z ≤ 9223372036854775807 ∧ 0 ≤ s ∧ s ≤ 1000001 ∧ (s ≤ z + 1) ∧ Hid (s + Dy.cntF (isB D) (y - z).toNat z = R) ∧ Hid (CalAt c D wr) ∧ Below w.heap.size w wr) (fun _ i _ => (y - intOf i).toNat)
    case atStart => exact ⟨(-1), 0, rfl, rfl, by omega, by omega, by omega, by omega, by omega, by show _ = _; rw [HR.out]; omega, HC.out, Below.refl _ _⟩
    case round =>
      obtain ⟨z, s, rfl, rfl, hz0, hz1, hs0, hs1, hsz', HX, HCr, hb⟩ := hrel
      have hsz := hb.size
      by_cases hlt : z < y
      · have hstep : Dy.cntF (isB D) (y - z).toNat z = (if isB D (z + 1) then 1 else 0) + Dy.cntF (isB D) (y - (z + 1)).toNat (z + 1) := by
          rw [show (y - z).toNat = (y - (z + 1)).toNat + 1 from by omega]; rfl
        have HS := Lib.hid hstep; clear hstep
        cases hB : isB D (z + 1)
        · have hc := is_any c D (z + 1) (by omega) (by omega) wr HCr.out
          rw [hB] at hc
          have HI := Lib.hid hc; clear hc
          have HB := Lib.hid hB; clear hB
          go_wp2_with (go_at_call 10; refine HI.out.mono ?_; rintro e w1 ⟨rfl, hb1⟩)
          go_roundw
          case rel => exact ⟨z + 1, s, rfl, rfl, by omega, by omega, hs0, hs1, by omega, by show _ = _; rw [← HX.out, HS.out, HB.out]; simp, HCr.out.below hb1, hb.trans (hb1.mono hsz)⟩
          case measure => simp [intOf]; omega
        · have hc := is_any c D (z + 1) (by omega) (by omega) wr HCr.out
          rw [hB] at hc
          have HI := Lib.hid hc; clear hc
          have HB := Lib.hid hB; clear hB
          go_wp2_with (go_at_call 10; refine HI.out.mono ?_; rintro e w1 ⟨rfl, hb1⟩)
          go_roundw
          case rel => exact ⟨z + 1, s + 1, rfl, rfl, by omega, by omega, by omega, by omega, by omega, by show _ = _; rw [← HX.out, HS.out, HB.out]; simp; omega, HCr.out.below hb1, hb.trans (hb1.mono hsz)⟩
          case measure => simp [intOf]; omega
      · go_wp2
        go_ret
        exact ⟨ret_int (by rw [← HX.out, show (y - z).toNat = 0 from by omega]; simp [Dy.cntF]), hb⟩
  · rw [show max x (-1) = x from by omega, show min y 1000000 = 1000000 from by omega]
    obtain ⟨R, hR⟩ : ∃ R, Dy.cntF (isB D) (1000000 - x).toNat x = R := ⟨_, rfl⟩
    rw [hR]
    have HR := Lib.hid hR; clear hR
    go_enter Try.func12, Try.ntmps12
    go_wp2
    go_loopw [7, 8] (fun n i wr => ∃ z s : Int, i = .int .i64 z ∧ n = .int .i64 s ∧ -1 ≤ z ∧ z ≤ 9223372036854775807 ∧ 0 ≤ s ∧ s ≤ 1000001 ∧ (s ≤ z + 1) ∧ Hid (s + Dy.cntF (isB D) (1000000 - z).toNat z = R) ∧ Hid (CalAt c D wr) ∧ Below w.heap.size w wr) (fun _ i _ => (1000000 - intOf i).toNat)
    case atStart => exact ⟨x, 0, rfl, rfl, by omega, by omega, by omega, by omega, by omega, by show _ = _; rw [HR.out]; omega, HC.out, Below.refl _ _⟩
    case round =>
      obtain ⟨z, s, rfl, rfl, hz0, hz1, hs0, hs1, hsz', HX, HCr, hb⟩ := hrel
      have hsz := hb.size
      by_cases hlt : z < 1000000
      · have hstep : Dy.cntF (isB D) (1000000 - z).toNat z = (if isB D (z + 1) then 1 else 0) + Dy.cntF (isB D) (1000000 - (z + 1)).toNat (z + 1) := by
          rw [show (1000000 - z).toNat = (1000000 - (z + 1)).toNat + 1 from by omega]; rfl
        have HS := Lib.hid hstep; clear hstep
        cases hB : isB D (z + 1)
        · have hc := is_any c D (z + 1) (by omega) (by omega) wr HCr.out
          rw [hB] at hc
          have HI := Lib.hid hc; clear hc
          have HB := Lib.hid hB; clear hB
          go_wp2_with (go_at_call 10; refine HI.out.mono ?_; rintro e w1 ⟨rfl, hb1⟩)
          go_roundw
          case rel => exact ⟨z + 1, s, rfl, rfl, by omega, by omega, hs0, hs1, by omega, by show _ = _; rw [← HX.out, HS.out, HB.out]; simp, HCr.out.below hb1, hb.trans (hb1.mono hsz)⟩
          case measure => simp [intOf]; omega
        · have hc := is_any c D (z + 1) (by omega) (by omega) wr HCr.out
          rw [hB] at hc
          have HI := Lib.hid hc; clear hc
          have HB := Lib.hid hB; clear hB
          go_wp2_with (go_at_call 10; refine HI.out.mono ?_; rintro e w1 ⟨rfl, hb1⟩)
          go_roundw
          case rel => exact ⟨z + 1, s + 1, rfl, rfl, by omega, by omega, by omega, by omega, by omega, by show _ = _; rw [← HX.out, HS.out, HB.out]; simp; omega, HCr.out.below hb1, hb.trans (hb1.mono hsz)⟩
          case measure => simp [intOf]; omega
      · go_wp2
        go_ret
        exact ⟨ret_int (by rw [← HX.out, show (1000000 - z).toNat = 0 from by omega]; simp [Dy.cntF]), hb⟩
  · rw [show max x (-1) = x from by omega, show min y 1000000 = y from by omega]
    obtain ⟨R, hR⟩ : ∃ R, Dy.cntF (isB D) (y - x).toNat x = R := ⟨_, rfl⟩
    rw [hR]
    have HR := Lib.hid hR; clear hR
    go_enter Try.func12, Try.ntmps12
    go_wp2
    go_loopw [7, 8] (fun n i wr => ∃ z s : Int, i = .int .i64 z ∧ n = .int .i64 s ∧ -1 ≤ z ∧ z ≤ 9223372036854775807 ∧ 0 ≤ s ∧ s ≤ 1000001 ∧ (s ≤ z + 1) ∧ Hid (s + Dy.cntF (isB D) (y - z).toNat z = R) ∧ Hid (CalAt c D wr) ∧ Below w.heap.size w wr) (fun _ i _ => (y - intOf i).toNat)
    case atStart => exact ⟨x, 0, rfl, rfl, by omega, by omega, by omega, by omega, by omega, by show _ = _; rw [HR.out]; omega, HC.out, Below.refl _ _⟩
    case round =>
      obtain ⟨z, s, rfl, rfl, hz0, hz1, hs0, hs1, hsz', HX, HCr, hb⟩ := hrel
      have hsz := hb.size
      by_cases hlt : z < y
      · have hstep : Dy.cntF (isB D) (y - z).toNat z = (if isB D (z + 1) then 1 else 0) + Dy.cntF (isB D) (y - (z + 1)).toNat (z + 1) := by
          rw [show (y - z).toNat = (y - (z + 1)).toNat + 1 from by omega]; rfl
        have HS := Lib.hid hstep; clear hstep
        cases hB : isB D (z + 1)
        · have hc := is_any c D (z + 1) (by omega) (by omega) wr HCr.out
          rw [hB] at hc
          have HI := Lib.hid hc; clear hc
          have HB := Lib.hid hB; clear hB
          go_wp2_with (go_at_call 10; refine HI.out.mono ?_; rintro e w1 ⟨rfl, hb1⟩)
          go_roundw
          case rel => exact ⟨z + 1, s, rfl, rfl, by omega, by omega, hs0, hs1, by omega, by show _ = _; rw [← HX.out, HS.out, HB.out]; simp, HCr.out.below hb1, hb.trans (hb1.mono hsz)⟩
          case measure => simp [intOf]; omega
        · have hc := is_any c D (z + 1) (by omega) (by omega) wr HCr.out
          rw [hB] at hc
          have HI := Lib.hid hc; clear hc
          have HB := Lib.hid hB; clear hB
          go_wp2_with (go_at_call 10; refine HI.out.mono ?_; rintro e w1 ⟨rfl, hb1⟩)
          go_roundw
          case rel => exact ⟨z + 1, s + 1, rfl, rfl, by omega, by omega, by omega, by omega, by omega, by show _ = _; rw [← HX.out, HS.out, HB.out]; simp; omega, HCr.out.below hb1, hb.trans (hb1.mono hsz)⟩
          case measure => simp [intOf]; omega
      · go_wp2
        go_ret
        exact ⟨ret_int (by rw [← HX.out, show (y - z).toNat = 0 from by omega]; simp [Dy.cntF]), hb⟩
end Go.Proofs.Ythnhdcfhlokalaa
