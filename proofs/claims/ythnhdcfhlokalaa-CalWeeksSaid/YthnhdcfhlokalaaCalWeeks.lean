/-
  The walk of CalWeeks: without holidays five of seven days are of business; a day that is closed is none, the others stay.
  Conditions: ints.
-/
import Derived.Test.YthnhdcfhlokalaaCalWeeksPlain
namespace Go.Proofs.Ythnhdcfhlokalaa
open Go.RowKit Go.Maps

set_option maxHeartbeats 2000000 in
set_option maxRecDepth 100000 in
theorem weeks_bad (day n d : Int) (w : World) (h : day < 0 ∨ (0 ≤ day ∧ 900000 < day) ∨ (0 ≤ day ∧ day ≤ 900000 ∧ n < 0) ∨ (0 ≤ day ∧ day ≤ 900000 ∧ 0 ≤ n ∧ 100 < n) ∨ (0 ≤ day ∧ day ≤ 900000 ∧ 0 ≤ n ∧ n ≤ 100 ∧ d < 0) ∨ (0 ≤ day ∧ day ≤ 900000 ∧ 0 ≤ n ∧ n ≤ 100 ∧ 0 ≤ d ∧ 999990 < d)) :
    Calls Try.prog 5 #[.int .i64 day, .int .i64 n, .int .i64 d] w fun e w' => e = .returned (.bool true) ∧ Below w.heap.size w w' := by
  rcases h with h | ⟨h1, h⟩ | ⟨h1, h2, h⟩ | ⟨h1, h2, h3, h⟩ | ⟨h1, h2, h3, h4, h⟩ | ⟨h1, h2, h3, h4, h5, h⟩
  all_goals
    go_enter Try.func5, Try.ntmps5
    go_wp2_with fail
    refine (alive8_any _).mono ?_
    rintro e w2 ⟨rfl, hb2⟩
    go_wp2
    go_ret
    exact ⟨rfl, hb2⟩

set_option maxHeartbeats 4000000 in
set_option maxRecDepth 100000 in
theorem weeks_good (day : Int) (n : Nat) (d : Int) (w : World) (h1 : 0 ≤ day) (h2 : day ≤ 900000) (h3 : n ≤ 100) (h4 : 0 ≤ d) (h5 : d ≤ 999990) :
    Calls Try.prog 5 #[.int .i64 day, .int .i64 n, .int .i64 d] w fun e w' => e = .returned (.bool true) ∧ Below w.heap.size w w' := by
  have hn := new_any [] none 0 w Reads.none_ (by decide) (by simp)
  rw [err_none, if_pos rfl] at hn
  have hw : Dy.days (isB (setD [])) day (day + 7 * n) = 5 * n := by
    rw [Dy.days_in _ h1 (by omega), Dy.cnt_congr isB_empty, show (day + 7 * (n : Int) - day).toNat = 7 * n from by omega]
    exact Dy.weeks n day (by omega) (by omega)
  have hw2 : Dy.days (isB (addD (setD []) [d, d])) day (day + 7 * n) = 5 * n - (if Dy.wk d = true ∧ day < d ∧ d ≤ day + 7 * n then 1 else 0) := by
    rw [Dy.days_in _ h1 (by omega), Dy.cnt_congr (isB_one d), show (day + 7 * (n : Int) - day).toNat = 7 * n from by omega, Dy.cnt_but, Dy.weeks n day (by omega) (by omega)]
    congr 1
  obtain ⟨less, hless⟩ : ∃ less : Int, (if Dy.wk d = true ∧ day < d ∧ d ≤ day + 7 * n then (1 : Int) else 0) = less := ⟨_, rfl⟩
  rw [hless] at hw2
  have hcase : (Dy.wk d = false ∧ less = 0) ∨ (Dy.wk d = true ∧ ¬ day < d ∧ less = 0) ∨ (Dy.wk d = true ∧ day < d ∧ ¬ d ≤ day + 7 * n ∧ less = 0) ∨ (Dy.wk d = true ∧ day < d ∧ d ≤ day + 7 * n ∧ less = 1) := by
    rw [← hless]
    cases Dy.wk d
    · left; simp
    · by_cases c1 : day < d
      · by_cases c2 : d ≤ day + 7 * (n : Int)
        · right; right; right; simp [c1, c2]
        · right; right; left; simp [c1, c2]
      · right; left; simp [c1]
  have hi1 := isB_empty d
  have hi2 := isB_empty (d + 1)
  have hi3 : isB (addD (setD []) [d, d]) d = false := by rw [isB_one]; simp
  have hi4 : isB (addD (setD []) [d, d]) (d + 1) = Dy.wk (d + 1) := by rw [isB_one, show (d + 1 == d) = false from by rw [beq_eq_false_iff_ne]; omega]; simp
  have he := err_one h4 h5
  have ho : outD (setD []) [d, d] = addD (setD []) [d, d] := outD_ok he
  have hs0 : Maps.size (setD []) ≤ 300 := by decide
  have hs1 : Maps.size (addD (setD []) [d, d]) ≤ 1000 := by rw [size_one]; decide
  have hh := hol_one d
  generalize addD (setD []) [d, d] = D1 at *
  generalize setD [] = D0 at *
  obtain ⟨x1, hx1⟩ : ∃ x, Dy.wk d = x := ⟨_, rfl⟩
  obtain ⟨x2, hx2⟩ : ∃ x, Dy.wk (d + 1) = x := ⟨_, rfl⟩
  rw [hx1] at hi1 hcase
  rw [hx2] at hi2 hi4
  have HN := Lib.hid hn; have HW := Lib.hid hw; have HW2 := Lib.hid hw2; have I1 := Lib.hid hi1; have I2 := Lib.hid hi2; have I3 := Lib.hid hi3; have I4 := Lib.hid hi4
  have HE := Lib.hid he; have HO := Lib.hid ho; have HH := Lib.hid hh
  clear hn hw hw2 hless hi1 hi2 hi3 hi4 he ho hh hx1 hx2
  rcases hcase with ⟨rfl, rfl⟩ | ⟨rfl, hc1, rfl⟩ | ⟨rfl, hc1, hc2, rfl⟩ | ⟨rfl, hc1, hc2, rfl⟩
  all_goals
    go_enter Try.func5, Try.ntmps5
    go_wp2_with fail
    refine HN.out.mono ?_
    obtain ⟨c, hc⟩ : ∃ c, w.heap.size = c := ⟨_, rfl⟩
    rw [hc]
    rintro e w1 ⟨rfl, hok, hb1⟩
    have HC1 := Lib.hid (hok rfl); clear hok
    have HB1 := Lib.hid hb1; clear hb1
    have hz1 := HB1.out.size
    rw [hc] at hz1
    have Hc := Lib.hid hc; clear hc
    go_wp2_with fail
    refine (days_any c D0 day (day + 7 * n) (by omega) (by omega) (by omega) (by omega) w1 HC1.out).mono ?_
    rw [HW.out]
    rintro e w2 ⟨rfl, hb⟩
    have HC2 := Lib.hid (HC1.out.below hb)
    have HB2 := Lib.hid (HB1.out.trans (hb.mono hz1))
    have hz2 := Nat.le_trans hz1 hb.size
    clear hb
    go_wp2_with fail
    refine (is_any c D0 d (by omega) (by omega) w2 HC2.out).mono ?_
    rw [I1.out]
    rintro e w3 ⟨rfl, hb⟩
    have HC3 := Lib.hid (HC2.out.below hb)
    have HB3 := Lib.hid (HB2.out.trans (hb.mono hz2))
    have hz3 := Nat.le_trans hz2 hb.size
    clear hb
    go_wp2_with fail
    refine (is_any c D0 (d + 1) (by omega) (by omega) w3 HC3.out).mono ?_
    rw [I2.out]
    rintro e w4 ⟨rfl, hb⟩
    have HC4 := Lib.hid (HC3.out.below hb)
    have HB4 := Lib.hid (HB3.out.trans (hb.mono hz3))
    have hz4 := Nat.le_trans hz3 hb.size
    clear hb
    go_wp2_with fail
    refine (close_any c D0 [d, d] _ _ _ (HC4.out.below ((Below.refl _ _).alloc (Nat.le_refl _) _)) hs0 (reads_newV w4 (ints [d, d]) 3 _ rfl rfl rfl (by simp)) (by simp) (by intro v hv; simp at hv; subst hv; omega)).mono ?_
    rw [HE.out, HO.out]
    rintro e w5 ⟨rfl, hcal, hb⟩
    have HC5 := Lib.hid hcal
    have HB5 : Hid (Below c w w5) := (HB4.out.alloc hz4 _).trans hb
    have hz5 : c ≤ w5.heap.size := by have := hb.size; simp at this; omega
    clear hb hcal
    go_wp2_with fail
    refine (holidays_any c D1 hs1 w5 HC5.out).mono ?_
    rintro e w6 ⟨A, cap, rfl, hrd, hb⟩
    rw [HH.out] at hrd
    rw [HH.out]
    have HC6 := Lib.hid (HC5.out.below hb)
    have HB6 := Lib.hid (HB5.out.trans (hb.mono hz5))
    have hz6 := Nat.le_trans hz5 hb.size
    clear hb
    obtain ⟨ad, z, rfl, hab, hzk, hc0⟩ := int_at (k := 0) hrd (by simp)
    obtain rfl : d = z := by simpa using hzk
    have HD0 := Lib.hid hc0; clear hc0 hzk hrd
    go_wp2_with fail
    refine (alive8_any _).mono ?_
    rintro e w7 ⟨rfl, hb⟩
    have HC7 := Lib.hid (HC6.out.below hb)
    have HB7 := Lib.hid (HB6.out.trans (hb.mono hz6))
    have hz7 := Nat.le_trans hz6 hb.size
    have HD7 : Hid (w7.cell? (ad.add 0) = some (.int .i64 d)) := (hb.cell (p := ad.add 0) (by rw [block_of_add]; exact hab)).trans HD0.out
    have hab7 := Nat.lt_of_lt_of_le hab hb.size
    clear hb
    go_wp2_with fail
    refine (is_any c D1 d (by omega) (by omega) w7 HC7.out).mono ?_
    rw [I3.out]
    rintro e w8 ⟨rfl, hb⟩
    have HC8 := Lib.hid (HC7.out.below hb)
    have HB8 := Lib.hid (HB7.out.trans (hb.mono hz7))
    have hz8 := Nat.le_trans hz7 hb.size
    have HD8 : Hid (w8.cell? (ad.add 0) = some (.int .i64 d)) := (hb.cell (p := ad.add 0) (by rw [block_of_add]; exact hab7)).trans HD7.out
    have hab8 := Nat.lt_of_lt_of_le hab7 hb.size
    clear hb
    go_wp2_with fail
    refine (is_any c D1 (d + 1) (by omega) (by omega) w8 HC8.out).mono ?_
    rw [I4.out]
    rintro e w9 ⟨rfl, hb⟩
    have HC9 := Lib.hid (HC8.out.below hb)
    have HB9 := Lib.hid (HB8.out.trans (hb.mono hz8))
    have hz9 := Nat.le_trans hz8 hb.size
    have hd9 : w9.cell? (ad.add 0) = some (.int .i64 d) := (hb.cell (p := ad.add 0) (by rw [block_of_add]; exact hab8)).trans HD8.out
    have hd9' : w9.cell? ad = some (.int .i64 d) := by have e : ad.add 0 = ad := by unfold Addr.add; simp
                                                       rw [e] at hd9; exact hd9
    clear hb
    go_wp2_with fail
    refine (days_any c D1 day (day + 7 * n) (by omega) (by omega) (by omega) (by omega) w9 HC9.out).mono ?_
    rw [HW2.out]
    rintro e w10 ⟨rfl, hb⟩
    go_wp2
    go_ret
    refine ⟨rfl, ?_⟩
    rw [Hc.out]
    exact HB9.out.trans (hb.mono hz9)

theorem weeks_walk (day n d : Int) (w : World) :
    Calls Try.prog 5 #[.int .i64 day, .int .i64 n, .int .i64 d] w fun e w' => e = .returned (.bool true) ∧ Below w.heap.size w w' := by
  by_cases h1 : 0 ≤ day
  rotate_left
  · exact weeks_bad day n d w (.inl (by omega))
  by_cases h2 : day ≤ 900000
  rotate_left
  · exact weeks_bad day n d w (.inr (.inl ⟨h1, by omega⟩))
  by_cases h3 : 0 ≤ n
  rotate_left
  · exact weeks_bad day n d w (.inr (.inr (.inl ⟨h1, h2, by omega⟩)))
  by_cases h4 : n ≤ 100
  rotate_left
  · exact weeks_bad day n d w (.inr (.inr (.inr (.inl ⟨h1, h2, h3, by omega⟩))))
  by_cases h5 : 0 ≤ d
  rotate_left
  · exact weeks_bad day n d w (.inr (.inr (.inr (.inr (.inl ⟨h1, h2, h3, h4, by omega⟩)))))
  by_cases h6 : d ≤ 999990
  rotate_left
  · exact weeks_bad day n d w (.inr (.inr (.inr (.inr (.inr ⟨h1, h2, h3, h4, h5, by omega⟩)))))
  obtain ⟨n', rfl⟩ : ∃ n' : Nat, n = n' := ⟨n.toNat, by omega⟩
  exact weeks_good day n' d w h1 h2 (by omega) h5 h6
end Go.Proofs.Ythnhdcfhlokalaa
