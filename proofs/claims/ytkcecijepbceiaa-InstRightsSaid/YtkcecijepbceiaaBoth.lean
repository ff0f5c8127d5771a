/-
  The small world of chapter 12 as a contract: Both.
  Conditions: none.
-/
import Derived.Test.YtkcecijepbceiaaR8f
namespace Go.Proofs.Ytkcecijepbceiaa
open Go.RowKit Go.Maps Go.Shelf
attribute [local go_sem ↓] Go.wp_at_zero Go.wp_at_succ
set_option maxRecDepth 100000

theorem out8_mem {α : Type} [Kd α] {valid : ByteArray → Bool} {most : Nat} {ahead behind : α → Int} {had l : List α} : ∀ z ∈ out8 valid most ahead behind had l, z ∈ had ∨ z ∈ l := fun z hz => by
  unfold out8 at hz
  split at hz
  · exact (go8_mem l (0, had)).2 z hz
  · exact .inl hz
theorem np8 : noParty8 ⟨[], p8, [⟨bankS, bankS⟩], []⟩ = noParty sw1 := by
  funext a
  have h := p8_same.has a.party
  unfold noParty8 noParty
  show (if (findK p8 a.party).isSome = true then (0 : Int) else 7) = if hasS sw1.p a.party = true then 0 else 7
  rw [h]
  rfl
def sx3 : R8 := ⟨[], p8, a8, s8⟩
theorem sx_1 : addsP8 x0 pl0 = ⟨[], p8, [⟨bankS, bankS⟩], []⟩ := rfl
theorem sx_2 : addsA8 ⟨[], p8, [⟨bankS, bankS⟩], []⟩ ac0 = ⟨[], p8, a8, []⟩ := by
  unfold addsA8
  rw [np8]
  rfl
theorem sx_3 : addsS8 ⟨[], p8, a8, []⟩ as0 = sx3 := rfl
theorem p8_len : p8.length ≤ 20 := by rw [p8_same.len]; exact sw3_ok.np
theorem a8_len : a8.length ≤ 20 := by rw [a8_same.len]; exact sw3_ok.na
theorem s8_len : s8.length ≤ 12 := by rw [s8_same.len]; exact sw3_ok.ns
set_option maxHeartbeats 8000000 in
theorem both_any (w : World) : Calls Try.prog 31 #[] w fun e w' => ∃ r x, e = .returned (.tuple #[.pointer (some ⟨r, 0, none⟩), .pointer (some ⟨x, 0, none⟩), .bool true]) ∧ RefAt r sw3 w' ∧ R8At x sx3 w' ∧ Below w.heap.size w w' ∧ w.heap.size ≤ r ∧ w.heap.size ≤ x ∧ Lows w.heap.size r w' := by
  go_enter Try.func31, Try.ntmps31
  go_wp2_with fail
  refine (new_nil w).mono ?_
  rintro e w1 ⟨r, rfl, hr, hk1, hb1, hlo1⟩
  have HK1 := Lib.hid hk1; have HB1 := Lib.hid hb1; have HL1 := Lib.hid hlo1
  clear hk1 hb1 hlo1
  go_wp2_with fail
  refine (new8_any w1).mono ?_
  rintro e w2 ⟨x, rfl, hx, hx2, hb2⟩
  have HX2 := Lib.hid hx2
  have HK2 := Lib.hid (HK1.out.below hb2)
  have HL2 := Lib.hid (HL1.out.below hb2)
  have HB2 : Hid (Below w.heap.size w w2) := HB1.out.trans (hb2.mono HB1.out.size)
  have hxw : w.heap.size ≤ x := Nat.le_trans HB1.out.size hx
  clear HK1 HL1 HB1 hb2 hx2
  go_wp2_with fail
  refine (data_any w2).mono ?_
  rintro e w3 ⟨a, b, c, rfl, ha, hb, hc, hra, hrb, hrc, hb3⟩
  have hrl := HK2.out.lt
  have hxl := HX2.out.lt
  have HK3 := Lib.hid (HK2.out.below hb3)
  have HX3 := Lib.hid (HX2.out.below hb3)
  have HL3 := Lib.hid (HL2.out.below hb3)
  have HB3 : Hid (Below w.heap.size w w3) := HB2.out.trans (hb3.mono HB2.out.size)
  have HA3 := Lib.hid hra; have HBB3 := Lib.hid hrb; have HC3 := Lib.hid hrc
  have hax : a ≠ x := by omega
  have hbx : b ≠ x := by omega
  have hcx : c ≠ x := by omega
  have har : a ≠ r := by omega
  have hbr : b ≠ r := by omega
  have hcr : c ≠ r := by omega
  clear HK2 HL2 HB2 HX2 hb3 hra hrb hrc ha hb hc
  have Q1 : Hid (Calls Try.prog 55 #[.pointer (some ⟨x, 0, none⟩), .slice (some ⟨a, 0, none⟩) 3 3] w3 fun e w' => e = .returned (.int .i64 (errsP8 x0 pl0)) ∧ R8At x ⟨[], p8, [⟨bankS, bankS⟩], []⟩ w' ∧ Mv [x] [x] w3 w') :=
    addsP8_any x x0 pl0 (some ⟨a, 0, none⟩) 3 w3 HX3.out HA3.out (fun _ ad e => by injection e with e; subst e; exact hax) (by decide) (by decide) (by decide) (by decide) (by intro z hz; simp [x0] at hz; subst hz; decide) (by decide)
  go_wp2_with fail
  refine Q1.out.mono ?_
  rintro e w4 ⟨rfl, hx4, hm4⟩
  obtain ⟨cx3, hcx3⟩ := HX3.out.heap
  have HK4 := Lib.hid (HK3.out.aside hm4 hcx3 (by decide) (by decide))
  have HX4 := Lib.hid hx4
  have HA4 := Lib.hid (HA3.out.mvx hm4 (fun _ ad e => by injection e with e; subst e; exact hax))
  have HBB4 := Lib.hid (HBB3.out.mvx hm4 (fun _ ad e => by injection e with e; subst e; exact hbx))
  have HC4 := Lib.hid (HC3.out.mvx hm4 (fun _ ad e => by injection e with e; subst e; exact hcx))
  have HL4 : Hid (Lows w.heap.size r w4) := by
    obtain ⟨_, _, _, _, g1, g2⟩ := HL3.out
    exact ⟨_, _, _, _, (hm4.block r HK3.out.lt (by simpa using type_ne g1 hcx3 (by decide))).trans g1, g2⟩
  have HB4 : Hid (Below w.heap.size w w4) := HB3.out.trans (hm4.below (by simpa using hxw) HB3.out.size)
  clear Q1 HK3 HX3 HA3 HBB3 HC3 HL3 HB3 hx4 hm4 hcx3
  have Q2 : Hid (Calls Try.prog 56 #[.pointer (some ⟨x, 0, none⟩), .slice (some ⟨b, 0, none⟩) 6 6] w4 fun e w' => e = .returned (.int .i64 (errsA8 ⟨[], p8, [⟨bankS, bankS⟩], []⟩ ac0)) ∧ R8At x ⟨[], p8, a8, []⟩ w' ∧ Mv [x] [x] w4 w') := by
    have h := addsA8_any x ⟨[], p8, [⟨bankS, bankS⟩], []⟩ ac0 (some ⟨b, 0, none⟩) 6 w4 HX4.out HBB4.out (fun _ ad e => by injection e with e; subst e; exact hbx) (by decide) (by have := p8_len; show p8.length ≤ 50000; omega) (by decide) (by decide) (by intro z hz; simp at hz; subst hz; decide) (by decide)
    rw [sx_2] at h
    exact h
  go_wp2_with fail
  refine Q2.out.mono ?_
  rintro e w5 ⟨rfl, hx5, hm5⟩
  obtain ⟨cx4, hcx4⟩ := HX4.out.heap
  have HK5 := Lib.hid (HK4.out.aside hm5 hcx4 (by decide) (by decide))
  have HX5 := Lib.hid hx5
  have HA5 := Lib.hid (HA4.out.mvx hm5 (fun _ ad e => by injection e with e; subst e; exact hax))
  have HBB5 := Lib.hid (HBB4.out.mvx hm5 (fun _ ad e => by injection e with e; subst e; exact hbx))
  have HC5 := Lib.hid (HC4.out.mvx hm5 (fun _ ad e => by injection e with e; subst e; exact hcx))
  have HL5 : Hid (Lows w.heap.size r w5) := by
    obtain ⟨_, _, _, _, g1, g2⟩ := HL4.out
    exact ⟨_, _, _, _, (hm5.block r HK4.out.lt (by simpa using type_ne g1 hcx4 (by decide))).trans g1, g2⟩
  have HB5 : Hid (Below w.heap.size w w5) := HB4.out.trans (hm5.below (by simpa using hxw) HB4.out.size)
  clear Q2 HK4 HX4 HA4 HBB4 HC4 HL4 HB4 hx5 hm5 hcx4
  have Q3 : Hid (Calls Try.prog 57 #[.pointer (some ⟨x, 0, none⟩), .slice (some ⟨c, 0, none⟩) 5 5] w5 fun e w' => e = .returned (.int .i64 (errsS8 ⟨[], p8, a8, []⟩ as0)) ∧ R8At x sx3 w' ∧ Mv [x] [x] w5 w') :=
    addsS8_any x ⟨[], p8, a8, []⟩ as0 (some ⟨c, 0, none⟩) 5 w5 HX5.out HC5.out (fun _ ad e => by injection e with e; subst e; exact hcx) (by decide) (by have := p8_len; show p8.length ≤ 50000; omega) (by have := a8_len; show a8.length ≤ 50000; omega) (by decide) (by intro z hz; simp at hz) (by decide)
  go_wp2_with fail
  refine Q3.out.mono ?_
  rintro e w6 ⟨rfl, hx6, hm6⟩
  obtain ⟨cx5, hcx5⟩ := HX5.out.heap
  have HK6 := Lib.hid (HK5.out.aside hm6 hcx5 (by decide) (by decide))
  have HX6 := Lib.hid hx6
  have HA6 := Lib.hid (HA5.out.mvx hm6 (fun _ ad e => by injection e with e; subst e; exact hax))
  have HBB6 := Lib.hid (HBB5.out.mvx hm6 (fun _ ad e => by injection e with e; subst e; exact hbx))
  have HC6 := Lib.hid (HC5.out.mvx hm6 (fun _ ad e => by injection e with e; subst e; exact hcx))
  have HL6 : Hid (Lows w.heap.size r w6) := by
    obtain ⟨_, _, _, _, g1, g2⟩ := HL5.out
    exact ⟨_, _, _, _, (hm6.block r HK5.out.lt (by simpa using type_ne g1 hcx5 (by decide))).trans g1, g2⟩
  have HB6 : Hid (Below w.heap.size w w6) := HB5.out.trans (hm6.below (by simpa using hxw) HB5.out.size)
  clear Q3 HK5 HX5 HA5 HBB5 HC5 HL5 HB5 hx6 hm6 hcx5
  have Q4 : Hid (Calls Try.prog 58 #[.pointer (some ⟨r, 0, none⟩), .slice (some ⟨a, 0, none⟩) 3 3] w6 fun e w' => e = .returned (.int .i64 0) ∧ RefAt r sw1 w' ∧ MvL r w6 w') := by
    have h := addParties_any r rf0 rf0_ok pl0 (some ⟨a, 0, none⟩) 3 w6 HK6.out HA6.out (by decide)
    rw [sw_e1] at h
    exact h
  go_wp2_with fail
  refine Q4.out.mono ?_
  rintro e w7 ⟨rfl, hk7, hm7⟩
  obtain ⟨d1, d2, d3, d4, hh6⟩ := HK6.out.heap
  have HK7 := Lib.hid hk7
  have HX7 := Lib.hid (HX6.out.aside hm7.mv hh6 (by decide) (by intro s; simp) (by intro s; simp))
  have HBB7 := Lib.hid (HBB6.out.mvx hm7.mv (fun _ ad e => by injection e with e; subst e; exact hbr))
  have HC7 := Lib.hid (HC6.out.mvx hm7.mv (fun _ ad e => by injection e with e; subst e; exact hcr))
  have HL7 := Lib.hid (hm7.lows _ HB6.out.size HL6.out)
  have HB7 : Hid (Below w.heap.size w w7) := HB6.out.trans (hm7.mv.below (by simpa using hr) HB6.out.size)
  clear Q4 HK6 HX6 HA6 HBB6 HC6 HL6 HB6 hk7 hm7 hh6
  have Q5 : Hid (Calls Try.prog 59 #[.pointer (some ⟨r, 0, none⟩), .slice (some ⟨b, 0, none⟩) 6 6] w7 fun e w' => e = .returned (.int .i64 0) ∧ RefAt r sw2 w' ∧ MvL r w7 w') := by
    have h := addAccounts_any r sw1 sw1_ok ac0 (some ⟨b, 0, none⟩) 6 w7 HK7.out HBB7.out (by decide) (by decide)
    rw [sw_e2] at h
    exact h
  go_wp2_with fail
  refine Q5.out.mono ?_
  rintro e w8 ⟨rfl, hk8, hm8⟩
  obtain ⟨d1', d2', d3', d4', hh7⟩ := HK7.out.heap
  have HK8 := Lib.hid hk8
  have HX8 := Lib.hid (HX7.out.aside hm8.mv hh7 (by decide) (by intro s; simp) (by intro s; simp))
  have HC8 := Lib.hid (HC7.out.mvx hm8.mv (fun _ ad e => by injection e with e; subst e; exact hcr))
  have HL8 := Lib.hid (hm8.lows _ HB7.out.size HL7.out)
  have HB8 : Hid (Below w.heap.size w w8) := HB7.out.trans (hm8.mv.below (by simpa using hr) HB7.out.size)
  clear Q5 HK7 HX7 HBB7 HC7 HL7 HB7 hk8 hm8 hh7
  have Q6 : Hid (Calls Try.prog 60 #[.pointer (some ⟨r, 0, none⟩), .slice (some ⟨c, 0, none⟩) 5 5] w8 fun e w' => e = .returned (.int .i64 0) ∧ RefAt r sw3 w' ∧ MvL r w8 w') := by
    have h := addAssets_any r sw2 sw2_ok as0 (some ⟨c, 0, none⟩) 5 w8 HK8.out HC8.out (by decide)
    rw [sw_e3] at h
    exact h
  go_wp2_with fail
  refine Q6.out.mono ?_
  rintro e w9 ⟨rfl, hk9, hm9⟩
  obtain ⟨d1'', d2'', d3'', d4'', hh8⟩ := HK8.out.heap
  have HK9 := Lib.hid hk9
  have HX9 := Lib.hid (HX8.out.aside hm9.mv hh8 (by decide) (by intro s; simp) (by intro s; simp))
  have HL9 := Lib.hid (hm9.lows _ HB8.out.size HL8.out)
  have HB9 : Hid (Below w.heap.size w w9) := HB8.out.trans (hm9.mv.below (by simpa using hr) HB8.out.size)
  clear Q6 HK8 HX8 HC8 HL8 HB8 hk9 hm9 hh8
  go_wp2
  go_ret3
  exact ⟨r, x, rfl, HK9.out, HX9.out, HB9.out, hr, hxw, HL9.out⟩
end Go.Proofs.Ytkcecijepbceiaa
