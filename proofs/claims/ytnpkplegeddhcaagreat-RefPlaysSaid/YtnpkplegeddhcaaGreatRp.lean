/-
 The walk of RefPlays: whatever is done in whatever order, the program answers as the document.
 Conditions: days, a bit, steps in memory.
-/
import Derived.Test.YtnpkplegeddhcaaGreatTk
import Derived.Test.YtnpkplegeddhcaaGreatRpG
import Derived.Test.YtnpkplegeddhcaaGreatRefNew
import Derived.Test.YtnpkplegeddhcaaGreatRef7
import Derived.Test.YtnpkplegeddhcaaGreatR8n
import Derived.Test.YtnpkplegeddhcaaGreatCal3
import Derived.Test.YtnpkplegeddhcaaGreatR8h
namespace Go.Proofs.YtnpkplegeddhcaaGreat
open Go.RowKit Go.Maps Go.Shelf Kb

set_option maxHeartbeats 40000000 in
set_option maxRecDepth 100000 in
theorem rplays_main (H : List Int) (nb : Bool) (l : List ROp) (A A' : Option Addr) (c c' : Nat) (w : World)
  (hr : Reads w w.heap.size 1 A H.length (ints H)) (hl : H.length ≤ 9223372036854775807) (hv : ∀ v ∈ H, -9223372036854775808 ≤ v ∧ v ≤ 9223372036854775807)
  (ho : ROpsAt w w.heap.size A' l) (hol : l.length ≤ 9223372036854775807) (hof : ∀ x ∈ l, x.Fits) :
  Calls Tryz.prog 3 #[.slice A H.length c, .bool nb, .slice A' l.length c'] w fun e w' => e = .returned (.bool true) ∧ Below w.heap.size w w' := by
 have L0 := rlight_any l A' c' w.heap.size w ho hol hof
 have N0 := new_any H A c w hr hl hv
 obtain ⟨m, hm⟩ : ∃ m, H.length = m := ⟨_, rfl⟩
 obtain ⟨n, hn⟩ : ∃ n, l.length = n := ⟨_, rfl⟩
 obtain ⟨ev, hev⟩ : ∃ ev, errNew H = ev := ⟨_, rfl⟩
 rw [hm, hev] at N0
 rw [hn] at L0
 rw [hm, hn]
 rw [hm] at hl
 rw [hn] at hol
 have HM := Lib.hid hm; have HN := Lib.hid hn; have HEV := Lib.hid hev; have HL0 := Lib.hid L0; have HN0 := Lib.hid N0
 have HR := Lib.hid hr; have HV := Lib.hid hv; have HO := Lib.hid ho; have HF := Lib.hid hof
 clear hm hn hev L0 N0 hr hv ho hof
 go_enter Tryz.func3, Tryz.ntmps3
 go_wp2_with fail
 refine HL0.out.mono ?_
 rintro e w1 ⟨hLR, hw1⟩
 obtain rfl : w = w1 := hw1.symm
 clear HL0
 rcases hLR with ⟨rfl, h80, hall⟩ | rfl
 rotate_left
 ·skip
  --<
  go_wp2_with fail
  refine (alive9_any _).mono ?_
  rintro e w9 ⟨rfl, hb9⟩
  have HB9 := Lib.hid hb9
  clear hb9
  go_wp2
  go_ret
  exact ⟨rfl, HB9.out⟩
  -->
 have HALL := Lib.hid hall
 have h80' : n ≤ 80 := by have := HN.out; omega
 clear hall h80
 by_cases h300 : m ≤ 300
 rotate_left
 ·have t1 : (300 : Int) < (m : Int) := by omega
  --<
  go_wp2_with fail
  refine (alive9_any _).mono ?_
  rintro e w9 ⟨rfl, hb9⟩
  have HB9 := Lib.hid hb9
  clear hb9
  go_wp2
  go_ret
  exact ⟨rfl, HB9.out⟩
  -->
 have t1 : decide ((300 : Int) < (m : Int)) = false := decide_eq_false (by omega)
 go_wp2_with fail
 refine HN0.out.mono ?_
 rintro e w2 ⟨rfl, hok, hb2⟩
 have HB2 := Lib.hid hb2
 have HOK := Lib.hid hok
 have hz2 := hb2.size
 clear HN0 hb2 hok t1
 by_cases hev0 : ev = 0
 rotate_left
 ·have t2 : (ev != 0) = true := by simp [hev0]
  have t3 : ¬ (ev = 0) := hev0
  --<
  go_wp2_with fail
  refine (alive9_any _).mono ?_
  rintro e w9 ⟨rfl, hb9⟩
  have HB9 := Lib.hid hb9
  clear hb9
  go_wp2
  go_ret
  exact ⟨rfl, HB2.out.trans (HB9.out.mono HB2.out.size)⟩
  -->
 subst hev0
 have HCAL := Lib.hid (HOK.out rfl)
 clear HOK
 rw [if_pos rfl]
 go_wp2_with fail
 refine (new8_any _).mono ?_
 rintro e w3 ⟨x, rfl, hx, hk3, hb3⟩
 have HB3 : Hid (Below w.heap.size w w3) := HB2.out.trans (hb3.mono HB2.out.size)
 have HCAL3 := Lib.hid (HCAL.out.below hb3)
 have HK3 := Lib.hid hk3
 have hz3 := hb3.size
 have hx3 := hk3.lt
 have HCLT := Lib.hid HCAL.out.lt
 clear hk3 hb3 HCAL
 go_upto_if 50 with (fail)
 go_cut [7] (fun cv wx => ∃ (cal : Option Addr) (s8 : R8), cv = .pointer cal ∧ Hid (R8At x s8 wx) ∧ Hid (Below w.heap.size w wx) ∧ Hid (Calls Tryz.prog 9 #[.pointer cal] wx fun e w' => ∃ r st, e = .returned (.pointer (some ⟨r, 0, none⟩)) ∧ wx.heap.size ≤ r ∧ RefAt r st w' ∧ Below wx.heap.size wx w' ∧ Lows w.heap.size r w' ∧ Agree st s8))
 case first =>
  --<
  as_aux_lemma =>
  cases nb
  ·have C8 := close8_any x x0 H A c w3 HK3.out ((HR.out.below HB3.out).more HB3.out.size) (by rw [HM.out]; omega) (by decide)
   rw [HM.out] at C8
   have HC8 := Lib.hid C8
   clear C8
   go_wp2_with fail
   refine HC8.out.mono ?_
   rintro e w4 ⟨rfl, hk4, hm4⟩
   have HK4 := Lib.hid hk4
   have HM4 := Lib.hid hm4
   clear hk4 hm4 HC8
   go_wp2
   go_meet
   have hb4 : Below w.heap.size w w4 := HB3.out.trans (HM4.out.below (by simp; omega) HB3.out.size)
   have hcal4 : CalAt w.heap.size (setD H) w4 := by
    obtain ⟨cs8, h8⟩ := HK3.out.heap
    have := HCLT.out
    exact HCAL3.out.mv HM4.out h8 (by omega)
   refine ⟨_, _, rfl, HK4.out, hb4, ?_⟩
   refine (new_cal w.heap.size w.heap.size (setD H) w4 hcal4 (Nat.le_refl _) hb4.size).mono ?_
   rintro e w' ⟨r, rfl, h1, h2, h3, h4⟩
   exact ⟨r, _, rfl, h1, h2, h3, h4, agree_new HEV.out⟩
  ·go_wp2
   go_meet
   refine ⟨_, _, rfl, HK3.out, HB3.out, ?_⟩
   refine (new_nil w3).mono ?_
   rintro e w' ⟨r, rfl, h1, h2, h3, h4⟩
   exact ⟨r, _, rfl, h1, h2, h3, h4.mono HB3.out.size, agree_none⟩
  -->
 case rest =>
 as_aux_lemma =>
 clear HB3 HK3 HCAL3
 obtain ⟨cal, s8, rfl, HK3, HB3, HNEW⟩ := hcut
 obtain ⟨X, hXX⟩ : ∃ X, X = wc := ⟨_, rfl⟩
 subst hXX
 go_wp2_with fail
 refine HNEW.out.mono ?_
 rintro e w4 ⟨r, st, rfl, hr4, hk4, hb4, hl4, hag⟩
 have HK4 := Lib.hid hk4
 have HL4 := Lib.hid hl4
 have HX4 := Lib.hid (HK3.out.below hb4)
 have HB4 : Hid (Below w.heap.size w w4) := HB3.out.trans (hb4.mono HB3.out.size)
 have HAG := Lib.hid hag
 have HZ4 : Hid (w.heap.size ≤ r) := Nat.le_trans HB3.out.size hr4
 have HW0 := Lib.hid (wb_new (B := w.heap.size) HK4.out HL4.out HX4.out HZ4.out (by omega) HB4.out.size)
 have HB5 : Hid (Below w.heap.size w (w4.alloc (.cells bc0 61))) := HB4.out.alloc HB4.out.size _
 clear hk4 hl4 hb4 hag HNEW HK3 HB3
 go_wp2
 go_loopw [12] (fun i wr => ∃ (k : Nat) (st : Rf) (s8 : R8) (Mp Ma Ms : Nat), k ≤ n ∧ i = .int .i64 k ∧ Hid (Wb w.heap.size r x w4.heap.size k k k Mp Ma Ms st s8 wr) ∧ Hid (Agree st s8) ∧ Hid (Below w.heap.size w wr)) (fun i _ => n - (intOf i).toNat)
 case atStart => exact ⟨0, st, s8, _, _, _, Nat.zero_le _, rfl, HW0.out, HAG.out, HB5.out⟩
 case round =>
  as_aux_lemma =>
  clear HW0 HAG HB5 HK4 HL4 HX4 HB4
  obtain ⟨k, st, s8, Mp, Ma, Ms, hk, rfl, HWB, HAG, HB⟩ := hrel
  by_cases hlt : k < n
  rotate_left
  ·obtain rfl : k = n := by omega
   --<
   go_wp2_with fail
   refine (alive9_any _).mono ?_
   rintro e w5 ⟨rfl, hb5⟩
   have HB5 := Lib.hid hb5
   have HAP := Lib.hid (wl_apart (HWB.out.below hb5))
   clear hb5
   go_wp2_with fail
   refine HAP.out.mono ?_
   rintro e w6 ⟨rfl, hb6⟩
   have HB6 := Lib.hid hb6
   clear hb6 HAP
   go_wp2
   go_ret
   exact ⟨rfl, HB.out.trans ((HB5.out.mono HB.out.size).trans HB6.out)⟩
   -->
  obtain ⟨ad, o, rfl, hab, hok, hc0, hin0⟩ := HO.out.at_ (show k < l.length by rw [HN.out]; exact hlt)
  have hin := hin0.below HB.out
  have hfx := HF.out o (List.mem_of_getElem? hok)
  have hox := HALL.out o (List.mem_of_getElem? hok)
  have hc : ∀ j v, o.cells[j]? = some v → wr.cell? ((ad.add (k * 6)).add j) = some v := fun j v hj => (HB.out.cell (by rw [block_of_add, block_of_add]; exact hab)).trans (hc0 j v hj)
  clear hok hc0 hin0
  obtain ⟨kd, nn, s, pp, pa, pc, aa, aA, ac, ll, la, lc⟩ := o
  obtain ⟨np, hnp⟩ : ∃ n, pp.length = n := ⟨_, rfl⟩
  obtain ⟨na, hna⟩ : ∃ n, aa.length = n := ⟨_, rfl⟩
  obtain ⟨nl, hnl⟩ : ∃ n, ll.length = n := ⟨_, rfl⟩
  obtain ⟨x1, x2, x3, x4⟩ := hox
  have f1 := hfx.vp; have f2 := hfx.va; have f3 := hfx.vl; have f4 := hfx.vs; have f5 := hfx.vn; have g1 := hin.rp; have g2 := hin.ra; have g3 := hin.rl
  dsimp only at x1 x2 x3 x4 f1 f2 f3 f4 f5 g1 g2 g3
  have c0 : wr.cell? (ad.add (k * 6)) = some (.int .i64 kd) := by have h := hc 0 _ rfl; rw [show (ad.add (k * 6)).add 0 = ad.add (k * 6) from by rw [add_of_add]; rfl] at h; exact h
  have c1 : wr.cell? ⟨(ad.add (k * 6)).block, (ad.add (k * 6)).off + 1, none⟩ = some (.int .i64 nn) := hc 1 _ rfl
  have c2 : wr.cell? ⟨(ad.add (k * 6)).block, (ad.add (k * 6)).off + 2, none⟩ = some (.string s) := hc 2 _ rfl
  have c3 : wr.cell? ⟨(ad.add (k * 6)).block, (ad.add (k * 6)).off + 3, none⟩ = some (.slice pa pp.length pc) := hc 3 _ rfl
  have c4 : wr.cell? ⟨(ad.add (k * 6)).block, (ad.add (k * 6)).off + 4, none⟩ = some (.slice aA aa.length ac) := hc 4 _ rfl
  have c5 : wr.cell? ⟨(ad.add (k * 6)).block, (ad.add (k * 6)).off + 5, none⟩ = some (.slice la ll.length lc) := hc 5 _ rfl
  rw [hnp] at c3 x1
  rw [hna] at c4 x2
  rw [hnl] at c5 x3
  have HNP := Lib.hid hnp; have HNA := Lib.hid hna; have HNL := Lib.hid hnl
  have F1 := Lib.hid f1; have F2 := Lib.hid f2; have F3 := Lib.hid f3
  have G1 := Lib.hid g1; have G2 := Lib.hid g2; have G3 := Lib.hid g3
  have hrN := HWB.out.ref.lt
  have hxN := HWB.out.dat.lt
  obtain ⟨cc, hcc, hcal, _, _⟩ := HWB.out.cal
  have hcN := hcal.lt
  have HCC := Lib.hid hcc
  clear hc hfx hin hnp hna hnl f1 f2 f3 g1 g2 g3 hcc hcal
  obtain ⟨W5, HW5⟩ : ∃ W, Hid (wr.alloc (.cells #[.int .i64 kd, .int .i64 nn, .string s, .slice pa np pc, .slice aA na ac, .slice la nl lc] 63) = W) := ⟨_, rfl⟩
  have hb5 : Below wr.heap.size wr W5 := by rw [← HW5.out]; exact (Below.refl _ _).alloc (Nat.le_refl _) _
  have hk5 : W5.heap[wr.heap.size]? = some (.cells #[.int .i64 kd, .int .i64 nn, .string s, .slice pa np pc, .slice aA na ac, .slice la nl lc] 63 (0, 0)) := by rw [← HW5.out]; exact heap_alloc_new _ _
  have hz5 : wr.heap.size < W5.heap.size := by rw [← HW5.out]; simp
  have q0 : W5.cell? ⟨wr.heap.size, 0, none⟩ = some (.int .i64 kd) := by rw [Lib.cell_of_heap hk5]; rfl
  have q1 : W5.cell? ⟨wr.heap.size, 1, none⟩ = some (.int .i64 nn) := by rw [Lib.cell_of_heap hk5]; rfl
  have q2 : W5.cell? ⟨wr.heap.size, 2, none⟩ = some (.string s) := by rw [Lib.cell_of_heap hk5]; rfl
  have q3 : W5.cell? ⟨wr.heap.size, 3, none⟩ = some (.slice pa np pc) := by rw [Lib.cell_of_heap hk5]; rfl
  have q4 : W5.cell? ⟨wr.heap.size, 4, none⟩ = some (.slice aA na ac) := by rw [Lib.cell_of_heap hk5]; rfl
  have q5 : W5.cell? ⟨wr.heap.size, 5, none⟩ = some (.slice la nl lc) := by rw [Lib.cell_of_heap hk5]; rfl
  have hWo := HW5.out
  go_upto_block 2 with (fail)
  clear hWo c0 c1 c2 c3 c4 c5
  have HK5 := Lib.hid hk5
  have HWB5 := Lib.hid (HWB.out.below hb5)
  have HB5 : Hid (Below w.heap.size w W5) := HB.out.trans (hb5.mono HB.out.size)
  have HB15 := Lib.hid hb5
  clear hk5 hb5
  go_cut [12] (fun iv wx => iv = .int .i64 k ∧ Hid (∃ st' s8' Mp Ma Ms, Wb w.heap.size r x w4.heap.size k k k Mp Ma Ms st' s8' wx ∧ Agree st' s8') ∧ Hid (Up wr.heap.size W5 wx) ∧ Hid (Below w.heap.size w wx))
  case first =>
   by_cases h1 : kd = 1
   ·subst h1
    --<
    as_aux_lemma =>
    have CL := KPa.lent_any pp pa pc w.heap.size W5 (((G1.out.keepB (HB15.out.mono HB.out.size)).reads (fun _ _ => rfl))) (by rw [HNP.out]; omega)
    rw [HNP.out] at CL
    have HCL := Lib.hid CL
    clear CL
    go_wp2_with fail
    refine HCL.out.mono ?_
    rintro e w6 ⟨gm, cm, rfl, hcm, hcm2, hgm, hgm3, hrm, hb6⟩
    obtain ⟨ev, st1, s81, hag1, QA, QB, QC⟩ := armP (N := wr.heap.size) (c := pc) (HWB5.out.below hb6) HAG.out hrN hxN HNP.out (by omega) F1.out (by omega) hcm hcm2 hrm (G1.out.keepB ((HB15.out.mono HB.out.size).trans (hb6.mono HB5.out.size)))
    have HAG1 := Lib.hid hag1
    have HB6 := Lib.hid hb6
    have t6 : w6.cell? ⟨wr.heap.size, 3, none⟩ = some (.slice pa np pc) := (hb6.cell (show wr.heap.size < W5.heap.size by omega)).trans q3
    clear hb6 hrm HCL hag1
    go_wp2
    refine wp_region_held_drew (S := fun X => X.cell? ⟨wr.heap.size, 3, none⟩ = some (.slice pa np pc)) (by kernel_rfl) t6 (fun hHeld => ?_)
    refine tk (i := 0) (v := ?_) rfl (Or.inl ⟨by rfl, ?_⟩) ?_
    rotate_left
    ·intro X hSw; (try simp only [sD, sE, sF]); first | (go_simp; done) | (go_simp; with_reducible rfl)
    try simp only [Act.put, sA, sB, sC, sD, sE, sF]
    refine tk (i := 1) (v := ?_) rfl (Or.inl ⟨by rfl, ?_⟩) ?_
    rotate_left
    ·intro X hSw; (try simp only [sD, sE, sF]); first | (go_simp; done) | (go_simp; with_reducible rfl)
    try simp only [Act.put, sA, sB, sC, sD, sE, sF]
    refine tk (i := 3) (v := ?_) rfl (Or.inl ⟨by rfl, ?_⟩) ?_
    rotate_left
    ·intro X hSw; (try simp only [sD, sE, sF]); first | (go_simp; done) | (go_simp; with_reducible rfl)
    try simp only [Act.put, sA, sB, sC, sD, sE, sF]
    refine tk (i := 4) (v := ?_) rfl (Or.inl ⟨by rfl, ?_⟩) ?_
    rotate_left
    ·intro X hSw; (try simp only [sD, sE, sF]); first | (go_simp; done) | (go_simp; with_reducible rfl)
    try simp only [Act.put, sA, sB, sC, sD, sE, sF]
    refine tk (i := 5) (v := ?_) rfl (Or.inl ⟨by rfl, ?_⟩) ?_
    rotate_left
    ·intro X hSw; (try simp only [sD, sE, sF]); first | (go_simp; done) | (go_simp; with_reducible rfl)
    try simp only [Act.put, sA, sB, sC, sD, sE, sF]
    refine wpAnyH_ready (rs := [2]) (by kernel_rfl) (by simp) (AllReadyH.cons rfl (fun K hK => ?_) AllReadyH.nil)
    try simp only [sD, sE, sF]
    go_simp
    refine (QA.out).mono ?_
    rintro e w7 ⟨rfl, d7⟩
    have t7 := d7.cell (Nat.le_refl _) t6
    have D7 := Lib.hid d7
    clear d7
    refine hK.out _ _ (t7) (fun hHeld => ?_)
    clear hK K
    try simp only [Act.put, sA, sB, sC, sD, sE, sF]
    refine wpAnyH_ready (rs := [6]) (by kernel_rfl) (by simp) (AllReadyH.cons rfl (fun K hK => ?_) AllReadyH.nil)
    try simp only [sD, sE, sF]
    go_simp
    refine (QB.out _ D7.out).mono ?_
    rintro e w8 ⟨rfl, d8⟩
    have t8 := d8.cell (Nat.le_refl _) t6
    have D8 := Lib.hid d8
    clear d8 D7
    refine hK.out _ _ (t8) (fun hHeld => ?_)
    clear hK K
    try simp only [Act.put, sA, sB, sC, sD, sE, sF]
    refine tk (i := 7) (v := ?_) rfl (Or.inl ⟨by rfl, ?_⟩) ?_
    rotate_left
    ·intro X hSw; (try simp only [sD, sE, sF]); first | (go_simp; done) | (go_simp; with_reducible rfl)
    try simp only [Act.put, sA, sB, sC, sD, sE, sF]
    refine tk (i := 8) (v := ?_) rfl (Or.inl ⟨by rfl, ?_⟩) ?_
    rotate_left
    ·intro X hSw; (try simp only [sD, sE, sF]); first | (go_simp; done) | (go_simp; with_reducible rfl)
    try simp only [Act.put, sA, sB, sC, sD, sE, sF]
    refine tk (i := 9) (v := ?_) rfl (Or.inl ⟨by rfl, ?_⟩) ?_
    rotate_left
    ·intro X hSw; (try simp only [sD, sE, sF]); first | (go_simp; done) | (go_simp; with_reducible rfl)
    try simp only [Act.put, sA, sB, sC, sD, sE, sF]
    refine tk (i := 10) (v := ?_) rfl (Or.inl ⟨by rfl, ?_⟩) ?_
    rotate_left
    ·intro X hSw; (try simp only [sD, sE, sF]); first | (go_simp; done) | (go_simp; with_reducible rfl)
    try simp only [Act.put, sA, sB, sC, sD, sE, sF]
    refine tk (i := 11) (v := ?_) rfl (Or.inl ⟨by rfl, ?_⟩) ?_
    rotate_left
    ·intro X hSw; (try simp only [sD, sE, sF]); first | (go_simp; done) | (go_simp; with_reducible rfl)
    try simp only [Act.put, sA, sB, sC, sD, sE, sF]
    refine wpAnyH_ready (rs := [12]) (by kernel_rfl) (by simp) (AllReadyH.cons rfl (fun K hK => ?_) AllReadyH.nil)
    try simp only [sD, sE, sF]
    go_simp
    refine (QC.out _ D8.out).mono ?_
    rintro e w9 ⟨rfl, d9⟩
    have t9 := d9.cell (Nat.le_refl _) t6
    have D9 := Lib.hid d9
    clear d9 D8
    refine hK.out _ _ (t9) (fun hHeld => ?_)
    clear hK K
    try simp only [Act.put, sA, sB, sC, sD, sE, sF]
    refine tk (i := 13) (v := ?_) rfl (Or.inl ⟨by rfl, ?_⟩) ?_
    rotate_left
    ·intro X hSw; (try simp only [sD, sE, sF]); first | (go_simp; done) | (go_simp; with_reducible rfl)
    try simp only [Act.put, sA, sB, sC, sD, sE, sF]
    refine tk (i := 14) (v := ?_) rfl (Or.inl ⟨by rfl, ?_⟩) ?_
    rotate_left
    ·intro X hSw; (try simp only [sD, sE, sF]); first | (go_simp; done) | (go_simp; with_reducible rfl)
    try simp only [Act.put, sA, sB, sC, sD, sE, sF]
    refine wpAnyH_done (by kernel_rfl) ?_ _
    go_wp2
    go_meet
    obtain ⟨⟨Mp', Ma', Ms', hw9⟩, hu9, hb9⟩ := D9.out
    exact ⟨rfl, ⟨st1, s81, Mp', Ma', Ms', hw9, HAG1.out⟩, (Up.of_below HB6.out).trans hu9, HB5.out.trans ((HB6.out.mono HB5.out.size).trans hb9)⟩
    -->
   by_cases h2 : kd = 2
   ·subst h2
    --<
    as_aux_lemma =>
    have CL := KAc.lent_any aa aA ac w.heap.size W5 (((G2.out.keepB (HB15.out.mono HB.out.size)).reads (fun _ _ => rfl))) (by rw [HNA.out]; omega)
    rw [HNA.out] at CL
    have HCL := Lib.hid CL
    clear CL
    go_wp2_with fail
    refine HCL.out.mono ?_
    rintro e w6 ⟨gm, cm, rfl, hcm, hcm2, hgm, hgm3, hrm, hb6⟩
    obtain ⟨ev, st1, s81, hag1, QA, QB, QC⟩ := armA (N := wr.heap.size) (c := ac) (HWB5.out.below hb6) HAG.out hrN hxN HNA.out (by omega) (fun z hz => (F2.out z hz).1) (fun z hz => (F2.out z hz).2) (by omega) hcm hcm2 hrm (G2.out.keepB ((HB15.out.mono HB.out.size).trans (hb6.mono HB5.out.size)))
    have HAG1 := Lib.hid hag1
    have HB6 := Lib.hid hb6
    have t6 : w6.cell? ⟨wr.heap.size, 4, none⟩ = some (.slice aA na ac) := (hb6.cell (show wr.heap.size < W5.heap.size by omega)).trans q4
    clear hb6 hrm HCL hag1
    go_wp2
    refine wp_region_held_drew (S := fun X => X.cell? ⟨wr.heap.size, 4, none⟩ = some (.slice aA na ac)) (by kernel_rfl) t6 (fun hHeld => ?_)
    refine tk (i := 0) (v := ?_) rfl (Or.inl ⟨by rfl, ?_⟩) ?_
    rotate_left
    ·intro X hSw; (try simp only [sD, sE, sF]); first | (go_simp; done) | (go_simp; with_reducible rfl)
    try simp only [Act.put, sA, sB, sC, sD, sE, sF]
    refine tk (i := 1) (v := ?_) rfl (Or.inl ⟨by rfl, ?_⟩) ?_
    rotate_left
    ·intro X hSw; (try simp only [sD, sE, sF]); first | (go_simp; done) | (go_simp; with_reducible rfl)
    try simp only [Act.put, sA, sB, sC, sD, sE, sF]
    refine tk (i := 3) (v := ?_) rfl (Or.inl ⟨by rfl, ?_⟩) ?_
    rotate_left
    ·intro X hSw; (try simp only [sD, sE, sF]); first | (go_simp; done) | (go_simp; with_reducible rfl)
    try simp only [Act.put, sA, sB, sC, sD, sE, sF]
    refine tk (i := 4) (v := ?_) rfl (Or.inl ⟨by rfl, ?_⟩) ?_
    rotate_left
    ·intro X hSw; (try simp only [sD, sE, sF]); first | (go_simp; done) | (go_simp; with_reducible rfl)
    try simp only [Act.put, sA, sB, sC, sD, sE, sF]
    refine tk (i := 5) (v := ?_) rfl (Or.inl ⟨by rfl, ?_⟩) ?_
    rotate_left
    ·intro X hSw; (try simp only [sD, sE, sF]); first | (go_simp; done) | (go_simp; with_reducible rfl)
    try simp only [Act.put, sA, sB, sC, sD, sE, sF]
    refine wpAnyH_ready (rs := [2]) (by kernel_rfl) (by simp) (AllReadyH.cons rfl (fun K hK => ?_) AllReadyH.nil)
    try simp only [sD, sE, sF]
    go_simp
    refine (QA.out).mono ?_
    rintro e w7 ⟨rfl, d7⟩
    have t7 := d7.cell (Nat.le_refl _) t6
    have D7 := Lib.hid d7
    clear d7
    refine hK.out _ _ (t7) (fun hHeld => ?_)
    clear hK K
    try simp only [Act.put, sA, sB, sC, sD, sE, sF]
    refine wpAnyH_ready (rs := [6]) (by kernel_rfl) (by simp) (AllReadyH.cons rfl (fun K hK => ?_) AllReadyH.nil)
    try simp only [sD, sE, sF]
    go_simp
    refine (QB.out _ D7.out).mono ?_
    rintro e w8 ⟨rfl, d8⟩
    have t8 := d8.cell (Nat.le_refl _) t6
    have D8 := Lib.hid d8
    clear d8 D7
    refine hK.out _ _ (t8) (fun hHeld => ?_)
    clear hK K
    try simp only [Act.put, sA, sB, sC, sD, sE, sF]
    refine tk (i := 7) (v := ?_) rfl (Or.inl ⟨by rfl, ?_⟩) ?_
    rotate_left
    ·intro X hSw; (try simp only [sD, sE, sF]); first | (go_simp; done) | (go_simp; with_reducible rfl)
    try simp only [Act.put, sA, sB, sC, sD, sE, sF]
    refine tk (i := 8) (v := ?_) rfl (Or.inl ⟨by rfl, ?_⟩) ?_
    rotate_left
    ·intro X hSw; (try simp only [sD, sE, sF]); first | (go_simp; done) | (go_simp; with_reducible rfl)
    try simp only [Act.put, sA, sB, sC, sD, sE, sF]
    refine tk (i := 9) (v := ?_) rfl (Or.inl ⟨by rfl, ?_⟩) ?_
    rotate_left
    ·intro X hSw; (try simp only [sD, sE, sF]); first | (go_simp; done) | (go_simp; with_reducible rfl)
    try simp only [Act.put, sA, sB, sC, sD, sE, sF]
    refine tk (i := 10) (v := ?_) rfl (Or.inl ⟨by rfl, ?_⟩) ?_
    rotate_left
    ·intro X hSw; (try simp only [sD, sE, sF]); first | (go_simp; done) | (go_simp; with_reducible rfl)
    try simp only [Act.put, sA, sB, sC, sD, sE, sF]
    refine tk (i := 11) (v := ?_) rfl (Or.inl ⟨by rfl, ?_⟩) ?_
    rotate_left
    ·intro X hSw; (try simp only [sD, sE, sF]); first | (go_simp; done) | (go_simp; with_reducible rfl)
    try simp only [Act.put, sA, sB, sC, sD, sE, sF]
    refine wpAnyH_ready (rs := [12]) (by kernel_rfl) (by simp) (AllReadyH.cons rfl (fun K hK => ?_) AllReadyH.nil)
    try simp only [sD, sE, sF]
    go_simp
    refine (QC.out _ D8.out).mono ?_
    rintro e w9 ⟨rfl, d9⟩
    have t9 := d9.cell (Nat.le_refl _) t6
    have D9 := Lib.hid d9
    clear d9 D8
    refine hK.out _ _ (t9) (fun hHeld => ?_)
    clear hK K
    try simp only [Act.put, sA, sB, sC, sD, sE, sF]
    refine tk (i := 13) (v := ?_) rfl (Or.inl ⟨by rfl, ?_⟩) ?_
    rotate_left
    ·intro X hSw; (try simp only [sD, sE, sF]); first | (go_simp; done) | (go_simp; with_reducible rfl)
    try simp only [Act.put, sA, sB, sC, sD, sE, sF]
    refine tk (i := 14) (v := ?_) rfl (Or.inl ⟨by rfl, ?_⟩) ?_
    rotate_left
    ·intro X hSw; (try simp only [sD, sE, sF]); first | (go_simp; done) | (go_simp; with_reducible rfl)
    try simp only [Act.put, sA, sB, sC, sD, sE, sF]
    refine wpAnyH_done (by kernel_rfl) ?_ _
    go_wp2
    go_meet
    obtain ⟨⟨Mp', Ma', Ms', hw9⟩, hu9, hb9⟩ := D9.out
    exact ⟨rfl, ⟨st1, s81, Mp', Ma', Ms', hw9, HAG1.out⟩, (Up.of_below HB6.out).trans hu9, HB5.out.trans ((HB6.out.mono HB5.out.size).trans hb9)⟩
    -->
   by_cases h3 : kd = 3
   ·subst h3
    --<
    as_aux_lemma =>
    have CL := KAs.lent_any ll la lc w.heap.size W5 (((G3.out.keepB (HB15.out.mono HB.out.size)).reads (fun _ _ => rfl))) (by rw [HNL.out]; omega)
    rw [HNL.out] at CL
    have HCL := Lib.hid CL
    clear CL
    go_wp2_with fail
    refine HCL.out.mono ?_
    rintro e w6 ⟨gm, cm, rfl, hcm, hcm2, hgm, hgm3, hrm, hb6⟩
    obtain ⟨ev, st1, s81, hag1, QA, QB, QC⟩ := armS (N := wr.heap.size) (c := lc) (HWB5.out.below hb6) HAG.out hrN hxN HNL.out (by omega) F3.out (by omega) hcm hcm2 hrm (G3.out.keepB ((HB15.out.mono HB.out.size).trans (hb6.mono HB5.out.size)))
    have HAG1 := Lib.hid hag1
    have HB6 := Lib.hid hb6
    have t6 : w6.cell? ⟨wr.heap.size, 5, none⟩ = some (.slice la nl lc) := (hb6.cell (show wr.heap.size < W5.heap.size by omega)).trans q5
    clear hb6 hrm HCL hag1
    go_wp2
    refine wp_region_held_drew (S := fun X => X.cell? ⟨wr.heap.size, 5, none⟩ = some (.slice la nl lc)) (by kernel_rfl) t6 (fun hHeld => ?_)
    refine tk (i := 0) (v := ?_) rfl (Or.inl ⟨by rfl, ?_⟩) ?_
    rotate_left
    ·intro X hSw; (try simp only [sD, sE, sF]); first | (go_simp; done) | (go_simp; with_reducible rfl)
    try simp only [Act.put, sA, sB, sC, sD, sE, sF]
    refine tk (i := 1) (v := ?_) rfl (Or.inl ⟨by rfl, ?_⟩) ?_
    rotate_left
    ·intro X hSw; (try simp only [sD, sE, sF]); first | (go_simp; done) | (go_simp; with_reducible rfl)
    try simp only [Act.put, sA, sB, sC, sD, sE, sF]
    refine tk (i := 3) (v := ?_) rfl (Or.inl ⟨by rfl, ?_⟩) ?_
    rotate_left
    ·intro X hSw; (try simp only [sD, sE, sF]); first | (go_simp; done) | (go_simp; with_reducible rfl)
    try simp only [Act.put, sA, sB, sC, sD, sE, sF]
    refine tk (i := 4) (v := ?_) rfl (Or.inl ⟨by rfl, ?_⟩) ?_
    rotate_left
    ·intro X hSw; (try simp only [sD, sE, sF]); first | (go_simp; done) | (go_simp; with_reducible rfl)
    try simp only [Act.put, sA, sB, sC, sD, sE, sF]
    refine tk (i := 5) (v := ?_) rfl (Or.inl ⟨by rfl, ?_⟩) ?_
    rotate_left
    ·intro X hSw; (try simp only [sD, sE, sF]); first | (go_simp; done) | (go_simp; with_reducible rfl)
    try simp only [Act.put, sA, sB, sC, sD, sE, sF]
    refine wpAnyH_ready (rs := [2]) (by kernel_rfl) (by simp) (AllReadyH.cons rfl (fun K hK => ?_) AllReadyH.nil)
    try simp only [sD, sE, sF]
    go_simp
    refine (QA.out).mono ?_
    rintro e w7 ⟨rfl, d7⟩
    have t7 := d7.cell (Nat.le_refl _) t6
    have D7 := Lib.hid d7
    clear d7
    refine hK.out _ _ (t7) (fun hHeld => ?_)
    clear hK K
    try simp only [Act.put, sA, sB, sC, sD, sE, sF]
    refine wpAnyH_ready (rs := [6]) (by kernel_rfl) (by simp) (AllReadyH.cons rfl (fun K hK => ?_) AllReadyH.nil)
    try simp only [sD, sE, sF]
    go_simp
    refine (QB.out _ D7.out).mono ?_
    rintro e w8 ⟨rfl, d8⟩
    have t8 := d8.cell (Nat.le_refl _) t6
    have D8 := Lib.hid d8
    clear d8 D7
    refine hK.out _ _ (t8) (fun hHeld => ?_)
    clear hK K
    try simp only [Act.put, sA, sB, sC, sD, sE, sF]
    refine tk (i := 7) (v := ?_) rfl (Or.inl ⟨by rfl, ?_⟩) ?_
    rotate_left
    ·intro X hSw; (try simp only [sD, sE, sF]); first | (go_simp; done) | (go_simp; with_reducible rfl)
    try simp only [Act.put, sA, sB, sC, sD, sE, sF]
    refine tk (i := 8) (v := ?_) rfl (Or.inl ⟨by rfl, ?_⟩) ?_
    rotate_left
    ·intro X hSw; (try simp only [sD, sE, sF]); first | (go_simp; done) | (go_simp; with_reducible rfl)
    try simp only [Act.put, sA, sB, sC, sD, sE, sF]
    refine tk (i := 9) (v := ?_) rfl (Or.inl ⟨by rfl, ?_⟩) ?_
    rotate_left
    ·intro X hSw; (try simp only [sD, sE, sF]); first | (go_simp; done) | (go_simp; with_reducible rfl)
    try simp only [Act.put, sA, sB, sC, sD, sE, sF]
    refine tk (i := 10) (v := ?_) rfl (Or.inl ⟨by rfl, ?_⟩) ?_
    rotate_left
    ·intro X hSw; (try simp only [sD, sE, sF]); first | (go_simp; done) | (go_simp; with_reducible rfl)
    try simp only [Act.put, sA, sB, sC, sD, sE, sF]
    refine tk (i := 11) (v := ?_) rfl (Or.inl ⟨by rfl, ?_⟩) ?_
    rotate_left
    ·intro X hSw; (try simp only [sD, sE, sF]); first | (go_simp; done) | (go_simp; with_reducible rfl)
    try simp only [Act.put, sA, sB, sC, sD, sE, sF]
    refine wpAnyH_ready (rs := [12]) (by kernel_rfl) (by simp) (AllReadyH.cons rfl (fun K hK => ?_) AllReadyH.nil)
    try simp only [sD, sE, sF]
    go_simp
    refine (QC.out _ D8.out).mono ?_
    rintro e w9 ⟨rfl, d9⟩
    have t9 := d9.cell (Nat.le_refl _) t6
    have D9 := Lib.hid d9
    clear d9 D8
    refine hK.out _ _ (t9) (fun hHeld => ?_)
    clear hK K
    try simp only [Act.put, sA, sB, sC, sD, sE, sF]
    refine tk (i := 13) (v := ?_) rfl (Or.inl ⟨by rfl, ?_⟩) ?_
    rotate_left
    ·intro X hSw; (try simp only [sD, sE, sF]); first | (go_simp; done) | (go_simp; with_reducible rfl)
    try simp only [Act.put, sA, sB, sC, sD, sE, sF]
    refine tk (i := 14) (v := ?_) rfl (Or.inl ⟨by rfl, ?_⟩) ?_
    rotate_left
    ·intro X hSw; (try simp only [sD, sE, sF]); first | (go_simp; done) | (go_simp; with_reducible rfl)
    try simp only [Act.put, sA, sB, sC, sD, sE, sF]
    refine wpAnyH_done (by kernel_rfl) ?_ _
    go_wp2
    go_meet
    obtain ⟨⟨Mp', Ma', Ms', hw9⟩, hu9, hb9⟩ := D9.out
    exact ⟨rfl, ⟨st1, s81, Mp', Ma', Ms', hw9, HAG1.out⟩, (Up.of_below HB6.out).trans hu9, HB5.out.trans ((HB6.out.mono HB5.out.size).trans hb9)⟩
    -->
   by_cases h4 : kd = 4
   ·subst h4
    --<
    as_aux_lemma =>
    obtain ⟨ev, st1, s81, hag1, QA, QB⟩ := armPr (N := wr.heap.size) HWB5.out HAG.out hxN (s := s) (by omega) nn
    have HAG1 := Lib.hid hag1
    clear hag1
    go_wp2
    refine wp_region_held_drew (S := fun X => X.cell? ⟨wr.heap.size, 2, none⟩ = some (.string s) ∧ X.cell? ⟨wr.heap.size, 1, none⟩ = some (.int .i64 nn)) (by kernel_rfl) ⟨q2, q1⟩ (fun hHeld => ?_)
    refine tk (i := 0) (v := ?_) rfl (Or.inl ⟨by rfl, ?_⟩) ?_
    rotate_left
    ·intro X hSw; obtain ⟨s1, s2⟩ := hSw; (try simp only [sD, sE, sF]); first | (go_simp; done) | (go_simp; with_reducible rfl)
    try simp only [Act.put, sA, sB, sC, sD, sE, sF]
    refine tk (i := 1) (v := ?_) rfl (Or.inl ⟨by rfl, ?_⟩) ?_
    rotate_left
    ·intro X hSw; obtain ⟨s1, s2⟩ := hSw; (try simp only [sD, sE, sF]); first | (go_simp; done) | (go_simp; with_reducible rfl)
    try simp only [Act.put, sA, sB, sC, sD, sE, sF]
    refine tk (i := 2) (v := ?_) rfl (Or.inl ⟨by rfl, ?_⟩) ?_
    rotate_left
    ·intro X hSw; obtain ⟨s1, s2⟩ := hSw; (try simp only [sD, sE, sF]); first | (go_simp; done) | (go_simp; with_reducible rfl)
    try simp only [Act.put, sA, sB, sC, sD, sE, sF]
    refine tk (i := 3) (v := ?_) rfl (Or.inl ⟨by rfl, ?_⟩) ?_
    rotate_left
    ·intro X hSw; obtain ⟨s1, s2⟩ := hSw; (try simp only [sD, sE, sF]); first | (go_simp; done) | (go_simp; with_reducible rfl)
    try simp only [Act.put, sA, sB, sC, sD, sE, sF]
    refine tk (i := 4) (v := ?_) rfl (Or.inl ⟨by rfl, ?_⟩) ?_
    rotate_left
    ·intro X hSw; obtain ⟨s1, s2⟩ := hSw; (try simp only [sD, sE, sF]); first | (go_simp; done) | (go_simp; with_reducible rfl)
    try simp only [Act.put, sA, sB, sC, sD, sE, sF]
    refine tk (i := 6) (v := ?_) rfl (Or.inl ⟨by rfl, ?_⟩) ?_
    rotate_left
    ·intro X hSw; obtain ⟨s1, s2⟩ := hSw; (try simp only [sD, sE, sF]); first | (go_simp; done) | (go_simp; with_reducible rfl)
    try simp only [Act.put, sA, sB, sC, sD, sE, sF]
    refine tk (i := 7) (v := ?_) rfl (Or.inl ⟨by rfl, ?_⟩) ?_
    rotate_left
    ·intro X hSw; obtain ⟨s1, s2⟩ := hSw; (try simp only [sD, sE, sF]); first | (go_simp; done) | (go_simp; with_reducible rfl)
    try simp only [Act.put, sA, sB, sC, sD, sE, sF]
    refine tk (i := 8) (v := ?_) rfl (Or.inl ⟨by rfl, ?_⟩) ?_
    rotate_left
    ·intro X hSw; obtain ⟨s1, s2⟩ := hSw; (try simp only [sD, sE, sF]); first | (go_simp; done) | (go_simp; with_reducible rfl)
    try simp only [Act.put, sA, sB, sC, sD, sE, sF]
    refine tk (i := 9) (v := ?_) rfl (Or.inl ⟨by rfl, ?_⟩) ?_
    rotate_left
    ·intro X hSw; obtain ⟨s1, s2⟩ := hSw; (try simp only [sD, sE, sF]); first | (go_simp; done) | (go_simp; with_reducible rfl)
    try simp only [Act.put, sA, sB, sC, sD, sE, sF]
    refine tk (i := 10) (v := ?_) rfl (Or.inl ⟨by rfl, ?_⟩) ?_
    rotate_left
    ·intro X hSw; obtain ⟨s1, s2⟩ := hSw; (try simp only [sD, sE, sF]); first | (go_simp; done) | (go_simp; with_reducible rfl)
    try simp only [Act.put, sA, sB, sC, sD, sE, sF]
    refine wpAnyH_ready (rs := [5]) (by kernel_rfl) (by simp) (AllReadyH.cons rfl (fun K hK => ?_) AllReadyH.nil)
    try simp only [sD, sE, sF]
    go_simp
    refine (QA.out).mono ?_
    rintro e w7 ⟨rfl, d7⟩
    have t7 := d7.cell (Nat.le_refl _) q2
    have u7 := d7.cell (Nat.le_refl _) q1
    have D7 := Lib.hid d7
    clear d7
    refine hK.out _ _ (⟨t7, u7⟩) (fun hHeld => ?_)
    clear hK K
    try simp only [Act.put, sA, sB, sC, sD, sE, sF]
    refine wpAnyH_ready (rs := [11]) (by kernel_rfl) (by simp) (AllReadyH.cons rfl (fun K hK => ?_) AllReadyH.nil)
    try simp only [sD, sE, sF]
    go_simp
    refine (QB.out _ D7.out).mono ?_
    rintro e w8 ⟨rfl, d8⟩
    have t8 := d8.cell (Nat.le_refl _) q2
    have u8 := d8.cell (Nat.le_refl _) q1
    have D8 := Lib.hid d8
    clear d8 D7
    refine hK.out _ _ (⟨t8, u8⟩) (fun hHeld => ?_)
    clear hK K
    try simp only [Act.put, sA, sB, sC, sD, sE, sF]
    refine tk (i := 12) (v := ?_) rfl (Or.inl ⟨by rfl, ?_⟩) ?_
    rotate_left
    ·intro X hSw; obtain ⟨s1, s2⟩ := hSw; (try simp only [sD, sE, sF]); first | (go_simp; done) | (go_simp; with_reducible rfl)
    try simp only [Act.put, sA, sB, sC, sD, sE, sF]
    refine wpAnyH_done (by kernel_rfl) ?_ _
    go_wp2
    go_meet
    obtain ⟨⟨Mp', Ma', Ms', hw9⟩, hu9, hb9⟩ := D8.out
    exact ⟨rfl, ⟨st1, s81, Mp', Ma', Ms', hw9, HAG1.out⟩, hu9, HB5.out.trans hb9⟩
    -->
   by_cases h5 : kd = 5
   ·subst h5
    --<
    as_aux_lemma =>
    obtain ⟨ev, st1, s81, hag1, QA, QB⟩ := armLi (N := wr.heap.size) HWB5.out HAG.out hxN (s := s) (by omega) nn
    have HAG1 := Lib.hid hag1
    clear hag1
    go_wp2
    refine wp_region_held_drew (S := fun X => X.cell? ⟨wr.heap.size, 2, none⟩ = some (.string s) ∧ X.cell? ⟨wr.heap.size, 1, none⟩ = some (.int .i64 nn)) (by kernel_rfl) ⟨q2, q1⟩ (fun hHeld => ?_)
    refine tk (i := 0) (v := ?_) rfl (Or.inl ⟨by rfl, ?_⟩) ?_
    rotate_left
    ·intro X hSw; obtain ⟨s1, s2⟩ := hSw; (try simp only [sD, sE, sF]); first | (go_simp; done) | (go_simp; with_reducible rfl)
    try simp only [Act.put, sA, sB, sC, sD, sE, sF]
    refine tk (i := 1) (v := ?_) rfl (Or.inl ⟨by rfl, ?_⟩) ?_
    rotate_left
    ·intro X hSw; obtain ⟨s1, s2⟩ := hSw; (try simp only [sD, sE, sF]); first | (go_simp; done) | (go_simp; with_reducible rfl)
    try simp only [Act.put, sA, sB, sC, sD, sE, sF]
    refine tk (i := 2) (v := ?_) rfl (Or.inl ⟨by rfl, ?_⟩) ?_
    rotate_left
    ·intro X hSw; obtain ⟨s1, s2⟩ := hSw; (try simp only [sD, sE, sF]); first | (go_simp; done) | (go_simp; with_reducible rfl)
    try simp only [Act.put, sA, sB, sC, sD, sE, sF]
    refine tk (i := 3) (v := ?_) rfl (Or.inl ⟨by rfl, ?_⟩) ?_
    rotate_left
    ·intro X hSw; obtain ⟨s1, s2⟩ := hSw; (try simp only [sD, sE, sF]); first | (go_simp; done) | (go_simp; with_reducible rfl)
    try simp only [Act.put, sA, sB, sC, sD, sE, sF]
    refine tk (i := 4) (v := ?_) rfl (Or.inl ⟨by rfl, ?_⟩) ?_
    rotate_left
    ·intro X hSw; obtain ⟨s1, s2⟩ := hSw; (try simp only [sD, sE, sF]); first | (go_simp; done) | (go_simp; with_reducible rfl)
    try simp only [Act.put, sA, sB, sC, sD, sE, sF]
    refine tk (i := 6) (v := ?_) rfl (Or.inl ⟨by rfl, ?_⟩) ?_
    rotate_left
    ·intro X hSw; obtain ⟨s1, s2⟩ := hSw; (try simp only [sD, sE, sF]); first | (go_simp; done) | (go_simp; with_reducible rfl)
    try simp only [Act.put, sA, sB, sC, sD, sE, sF]
    refine tk (i := 7) (v := ?_) rfl (Or.inl ⟨by rfl, ?_⟩) ?_
    rotate_left
    ·intro X hSw; obtain ⟨s1, s2⟩ := hSw; (try simp only [sD, sE, sF]); first | (go_simp; done) | (go_simp; with_reducible rfl)
    try simp only [Act.put, sA, sB, sC, sD, sE, sF]
    refine tk (i := 8) (v := ?_) rfl (Or.inl ⟨by rfl, ?_⟩) ?_
    rotate_left
    ·intro X hSw; obtain ⟨s1, s2⟩ := hSw; (try simp only [sD, sE, sF]); first | (go_simp; done) | (go_simp; with_reducible rfl)
    try simp only [Act.put, sA, sB, sC, sD, sE, sF]
    refine tk (i := 9) (v := ?_) rfl (Or.inl ⟨by rfl, ?_⟩) ?_
    rotate_left
    ·intro X hSw; obtain ⟨s1, s2⟩ := hSw; (try simp only [sD, sE, sF]); first | (go_simp; done) | (go_simp; with_reducible rfl)
    try simp only [Act.put, sA, sB, sC, sD, sE, sF]
    refine tk (i := 10) (v := ?_) rfl (Or.inl ⟨by rfl, ?_⟩) ?_
    rotate_left
    ·intro X hSw; obtain ⟨s1, s2⟩ := hSw; (try simp only [sD, sE, sF]); first | (go_simp; done) | (go_simp; with_reducible rfl)
    try simp only [Act.put, sA, sB, sC, sD, sE, sF]
    refine wpAnyH_ready (rs := [5]) (by kernel_rfl) (by simp) (AllReadyH.cons rfl (fun K hK => ?_) AllReadyH.nil)
    try simp only [sD, sE, sF]
    go_simp
    refine (QA.out).mono ?_
    rintro e w7 ⟨rfl, d7⟩
    have t7 := d7.cell (Nat.le_refl _) q2
    have u7 := d7.cell (Nat.le_refl _) q1
    have D7 := Lib.hid d7
    clear d7
    refine hK.out _ _ (⟨t7, u7⟩) (fun hHeld => ?_)
    clear hK K
    try simp only [Act.put, sA, sB, sC, sD, sE, sF]
    refine wpAnyH_ready (rs := [11]) (by kernel_rfl) (by simp) (AllReadyH.cons rfl (fun K hK => ?_) AllReadyH.nil)
    try simp only [sD, sE, sF]
    go_simp
    refine (QB.out _ D7.out).mono ?_
    rintro e w8 ⟨rfl, d8⟩
    have t8 := d8.cell (Nat.le_refl _) q2
    have u8 := d8.cell (Nat.le_refl _) q1
    have D8 := Lib.hid d8
    clear d8 D7
    refine hK.out _ _ (⟨t8, u8⟩) (fun hHeld => ?_)
    clear hK K
    try simp only [Act.put, sA, sB, sC, sD, sE, sF]
    refine tk (i := 12) (v := ?_) rfl (Or.inl ⟨by rfl, ?_⟩) ?_
    rotate_left
    ·intro X hSw; obtain ⟨s1, s2⟩ := hSw; (try simp only [sD, sE, sF]); first | (go_simp; done) | (go_simp; with_reducible rfl)
    try simp only [Act.put, sA, sB, sC, sD, sE, sF]
    refine wpAnyH_done (by kernel_rfl) ?_ _
    go_wp2
    go_meet
    obtain ⟨⟨Mp', Ma', Ms', hw9⟩, hu9, hb9⟩ := D8.out
    exact ⟨rfl, ⟨st1, s81, Mp', Ma', Ms', hw9, HAG1.out⟩, hu9, HB5.out.trans hb9⟩
    -->
   --<
   as_aux_lemma =>
   obtain ⟨ev, st1, s81, hag1, QA, QB⟩ := armC (N := wr.heap.size) HWB5.out HAG.out hxN hrN ((HB15.out.cell (p := ⟨r, 0, none⟩) hrN).trans HCC.out) hcN f5
   have HAG1 := Lib.hid hag1
   have qr : W5.cell? ⟨r, 0, none⟩ = some (.pointer (some ⟨cc, 0, none⟩)) := (HB15.out.cell (p := ⟨r, 0, none⟩) hrN).trans HCC.out
   clear hag1
   go_wp2
   refine wp_region_held_drew (S := fun X => X.cell? ⟨wr.heap.size, 1, none⟩ = some (.int .i64 nn) ∧ X.cell? ⟨r, 0, none⟩ = some (.pointer (some ⟨cc, 0, none⟩))) (by kernel_rfl) ⟨q1, qr⟩ (fun hHeld => ?_)
   refine tk (i := 0) (v := ?_) rfl (Or.inl ⟨by rfl, ?_⟩) ?_
   rotate_left
   ·intro X hSw; obtain ⟨s1, s2⟩ := hSw; (try simp only [sD, sE, sF]); first | (go_simp; done) | (go_simp; with_reducible rfl)
   try simp only [Act.put, sA, sB, sC, sD, sE, sF]
   refine tk (i := 1) (v := ?_) rfl (Or.inl ⟨by rfl, ?_⟩) ?_
   rotate_left
   ·intro X hSw; obtain ⟨s1, s2⟩ := hSw; (try simp only [sD, sE, sF]); first | (go_simp; done) | (go_simp; with_reducible rfl)
   try simp only [Act.put, sA, sB, sC, sD, sE, sF]
   refine tk (i := 2) (v := ?_) rfl (Or.inl ⟨by rfl, ?_⟩) ?_
   rotate_left
   ·intro X hSw; obtain ⟨s1, s2⟩ := hSw; (try simp only [sD, sE, sF]); first | (go_simp; done) | (go_simp; with_reducible rfl)
   try simp only [Act.put, sA, sB, sC, sD, sE, sF]
   refine tk (i := 3) (v := ?_) rfl (Or.inl ⟨by rfl, ?_⟩) ?_
   rotate_left
   ·intro X hSw; obtain ⟨s1, s2⟩ := hSw; (try simp only [sD, sE, sF]); first | (go_simp; done) | (go_simp; with_reducible rfl)
   try simp only [Act.put, sA, sB, sC, sD, sE, sF]
   refine tk (i := 4) (v := ?_) rfl (Or.inl ⟨by rfl, ?_⟩) ?_
   rotate_left
   ·intro X hSw; obtain ⟨s1, s2⟩ := hSw; (try simp only [sD, sE, sF]); first | (go_simp; done) | (go_simp; with_reducible rfl)
   try simp only [Act.put, sA, sB, sC, sD, sE, sF]
   refine tk (i := 5) (v := ?_) rfl (Or.inl ⟨by rfl, ?_⟩) ?_
   rotate_left
   ·intro X hSw; obtain ⟨s1, s2⟩ := hSw; (try simp only [sD, sE, sF]); first | (go_simp; done) | (go_simp; with_reducible rfl)
   try simp only [Act.put, sA, sB, sC, sD, sE, sF]
   refine tk (i := 8) (v := ?_) rfl (Or.inl ⟨by rfl, ?_⟩) ?_
   rotate_left
   ·intro X hSw; obtain ⟨s1, s2⟩ := hSw; (try simp only [sD, sE, sF]); first | (go_simp; done) | (go_simp; with_reducible rfl)
   try simp only [Act.put, sA, sB, sC, sD, sE, sF]
   refine tk (i := 9) (v := ?_) rfl (Or.inl ⟨by rfl, ?_⟩) ?_
   rotate_left
   ·intro X hSw; obtain ⟨s1, s2⟩ := hSw; (try simp only [sD, sE, sF]); first | (go_simp; done) | (go_simp; with_reducible rfl)
   try simp only [Act.put, sA, sB, sC, sD, sE, sF]
   refine tk (i := 10) (v := ?_) rfl (Or.inl ⟨by rfl, ?_⟩) ?_
   rotate_left
   ·intro X hSw; obtain ⟨s1, s2⟩ := hSw; (try simp only [sD, sE, sF]); first | (go_simp; done) | (go_simp; with_reducible rfl)
   try simp only [Act.put, sA, sB, sC, sD, sE, sF]
   refine tk (i := 11) (v := ?_) rfl (Or.inl ⟨by rfl, ?_⟩) ?_
   rotate_left
   ·intro X hSw; obtain ⟨s1, s2⟩ := hSw; (try simp only [sD, sE, sF]); first | (go_simp; done) | (go_simp; with_reducible rfl)
   try simp only [Act.put, sA, sB, sC, sD, sE, sF]
   refine tk (i := 12) (v := ?_) rfl (Or.inl ⟨by rfl, ?_⟩) ?_
   rotate_left
   ·intro X hSw; obtain ⟨s1, s2⟩ := hSw; (try simp only [sD, sE, sF]); first | (go_simp; done) | (go_simp; with_reducible rfl)
   try simp only [Act.put, sA, sB, sC, sD, sE, sF]
   refine wpAnyH_ready (rs := [6, 13]) (by kernel_rfl) (by simp) (AllReadyH.cons rfl (fun K hK => ?_) (AllReadyH.cons rfl (fun K hK => ?_) AllReadyH.nil))
   ·try simp only [sD, sE, sF]
    go_simp
    obtain ⟨W6, HW6⟩ : ∃ U, Hid ((W5.alloc (.cells #[.int .i64 nn] 3)).drew = U) := ⟨_, rfl⟩
    have eW6 := HW6.out
    rw [eW6]
    have bW6 : Below W5.heap.size W5 W6 := by rw [← eW6]; exact ((Below.refl _ _).alloc (Nat.le_refl _) _).drew
    have r6 : Reads W6 W6.heap.size 1 (some ⟨W5.heap.size, 0, none⟩) 1 [.int .i64 nn] := by
     have h9 := reads_newN W5 [.int .i64 nn] 3 #[.int .i64 nn] rfl rfl
     rw [← eW6]
     exact (h9.more (by simp)).drew
    clear eW6
    have b56 : Below W5.heap.size W5 W6 := bW6
    have t6 := (b56.cell (p := ⟨wr.heap.size, 1, none⟩) (show wr.heap.size < W5.heap.size by omega)).trans q1
    have u6 := (b56.cell (p := ⟨r, 0, none⟩) (show r < W5.heap.size by omega)).trans qr
    refine hK.out _ _ (⟨t6, u6⟩) (fun hHeld => ?_)
    clear hK K
    try simp only [Act.put, sA, sB, sC, sD, sE, sF]
    refine wpAnyH_ready (rs := [7, 13]) (by kernel_rfl) (by simp) (AllReadyH.cons rfl (fun K hK => ?_) (AllReadyH.cons rfl (fun K hK => ?_) AllReadyH.nil))
    ·try simp only [sD, sE, sF]
     go_simp
     refine (QA.out W6 _ _ b56 r6).mono ?_
     rintro e w7 ⟨rfl, d7, up7, v7⟩
     have t7 := d7.cell (Nat.le_refl _) q1
     have D7 := Lib.hid d7
     have hz7 : W5.heap.size ≤ w7.heap.size := d7.2.1.size
     clear d7
     refine hK.out _ _ (⟨t7, v7⟩) (fun hHeld => ?_)
     clear hK K
     try simp only [Act.put, sA, sB, sC, sD, sE, sF]
     refine wpAnyH_ready (rs := [13]) (by kernel_rfl) (by simp) (AllReadyH.cons rfl (fun K hK => ?_) AllReadyH.nil)
     try simp only [sD, sE, sF]
     go_simp
     obtain ⟨W8, HW8⟩ : ∃ U, Hid ((w7.alloc (.cells #[.int .i64 nn] 3)) = U) := ⟨_, rfl⟩
     have eW8 := HW8.out
     rw [eW8]
     have bW8 : Below w7.heap.size w7 W8 := by rw [← eW8]; exact ((Below.refl _ _).alloc (Nat.le_refl _) _)
     have r8 : Reads W8 W8.heap.size 1 (some ⟨w7.heap.size, 0, none⟩) 1 [.int .i64 nn] := by
      have h9 := reads_newN w7 [.int .i64 nn] 3 #[.int .i64 nn] rfl rfl
      rw [← eW8]
      exact (h9.more (by simp))
     clear eW8
     have D8 := Lib.hid (D7.out.then_ bW8)
     have v8 := (bW8.cell (p := ⟨r, 0, none⟩) (show r < w7.heap.size by omega)).trans v7
     have t8 := (bW8.cell (p := ⟨wr.heap.size, 1, none⟩) (show wr.heap.size < w7.heap.size by omega)).trans t7
     refine hK.out _ _ (⟨t8, v8⟩) (fun hHeld => ?_)
     clear hK K
     try simp only [Act.put, sA, sB, sC, sD, sE, sF]
     refine wpAnyH_ready (rs := [14]) (by kernel_rfl) (by simp) (AllReadyH.cons rfl (fun K hK => ?_) AllReadyH.nil)
     try simp only [sD, sE, sF]
     go_simp
     refine (QB.out W8 _ _ D8.out r8 v8).mono ?_
     rintro e w9 ⟨rfl, d9, v9⟩
     have t9 := d9.cell (Nat.le_refl _) q1
     have D9 := Lib.hid d9
     clear d9
     refine hK.out _ _ (⟨t9, v9⟩) (fun hHeld => ?_)
     clear hK K
     try simp only [Act.put, sA, sB, sC, sD, sE, sF]
     refine tk (i := 15) (v := ?_) rfl (Or.inl ⟨by rfl, ?_⟩) ?_
     rotate_left
     ·intro X hSw; obtain ⟨s1, s2⟩ := hSw; (try simp only [sD, sE, sF]); first | (go_simp; done) | (go_simp; with_reducible rfl)
     try simp only [Act.put, sA, sB, sC, sD, sE, sF]
     refine wpAnyH_done (by kernel_rfl) ?_ _
     go_wp2
     go_meet
     obtain ⟨⟨Mp', Ma', Ms', hw9⟩, hu9, hb9⟩ := D9.out
     exact ⟨rfl, ⟨st1, s81, Mp', Ma', Ms', hw9, HAG1.out⟩, hu9, HB5.out.trans hb9⟩
    ·try simp only [sD, sE, sF]
     go_simp
     obtain ⟨W7, HW7⟩ : ∃ U, Hid ((W6.alloc (.cells #[.int .i64 nn] 3)) = U) := ⟨_, rfl⟩
     have eW7 := HW7.out
     rw [eW7]
     have bW7 : Below W6.heap.size W6 W7 := by rw [← eW7]; exact ((Below.refl _ _).alloc (Nat.le_refl _) _)
     have r13 : Reads W7 W7.heap.size 1 (some ⟨W6.heap.size, 0, none⟩) 1 [.int .i64 nn] := by
      have h9 := reads_newN W6 [.int .i64 nn] 3 #[.int .i64 nn] rfl rfl
      rw [← eW7]
      exact (h9.more (by simp))
     clear eW7
     have b57 : Below W5.heap.size W5 W7 := b56.trans (bW7.mono b56.size)
     have r67 : Reads W7 W7.heap.size 1 _ 1 [.int .i64 nn] := (r6.below bW7).more bW7.size
     have t7 := (b57.cell (p := ⟨wr.heap.size, 1, none⟩) (show wr.heap.size < W5.heap.size by omega)).trans q1
     have u7 := (b57.cell (p := ⟨r, 0, none⟩) (show r < W5.heap.size by omega)).trans qr
     have hz6 : W5.heap.size ≤ W6.heap.size := b56.size
     refine hK.out _ _ (⟨t7, u7⟩) (fun hHeld => ?_)
     clear hK K
     try simp only [Act.put, sA, sB, sC, sD, sE, sF]
     refine wpAnyH_ready (rs := [7]) (by kernel_rfl) (by simp) (AllReadyH.cons rfl (fun K hK => ?_) AllReadyH.nil)
     try simp only [sD, sE, sF]
     go_simp
     refine (QA.out W7 _ _ b57 r67).mono ?_
     rintro e w8 ⟨rfl, d8, up8, v8⟩
     have t8 := d8.cell (Nat.le_refl _) q1
     have D8 := Lib.hid d8
     have r8 := (up8.reads (by omega) r13).more up8.size
     clear d8
     refine hK.out _ _ (⟨t8, v8⟩) (fun hHeld => ?_)
     clear hK K
     try simp only [Act.put, sA, sB, sC, sD, sE, sF]
     refine wpAnyH_ready (rs := [14]) (by kernel_rfl) (by simp) (AllReadyH.cons rfl (fun K hK => ?_) AllReadyH.nil)
     try simp only [sD, sE, sF]
     go_simp
     refine (QB.out w8 _ _ D8.out r8 v8).mono ?_
     rintro e w9 ⟨rfl, d9, v9⟩
     have t9 := d9.cell (Nat.le_refl _) q1
     have D9 := Lib.hid d9
     clear d9
     refine hK.out _ _ (⟨t9, v9⟩) (fun hHeld => ?_)
     clear hK K
     try simp only [Act.put, sA, sB, sC, sD, sE, sF]
     refine tk (i := 15) (v := ?_) rfl (Or.inl ⟨by rfl, ?_⟩) ?_
     rotate_left
     ·intro X hSw; obtain ⟨s1, s2⟩ := hSw; (try simp only [sD, sE, sF]); first | (go_simp; done) | (go_simp; with_reducible rfl)
     try simp only [Act.put, sA, sB, sC, sD, sE, sF]
     refine wpAnyH_done (by kernel_rfl) ?_ _
     go_wp2
     go_meet
     obtain ⟨⟨Mp', Ma', Ms', hw9⟩, hu9, hb9⟩ := D9.out
     exact ⟨rfl, ⟨st1, s81, Mp', Ma', Ms', hw9, HAG1.out⟩, hu9, HB5.out.trans hb9⟩
   ·try simp only [sD, sE, sF]
    go_simp
    obtain ⟨W6, HW6⟩ : ∃ U, Hid ((W5.alloc (.cells #[.int .i64 nn] 3)).drew = U) := ⟨_, rfl⟩
    have eW6 := HW6.out
    rw [eW6]
    have bW6 : Below W5.heap.size W5 W6 := by rw [← eW6]; exact ((Below.refl _ _).alloc (Nat.le_refl _) _).drew
    have r13 : Reads W6 W6.heap.size 1 (some ⟨W5.heap.size, 0, none⟩) 1 [.int .i64 nn] := by
     have h9 := reads_newN W5 [.int .i64 nn] 3 #[.int .i64 nn] rfl rfl
     rw [← eW6]
     exact (h9.more (by simp)).drew
    clear eW6
    have b56 : Below W5.heap.size W5 W6 := bW6
    have t6 := (b56.cell (p := ⟨wr.heap.size, 1, none⟩) (show wr.heap.size < W5.heap.size by omega)).trans q1
    have u6 := (b56.cell (p := ⟨r, 0, none⟩) (show r < W5.heap.size by omega)).trans qr
    refine hK.out _ _ (⟨t6, u6⟩) (fun hHeld => ?_)
    clear hK K
    try simp only [Act.put, sA, sB, sC, sD, sE, sF]
    refine wpAnyH_ready (rs := [6]) (by kernel_rfl) (by simp) (AllReadyH.cons rfl (fun K hK => ?_) AllReadyH.nil)
    try simp only [sD, sE, sF]
    go_simp
    obtain ⟨W7, HW7⟩ : ∃ U, Hid ((W6.alloc (.cells #[.int .i64 nn] 3)) = U) := ⟨_, rfl⟩
    have eW7 := HW7.out
    rw [eW7]
    have bW7 : Below W6.heap.size W6 W7 := by rw [← eW7]; exact ((Below.refl _ _).alloc (Nat.le_refl _) _)
    have r6 : Reads W7 W7.heap.size 1 (some ⟨W6.heap.size, 0, none⟩) 1 [.int .i64 nn] := by
     have h9 := reads_newN W6 [.int .i64 nn] 3 #[.int .i64 nn] rfl rfl
     rw [← eW7]
     exact (h9.more (by simp))
    clear eW7
    have b57 : Below W5.heap.size W5 W7 := b56.trans (bW7.mono b56.size)
    have r137 : Reads W7 W7.heap.size 1 _ 1 [.int .i64 nn] := (r13.below bW7).more bW7.size
    have t7 := (b57.cell (p := ⟨wr.heap.size, 1, none⟩) (show wr.heap.size < W5.heap.size by omega)).trans q1
    have u7 := (b57.cell (p := ⟨r, 0, none⟩) (show r < W5.heap.size by omega)).trans qr
    have hz6 : W5.heap.size ≤ W6.heap.size := b56.size
    refine hK.out _ _ (⟨t7, u7⟩) (fun hHeld => ?_)
    clear hK K
    try simp only [Act.put, sA, sB, sC, sD, sE, sF]
    refine wpAnyH_ready (rs := [7]) (by kernel_rfl) (by simp) (AllReadyH.cons rfl (fun K hK => ?_) AllReadyH.nil)
    try simp only [sD, sE, sF]
    go_simp
    refine (QA.out W7 _ _ b57 r6).mono ?_
    rintro e w8 ⟨rfl, d8, up8, v8⟩
    have t8 := d8.cell (Nat.le_refl _) q1
    have D8 := Lib.hid d8
    have r8 := (up8.reads (by omega) r137).more up8.size
    clear d8
    refine hK.out _ _ (⟨t8, v8⟩) (fun hHeld => ?_)
    clear hK K
    try simp only [Act.put, sA, sB, sC, sD, sE, sF]
    refine wpAnyH_ready (rs := [14]) (by kernel_rfl) (by simp) (AllReadyH.cons rfl (fun K hK => ?_) AllReadyH.nil)
    try simp only [sD, sE, sF]
    go_simp
    refine (QB.out w8 _ _ D8.out r8 v8).mono ?_
    rintro e w9 ⟨rfl, d9, v9⟩
    have t9 := d9.cell (Nat.le_refl _) q1
    have D9 := Lib.hid d9
    clear d9
    refine hK.out _ _ (⟨t9, v9⟩) (fun hHeld => ?_)
    clear hK K
    try simp only [Act.put, sA, sB, sC, sD, sE, sF]
    refine tk (i := 15) (v := ?_) rfl (Or.inl ⟨by rfl, ?_⟩) ?_
    rotate_left
    ·intro X hSw; obtain ⟨s1, s2⟩ := hSw; (try simp only [sD, sE, sF]); first | (go_simp; done) | (go_simp; with_reducible rfl)
    try simp only [Act.put, sA, sB, sC, sD, sE, sF]
    refine wpAnyH_done (by kernel_rfl) ?_ _
    go_wp2
    go_meet
    obtain ⟨⟨Mp', Ma', Ms', hw9⟩, hu9, hb9⟩ := D9.out
    exact ⟨rfl, ⟨st1, s81, Mp', Ma', Ms', hw9, HAG1.out⟩, hu9, HB5.out.trans hb9⟩
   -->
  case rest =>
   --<<
   as_aux_lemma =>
   obtain ⟨rfl, HST, HUP, HBC⟩ := hcut
   obtain ⟨X, hXX⟩ : ∃ X, X = wc := ⟨_, rfl⟩
   subst hXX
   obtain ⟨st1, s81, Mp1, Ma1, Ms1, hwb, hag⟩ := HST.out
   have q1X := HUP.out.cell (a := ⟨wr.heap.size, 1, none⟩) (Nat.le_refl _) q1
   have q2X := HUP.out.cell (a := ⟨wr.heap.size, 2, none⟩) (Nat.le_refl _) q2
   have hkX := HUP.out.block _ _ _ _ (Nat.le_refl _) HK5.out
   have hzX := HUP.out.size
   have hNX : wr.heap.size < X.heap.size := by omega
   have hrX := hwb.ref.lt
   obtain ⟨zp, bp, CP1, CP2⟩ := lookP hwb.ref hwb.dat hag s (by omega)
   obtain ⟨za, ba, CA1, CA2⟩ := lookA hwb.ref hwb.dat hag s (by omega)
   obtain ⟨zs, bs, CS1, CS2⟩ := lookS hwb.ref hwb.dat hag s (by omega)
   obtain ⟨cc1, bi, zn, rc, CI1, CI2, CN1, CN2⟩ := lookD hwb.ref hwb.dat hag f5
   obtain ⟨CL1, CL2, CL3⟩ := lists hwb.ref hag s
   have HWBX := Lib.hid hwb.here
   have HAG1 := Lib.hid hag
   have HKX := Lib.hid hkX
   clear hwb hag HST hkX q0 q1 q2 q3 q4 q5 HWB HAG HWB5 HK5
   have Bx0 : Hid (Below X.heap.size X X) := Below.refl _ _
   have y0 := q2X
   go_wp2_with fail
   refine (CP1.out X Bx0.out).mono ?_
   rintro e u1 ⟨rfl, hb1⟩
   obtain ⟨V1, HV1⟩ : ∃ W, Hid (u1.alloc (.cells #[.string zp.name, .int .i64 zp.limit] 84) = W) := ⟨_, rfl⟩
   obtain ⟨j1, HJ1⟩ : ∃ n, Hid (u1.heap.size = n) := ⟨_, rfl⟩
   have hbb1 : Below X.heap.size X V1 := by rw [← HV1.out]; exact hb1.alloc hb1.size _
   have hk1 : V1.heap[j1]? = some (.cells #[.string zp.name, .int .i64 zp.limit] 84 (0, 0)) := by rw [← HV1.out, ← HJ1.out]; exact heap_alloc_new _ _
   have hj1 : j1 < V1.heap.size := Blk.lt (t := 84) hk1
   have Bx1 : Hid (Below X.heap.size X V1) := Bx0.out.trans (hbb1.mono Bx0.out.size)
   have HB1_1 := Lib.hid hk1
   have y1 : V1.cell? ⟨wr.heap.size, 2, none⟩ = some (.string s) := (Bx1.out.cell (p := ⟨wr.heap.size, 2, none⟩) hNX).trans q2X
   clear hb1 hbb1 hk1 y0
   have hWo := HV1.out
   have hGo := HJ1.out
   go_wp2_with fail
   clear hWo hGo
   refine (CP2.out V1 Bx1.out).mono ?_
   rintro e u2 ⟨rfl, hb2⟩
   obtain ⟨V2, HV2⟩ : ∃ W, Hid (u2.alloc (.cells #[.string zp.name, .int .i64 zp.limit] 84) = W) := ⟨_, rfl⟩
   obtain ⟨j2, HJ2⟩ : ∃ n, Hid (u2.heap.size = n) := ⟨_, rfl⟩
   have hbb2 : Below V1.heap.size V1 V2 := by rw [← HV2.out]; exact hb2.alloc hb2.size _
   have hk2 : V2.heap[j2]? = some (.cells #[.string zp.name, .int .i64 zp.limit] 84 (0, 0)) := by rw [← HV2.out, ← HJ2.out]; exact heap_alloc_new _ _
   have hj2 : j2 < V2.heap.size := Blk.lt (t := 84) hk2
   have Bx2 : Hid (Below X.heap.size X V2) := Bx1.out.trans (hbb2.mono Bx1.out.size)
   have HB1_2 := Lib.hid ((hbb2.block j1 hj1).trans HB1_1.out)
   replace hj1 : j1 < V2.heap.size := Nat.lt_of_lt_of_le hj1 hbb2.size
   clear HB1_1
   have HB2_2 := Lib.hid hk2
   have y2 : V2.cell? ⟨wr.heap.size, 2, none⟩ = some (.string s) := (Bx2.out.cell (p := ⟨wr.heap.size, 2, none⟩) hNX).trans q2X
   clear hb2 hbb2 hk2 y1
   have hWo := HV2.out
   have hGo := HJ2.out
   go_wp2_with fail
   clear hWo hGo
   refine (CA1.out V2 Bx2.out).mono ?_
   rintro e u3 ⟨rfl, hb3⟩
   obtain ⟨V3, HV3⟩ : ∃ W, Hid (u3.alloc (.cells #[.string za.name, .string za.party] 88) = W) := ⟨_, rfl⟩
   obtain ⟨j3, HJ3⟩ : ∃ n, Hid (u3.heap.size = n) := ⟨_, rfl⟩
   have hbb3 : Below V2.heap.size V2 V3 := by rw [← HV3.out]; exact hb3.alloc hb3.size _
   have hk3 : V3.heap[j3]? = some (.cells #[.string za.name, .string za.party] 88 (0, 0)) := by rw [← HV3.out, ← HJ3.out]; exact heap_alloc_new _ _
   have hj3 : j3 < V3.heap.size := Blk.lt (t := 88) hk3
   have Bx3 : Hid (Below X.heap.size X V3) := Bx2.out.trans (hbb3.mono Bx2.out.size)
   have HB1_3 := Lib.hid ((hbb3.block j1 hj1).trans HB1_2.out)
   replace hj1 : j1 < V3.heap.size := Nat.lt_of_lt_of_le hj1 hbb3.size
   clear HB1_2
   have HB2_3 := Lib.hid ((hbb3.block j2 hj2).trans HB2_2.out)
   replace hj2 : j2 < V3.heap.size := Nat.lt_of_lt_of_le hj2 hbb3.size
   clear HB2_2
   have HB3_3 := Lib.hid hk3
   have y3 : V3.cell? ⟨wr.heap.size, 2, none⟩ = some (.string s) := (Bx3.out.cell (p := ⟨wr.heap.size, 2, none⟩) hNX).trans q2X
   clear hb3 hbb3 hk3 y2
   have hWo := HV3.out
   have hGo := HJ3.out
   go_wp2_with fail
   clear hWo hGo
   refine (CA2.out V3 Bx3.out).mono ?_
   rintro e u4 ⟨rfl, hb4⟩
   obtain ⟨V4, HV4⟩ : ∃ W, Hid (u4.alloc (.cells #[.string za.name, .string za.party] 88) = W) := ⟨_, rfl⟩
   obtain ⟨j4, HJ4⟩ : ∃ n, Hid (u4.heap.size = n) := ⟨_, rfl⟩
   have hbb4 : Below V3.heap.size V3 V4 := by rw [← HV4.out]; exact hb4.alloc hb4.size _
   have hk4 : V4.heap[j4]? = some (.cells #[.string za.name, .string za.party] 88 (0, 0)) := by rw [← HV4.out, ← HJ4.out]; exact heap_alloc_new _ _
   have hj4 : j4 < V4.heap.size := Blk.lt (t := 88) hk4
   have Bx4 : Hid (Below X.heap.size X V4) := Bx3.out.trans (hbb4.mono Bx3.out.size)
   have HB1_4 := Lib.hid ((hbb4.block j1 hj1).trans HB1_3.out)
   replace hj1 : j1 < V4.heap.size := Nat.lt_of_lt_of_le hj1 hbb4.size
   clear HB1_3
   have HB2_4 := Lib.hid ((hbb4.block j2 hj2).trans HB2_3.out)
   replace hj2 : j2 < V4.heap.size := Nat.lt_of_lt_of_le hj2 hbb4.size
   clear HB2_3
   have HB3_4 := Lib.hid ((hbb4.block j3 hj3).trans HB3_3.out)
   replace hj3 : j3 < V4.heap.size := Nat.lt_of_lt_of_le hj3 hbb4.size
   clear HB3_3
   have HB4_4 := Lib.hid hk4
   have y4 : V4.cell? ⟨wr.heap.size, 2, none⟩ = some (.string s) := (Bx4.out.cell (p := ⟨wr.heap.size, 2, none⟩) hNX).trans q2X
   clear hb4 hbb4 hk4 y3
   have hWo := HV4.out
   have hGo := HJ4.out
   go_wp2_with fail
   clear hWo hGo
   refine (CS1.out V4 Bx4.out).mono ?_
   rintro e u5 ⟨rfl, hb5⟩
   obtain ⟨V5, HV5⟩ : ∃ W, Hid (u5.alloc (.cells #[.string zs.name, .bool zs.cash, .bool zs.pledge, .int .i64 zs.unit, .int .i64 zs.least, .int .i64 zs.price, .int .i64 zs.cut, .int .i64 zs.close] 92) = W) := ⟨_, rfl⟩
   obtain ⟨j5, HJ5⟩ : ∃ n, Hid (u5.heap.size = n) := ⟨_, rfl⟩
   have hbb5 : Below V4.heap.size V4 V5 := by rw [← HV5.out]; exact hb5.alloc hb5.size _
   have hk5 : V5.heap[j5]? = some (.cells #[.string zs.name, .bool zs.cash, .bool zs.pledge, .int .i64 zs.unit, .int .i64 zs.least, .int .i64 zs.price, .int .i64 zs.cut, .int .i64 zs.close] 92 (0, 0)) := by rw [← HV5.out, ← HJ5.out]; exact heap_alloc_new _ _
   have hj5 : j5 < V5.heap.size := Blk.lt (t := 92) hk5
   have Bx5 : Hid (Below X.heap.size X V5) := Bx4.out.trans (hbb5.mono Bx4.out.size)
   have HB1_5 := Lib.hid ((hbb5.block j1 hj1).trans HB1_4.out)
   replace hj1 : j1 < V5.heap.size := Nat.lt_of_lt_of_le hj1 hbb5.size
   clear HB1_4
   have HB2_5 := Lib.hid ((hbb5.block j2 hj2).trans HB2_4.out)
   replace hj2 : j2 < V5.heap.size := Nat.lt_of_lt_of_le hj2 hbb5.size
   clear HB2_4
   have HB3_5 := Lib.hid ((hbb5.block j3 hj3).trans HB3_4.out)
   replace hj3 : j3 < V5.heap.size := Nat.lt_of_lt_of_le hj3 hbb5.size
   clear HB3_4
   have HB4_5 := Lib.hid ((hbb5.block j4 hj4).trans HB4_4.out)
   replace hj4 : j4 < V5.heap.size := Nat.lt_of_lt_of_le hj4 hbb5.size
   clear HB4_4
   have HB5_5 := Lib.hid hk5
   have y5 : V5.cell? ⟨wr.heap.size, 2, none⟩ = some (.string s) := (Bx5.out.cell (p := ⟨wr.heap.size, 2, none⟩) hNX).trans q2X
   clear hb5 hbb5 hk5 y4
   have hWo := HV5.out
   have hGo := HJ5.out
   go_wp2_with fail
   clear hWo hGo
   refine (CS2.out V5 Bx5.out).mono ?_
   rintro e u6 ⟨rfl, hb6⟩
   obtain ⟨V6, HV6⟩ : ∃ W, Hid (u6.alloc (.cells #[.string zs.name, .bool zs.cash, .bool zs.pledge, .int .i64 zs.unit, .int .i64 zs.least, .int .i64 zs.price, .int .i64 zs.cut, .int .i64 zs.close] 92) = W) := ⟨_, rfl⟩
   obtain ⟨j6, HJ6⟩ : ∃ n, Hid (u6.heap.size = n) := ⟨_, rfl⟩
   have hbb6 : Below V5.heap.size V5 V6 := by rw [← HV6.out]; exact hb6.alloc hb6.size _
   have hk6 : V6.heap[j6]? = some (.cells #[.string zs.name, .bool zs.cash, .bool zs.pledge, .int .i64 zs.unit, .int .i64 zs.least, .int .i64 zs.price, .int .i64 zs.cut, .int .i64 zs.close] 92 (0, 0)) := by rw [← HV6.out, ← HJ6.out]; exact heap_alloc_new _ _
   have hj6 : j6 < V6.heap.size := Blk.lt (t := 92) hk6
   have Bx6 : Hid (Below X.heap.size X V6) := Bx5.out.trans (hbb6.mono Bx5.out.size)
   have HB1_6 := Lib.hid ((hbb6.block j1 hj1).trans HB1_5.out)
   replace hj1 : j1 < V6.heap.size := Nat.lt_of_lt_of_le hj1 hbb6.size
   clear HB1_5
   have HB2_6 := Lib.hid ((hbb6.block j2 hj2).trans HB2_5.out)
   replace hj2 : j2 < V6.heap.size := Nat.lt_of_lt_of_le hj2 hbb6.size
   clear HB2_5
   have HB3_6 := Lib.hid ((hbb6.block j3 hj3).trans HB3_5.out)
   replace hj3 : j3 < V6.heap.size := Nat.lt_of_lt_of_le hj3 hbb6.size
   clear HB3_5
   have HB4_6 := Lib.hid ((hbb6.block j4 hj4).trans HB4_5.out)
   replace hj4 : j4 < V6.heap.size := Nat.lt_of_lt_of_le hj4 hbb6.size
   clear HB4_5
   have HB5_6 := Lib.hid ((hbb6.block j5 hj5).trans HB5_5.out)
   replace hj5 : j5 < V6.heap.size := Nat.lt_of_lt_of_le hj5 hbb6.size
   clear HB5_5
   have HB6_6 := Lib.hid hk6
   have y6 : V6.cell? ⟨wr.heap.size, 2, none⟩ = some (.string s) := (Bx6.out.cell (p := ⟨wr.heap.size, 2, none⟩) hNX).trans q2X
   clear hb6 hbb6 hk6 y5
   have KS : Hid (∀ Y, Below V6.heap.size V6 Y → Y.heap[j1]? = some (.cells #[.string zp.name, .int .i64 zp.limit] 84 (0, 0)) ∧ Y.heap[j2]? = some (.cells #[.string zp.name, .int .i64 zp.limit] 84 (0, 0)) ∧ Y.heap[j3]? = some (.cells #[.string za.name, .string za.party] 88 (0, 0)) ∧ Y.heap[j4]? = some (.cells #[.string za.name, .string za.party] 88 (0, 0)) ∧ Y.heap[j5]? = some (.cells #[.string zs.name, .bool zs.cash, .bool zs.pledge, .int .i64 zs.unit, .int .i64 zs.least, .int .i64 zs.price, .int .i64 zs.cut, .int .i64 zs.close] 92 (0, 0)) ∧ Y.heap[j6]? = some (.cells #[.string zs.name, .bool zs.cash, .bool zs.pledge, .int .i64 zs.unit, .int .i64 zs.least, .int .i64 zs.price, .int .i64 zs.cut, .int .i64 zs.close] 92 (0, 0)) ∧ Y.cell? ⟨wr.heap.size, 1, none⟩ = some (.int .i64 nn) ∧ Y.cell? ⟨r, 0, none⟩ = some (.pointer (some ⟨cc1, 0, none⟩))) := fun Y hY => ⟨(hY.block j1 hj1).trans HB1_6.out, (hY.block j2 hj2).trans HB2_6.out, (hY.block j3 hj3).trans HB3_6.out, (hY.block j4 hj4).trans HB4_6.out, (hY.block j5 hj5).trans HB5_6.out, (hY.block j6 hj6).trans HB6_6.out, (hY.cell (p := ⟨wr.heap.size, 1, none⟩) (Nat.lt_of_lt_of_le hNX Bx6.out.size)).trans ((Bx6.out.cell (p := ⟨wr.heap.size, 1, none⟩) hNX).trans q1X), (hY.cell (p := ⟨r, 0, none⟩) (Nat.lt_of_lt_of_le hrX Bx6.out.size)).trans ((Bx6.out.cell (p := ⟨r, 0, none⟩) hrX).trans rc)⟩
   clear y6
   have hWo := HV6.out
   have hGo := HJ6.out
   go_wp2
   clear hWo hGo
   have HX6 : Hid (Below V6.heap.size V6 V6.drew) := (Below.refl _ _).drew
   as_aux_lemma =>
   --<R45
   refine wp_region_held_drew (S := fun Y => Y.heap[j1]? = some (.cells #[.string zp.name, .int .i64 zp.limit] 84 (0, 0)) ∧ Y.heap[j2]? = some (.cells #[.string zp.name, .int .i64 zp.limit] 84 (0, 0)) ∧ Y.heap[j3]? = some (.cells #[.string za.name, .string za.party] 88 (0, 0)) ∧ Y.heap[j4]? = some (.cells #[.string za.name, .string za.party] 88 (0, 0)) ∧ Y.heap[j5]? = some (.cells #[.string zs.name, .bool zs.cash, .bool zs.pledge, .int .i64 zs.unit, .int .i64 zs.least, .int .i64 zs.price, .int .i64 zs.cut, .int .i64 zs.close] 92 (0, 0)) ∧ Y.heap[j6]? = some (.cells #[.string zs.name, .bool zs.cash, .bool zs.pledge, .int .i64 zs.unit, .int .i64 zs.least, .int .i64 zs.price, .int .i64 zs.cut, .int .i64 zs.close] 92 (0, 0)) ∧ Y.cell? ⟨wr.heap.size, 1, none⟩ = some (.int .i64 nn) ∧ Y.cell? ⟨r, 0, none⟩ = some (.pointer (some ⟨cc1, 0, none⟩))) (by kernel_rfl) (KS.out _ HX6.out) (fun hHeld => ?_)
   refine tk (i := 0) (v := .agg #[.string zp.name, .int .i64 zp.limit]) rfl (yieldsIf_load_row (by rfl) 84 _ rfl j1 rfl 84 _ _ (fun _ h => h.1) KPa.und rfl KPa.size) ?_
   try simp only [Act.put, sA, sB, sC, sD, sE, sF]
   refine tk (i := 1) (v := .agg #[.string zp.name, .int .i64 zp.limit]) rfl (yieldsIf_load_row (by rfl) 84 _ rfl j2 rfl 84 _ _ (fun _ h => h.2.1) KPa.und rfl KPa.size) ?_
   try simp only [Act.put, sA, sB, sC, sD, sE, sF]
   refine tk (i := 2) (v := .bool false) rfl (yieldsIf_same (by rfl) 84 _ _ _ rfl _ rfl rfl KPa.eqg (KPa.eq_self zp)) ?_
   try simp only [Act.put, sA, sB, sC, sD, sE, sF]
   refine tk (i := 3) (v := ?_) rfl (Or.inl ⟨by rfl, ?_⟩) ?_
   rotate_left
   ·intro X hSw; obtain ⟨i1, i2, i3, i4, i5, i6, i7, i8⟩ := hSw; (try simp only [sD, sE, sF]); first | (go_simp; done) | (go_simp; with_reducible rfl)
   try simp only [Act.put, sA, sB, sC, sD, sE, sF]
   refine tk (i := 4) (v := ?_) rfl (Or.inl ⟨by rfl, ?_⟩) ?_
   rotate_left
   ·intro X hSw; obtain ⟨i1, i2, i3, i4, i5, i6, i7, i8⟩ := hSw; (try simp only [sD, sE, sF]); first | (go_simp; done) | (go_simp; with_reducible rfl)
   try simp only [Act.put, sA, sB, sC, sD, sE, sF]
   refine tk (i := 5) (v := ?_) rfl (Or.inl ⟨by rfl, ?_⟩) ?_
   rotate_left
   ·intro X hSw; obtain ⟨i1, i2, i3, i4, i5, i6, i7, i8⟩ := hSw; (try simp only [sD, sE, sF]); first | (go_simp; done) | (go_simp; with_reducible rfl)
   try simp only [Act.put, sA, sB, sC, sD, sE, sF]
   refine tk (i := 6) (v := ?_) rfl (Or.inl ⟨by rfl, ?_⟩) ?_
   rotate_left
   ·intro X hSw; obtain ⟨i1, i2, i3, i4, i5, i6, i7, i8⟩ := hSw; (try simp only [sD, sE, sF]); first | (go_simp; done) | (go_simp; with_reducible rfl)
   try simp only [Act.put, sA, sB, sC, sD, sE, sF]
   refine tk (i := 7) (v := ?_) rfl (Or.inl ⟨by rfl, ?_⟩) ?_
   rotate_left
   ·intro X hSw; obtain ⟨i1, i2, i3, i4, i5, i6, i7, i8⟩ := hSw; (try simp only [sD, sE, sF]); first | (go_simp; done) | (go_simp; with_reducible rfl)
   try simp only [Act.put, sA, sB, sC, sD, sE, sF]
   refine tk (i := 8) (v := ?_) rfl (Or.inl ⟨by rfl, ?_⟩) ?_
   rotate_left
   ·intro X hSw; obtain ⟨i1, i2, i3, i4, i5, i6, i7, i8⟩ := hSw; (try simp only [sD, sE, sF]); first | (go_simp; done) | (go_simp; with_reducible rfl)
   try simp only [Act.put, sA, sB, sC, sD, sE, sF]
   refine tk (i := 9) (v := .agg #[.string za.name, .string za.party]) rfl (yieldsIf_load_row (by rfl) 88 _ rfl j3 rfl 88 _ _ (fun _ h => h.2.2.1) KAc.und rfl KAc.size) ?_
   try simp only [Act.put, sA, sB, sC, sD, sE, sF]
   refine tk (i := 10) (v := .agg #[.string za.name, .string za.party]) rfl (yieldsIf_load_row (by rfl) 88 _ rfl j4 rfl 88 _ _ (fun _ h => h.2.2.2.1) KAc.und rfl KAc.size) ?_
   try simp only [Act.put, sA, sB, sC, sD, sE, sF]
   refine tk (i := 11) (v := .bool false) rfl (yieldsIf_same (by rfl) 88 _ _ _ rfl _ rfl rfl KAc.eqg (KAc.eq_self za)) ?_
   try simp only [Act.put, sA, sB, sC, sD, sE, sF]
   refine tk (i := 12) (v := ?_) rfl (Or.inl ⟨by rfl, ?_⟩) ?_
   rotate_left
   ·intro X hSw; obtain ⟨i1, i2, i3, i4, i5, i6, i7, i8⟩ := hSw; (try simp only [sD, sE, sF]); first | (go_simp; done) | (go_simp; with_reducible rfl)
   try simp only [Act.put, sA, sB, sC, sD, sE, sF]
   refine tk (i := 13) (v := ?_) rfl (Or.inl ⟨by rfl, ?_⟩) ?_
   rotate_left
   ·intro X hSw; obtain ⟨i1, i2, i3, i4, i5, i6, i7, i8⟩ := hSw; (try simp only [sD, sE, sF]); first | (go_simp; done) | (go_simp; with_reducible rfl)
   try simp only [Act.put, sA, sB, sC, sD, sE, sF]
   refine tk (i := 14) (v := ?_) rfl (Or.inl ⟨by rfl, ?_⟩) ?_
   rotate_left
   ·intro X hSw; obtain ⟨i1, i2, i3, i4, i5, i6, i7, i8⟩ := hSw; (try simp only [sD, sE, sF]); first | (go_simp; done) | (go_simp; with_reducible rfl)
   try simp only [Act.put, sA, sB, sC, sD, sE, sF]
   refine tk (i := 15) (v := ?_) rfl (Or.inl ⟨by rfl, ?_⟩) ?_
   rotate_left
   ·intro X hSw; obtain ⟨i1, i2, i3, i4, i5, i6, i7, i8⟩ := hSw; (try simp only [sD, sE, sF]); first | (go_simp; done) | (go_simp; with_reducible rfl)
   try simp only [Act.put, sA, sB, sC, sD, sE, sF]
   refine tk (i := 16) (v := ?_) rfl (Or.inl ⟨by rfl, ?_⟩) ?_
   rotate_left
   ·intro X hSw; obtain ⟨i1, i2, i3, i4, i5, i6, i7, i8⟩ := hSw; (try simp only [sD, sE, sF]); first | (go_simp; done) | (go_simp; with_reducible rfl)
   try simp only [Act.put, sA, sB, sC, sD, sE, sF]
   refine tk (i := 17) (v := ?_) rfl (Or.inl ⟨by rfl, ?_⟩) ?_
   rotate_left
   ·intro X hSw; obtain ⟨i1, i2, i3, i4, i5, i6, i7, i8⟩ := hSw; (try simp only [sD, sE, sF]); first | (go_simp; done) | (go_simp; with_reducible rfl)
   try simp only [Act.put, sA, sB, sC, sD, sE, sF]
   refine tk (i := 18) (v := ?_) rfl (Or.inl ⟨by rfl, ?_⟩) ?_
   rotate_left
   ·intro X hSw; obtain ⟨i1, i2, i3, i4, i5, i6, i7, i8⟩ := hSw; (try simp only [sD, sE, sF]); first | (go_simp; done) | (go_simp; with_reducible rfl)
   try simp only [Act.put, sA, sB, sC, sD, sE, sF]
   refine tk (i := 19) (v := .agg #[.string zs.name, .bool zs.cash, .bool zs.pledge, .int .i64 zs.unit, .int .i64 zs.least, .int .i64 zs.price, .int .i64 zs.cut, .int .i64 zs.close]) rfl (yieldsIf_load_row (by rfl) 92 _ rfl j5 rfl 92 _ _ (fun _ h => h.2.2.2.2.1) KAs.und rfl KAs.size) ?_
   try simp only [Act.put, sA, sB, sC, sD, sE, sF]
   refine tk (i := 20) (v := .agg #[.string zs.name, .bool zs.cash, .bool zs.pledge, .int .i64 zs.unit, .int .i64 zs.least, .int .i64 zs.price, .int .i64 zs.cut, .int .i64 zs.close]) rfl (yieldsIf_load_row (by rfl) 92 _ rfl j6 rfl 92 _ _ (fun _ h => h.2.2.2.2.2.1) KAs.und rfl KAs.size) ?_
   try simp only [Act.put, sA, sB, sC, sD, sE, sF]
   refine tk (i := 21) (v := .bool false) rfl (yieldsIf_same (by rfl) 92 _ _ _ rfl _ rfl rfl KAs.eqg (KAs.eq_self zs)) ?_
   try simp only [Act.put, sA, sB, sC, sD, sE, sF]
   refine tk (i := 22) (v := ?_) rfl (Or.inl ⟨by rfl, ?_⟩) ?_
   rotate_left
   ·intro X hSw; obtain ⟨i1, i2, i3, i4, i5, i6, i7, i8⟩ := hSw; (try simp only [sD, sE, sF]); first | (go_simp; done) | (go_simp; with_reducible rfl)
   try simp only [Act.put, sA, sB, sC, sD, sE, sF]
   refine tk (i := 23) (v := ?_) rfl (Or.inl ⟨by rfl, ?_⟩) ?_
   rotate_left
   ·intro X hSw; obtain ⟨i1, i2, i3, i4, i5, i6, i7, i8⟩ := hSw; (try simp only [sD, sE, sF]); first | (go_simp; done) | (go_simp; with_reducible rfl)
   try simp only [Act.put, sA, sB, sC, sD, sE, sF]
   refine tk (i := 24) (v := ?_) rfl (Or.inl ⟨by rfl, ?_⟩) ?_
   rotate_left
   ·intro X hSw; obtain ⟨i1, i2, i3, i4, i5, i6, i7, i8⟩ := hSw; (try simp only [sD, sE, sF]); first | (go_simp; done) | (go_simp; with_reducible rfl)
   try simp only [Act.put, sA, sB, sC, sD, sE, sF]
   refine tk (i := 25) (v := ?_) rfl (Or.inl ⟨by rfl, ?_⟩) ?_
   rotate_left
   ·intro X hSw; obtain ⟨i1, i2, i3, i4, i5, i6, i7, i8⟩ := hSw; (try simp only [sD, sE, sF]); first | (go_simp; done) | (go_simp; with_reducible rfl)
   try simp only [Act.put, sA, sB, sC, sD, sE, sF]
   refine tk (i := 26) (v := ?_) rfl (Or.inl ⟨by rfl, ?_⟩) ?_
   rotate_left
   ·intro X hSw; obtain ⟨i1, i2, i3, i4, i5, i6, i7, i8⟩ := hSw; (try simp only [sD, sE, sF]); first | (go_simp; done) | (go_simp; with_reducible rfl)
   try simp only [Act.put, sA, sB, sC, sD, sE, sF]
   refine tk (i := 27) (v := ?_) rfl (Or.inl ⟨by rfl, ?_⟩) ?_
   rotate_left
   ·intro X hSw; obtain ⟨i1, i2, i3, i4, i5, i6, i7, i8⟩ := hSw; (try simp only [sD, sE, sF]); first | (go_simp; done) | (go_simp; with_reducible rfl)
   try simp only [Act.put, sA, sB, sC, sD, sE, sF]
   refine tk (i := 28) (v := ?_) rfl (Or.inl ⟨by rfl, ?_⟩) ?_
   rotate_left
   ·intro X hSw; obtain ⟨i1, i2, i3, i4, i5, i6, i7, i8⟩ := hSw; (try simp only [sD, sE, sF]); first | (go_simp; done) | (go_simp; with_reducible rfl)
   try simp only [Act.put, sA, sB, sC, sD, sE, sF]
   refine tk (i := 29) (v := ?_) rfl (Or.inl ⟨by rfl, ?_⟩) ?_
   rotate_left
   ·intro X hSw; obtain ⟨i1, i2, i3, i4, i5, i6, i7, i8⟩ := hSw; (try simp only [sD, sE, sF]); first | (go_simp; done) | (go_simp; with_reducible rfl)
   try simp only [Act.put, sA, sB, sC, sD, sE, sF]
   refine tk (i := 30) (v := ?_) rfl (Or.inl ⟨by rfl, ?_⟩) ?_
   rotate_left
   ·intro X hSw; obtain ⟨i1, i2, i3, i4, i5, i6, i7, i8⟩ := hSw; (try simp only [sD, sE, sF]); first | (go_simp; done) | (go_simp; with_reducible rfl)
   try simp only [Act.put, sA, sB, sC, sD, sE, sF]
   refine tk (i := 31) (v := ?_) rfl (Or.inl ⟨by rfl, ?_⟩) ?_
   rotate_left
   ·intro X hSw; obtain ⟨i1, i2, i3, i4, i5, i6, i7, i8⟩ := hSw; (try simp only [sD, sE, sF]); first | (go_simp; done) | (go_simp; with_reducible rfl)
   try simp only [Act.put, sA, sB, sC, sD, sE, sF]
   refine tk (i := 32) (v := ?_) rfl (Or.inl ⟨by rfl, ?_⟩) ?_
   rotate_left
   ·intro X hSw; obtain ⟨i1, i2, i3, i4, i5, i6, i7, i8⟩ := hSw; (try simp only [sD, sE, sF]); first | (go_simp; done) | (go_simp; with_reducible rfl)
   try simp only [Act.put, sA, sB, sC, sD, sE, sF]
   refine tk (i := 33) (v := ?_) rfl (Or.inl ⟨by rfl, ?_⟩) ?_
   rotate_left
   ·intro X hSw; obtain ⟨i1, i2, i3, i4, i5, i6, i7, i8⟩ := hSw; (try simp only [sD, sE, sF]); first | (go_simp; done) | (go_simp; with_reducible rfl)
   try simp only [Act.put, sA, sB, sC, sD, sE, sF]
   refine tk (i := 34) (v := ?_) rfl (Or.inl ⟨by rfl, ?_⟩) ?_
   rotate_left
   ·intro X hSw; obtain ⟨i1, i2, i3, i4, i5, i6, i7, i8⟩ := hSw; (try simp only [sD, sE, sF]); first | (go_simp; done) | (go_simp; with_reducible rfl)
   try simp only [Act.put, sA, sB, sC, sD, sE, sF]
   refine tk (i := 36) (v := ?_) rfl (Or.inl ⟨by rfl, ?_⟩) ?_
   rotate_left
   ·intro X hSw; obtain ⟨i1, i2, i3, i4, i5, i6, i7, i8⟩ := hSw; (try simp only [sD, sE, sF]); first | (go_simp; done) | (go_simp; with_reducible rfl)
   try simp only [Act.put, sA, sB, sC, sD, sE, sF]
   refine tk (i := 37) (v := ?_) rfl (Or.inl ⟨by rfl, ?_⟩) ?_
   rotate_left
   ·intro X hSw; obtain ⟨i1, i2, i3, i4, i5, i6, i7, i8⟩ := hSw; (try simp only [sD, sE, sF]); first | (go_simp; done) | (go_simp; with_reducible rfl)
   try simp only [Act.put, sA, sB, sC, sD, sE, sF]
   refine tk (i := 38) (v := ?_) rfl (Or.inl ⟨by rfl, ?_⟩) ?_
   rotate_left
   ·intro X hSw; obtain ⟨i1, i2, i3, i4, i5, i6, i7, i8⟩ := hSw; (try simp only [sD, sE, sF]); first | (go_simp; done) | (go_simp; with_reducible rfl)
   try simp only [Act.put, sA, sB, sC, sD, sE, sF]
   refine tk (i := 39) (v := ?_) rfl (Or.inl ⟨by rfl, ?_⟩) ?_
   rotate_left
   ·intro X hSw; obtain ⟨i1, i2, i3, i4, i5, i6, i7, i8⟩ := hSw; (try simp only [sD, sE, sF]); first | (go_simp; done) | (go_simp; with_reducible rfl)
   try simp only [Act.put, sA, sB, sC, sD, sE, sF]
   refine tk (i := 40) (v := ?_) rfl (Or.inl ⟨by rfl, ?_⟩) ?_
   rotate_left
   ·intro X hSw; obtain ⟨i1, i2, i3, i4, i5, i6, i7, i8⟩ := hSw; (try simp only [sD, sE, sF]); first | (go_simp; done) | (go_simp; with_reducible rfl)
   try simp only [Act.put, sA, sB, sC, sD, sE, sF]
   refine wpAnyH_ready (rs := [35]) (by kernel_rfl) (by simp) (AllReadyH.cons rfl (fun K hK => ?_) AllReadyH.nil)
   try simp only [sD, sE, sF]
   go_simp
   refine (CI1.out _ (Bx6.out.trans (HX6.out.mono Bx6.out.size))).mono ?_
   rintro e w7 ⟨rfl, bw7⟩
   have HXw7 : Hid (Below V6.heap.size V6 w7) := HX6.out.trans (bw7.mono HX6.out.size)
   clear bw7
   refine hK.out _ _ (KS.out _ HXw7.out) (fun hHeld => ?_)
   clear hK K
   try simp only [Act.put, sA, sB, sC, sD, sE, sF]
   refine wpAnyH_ready (rs := [41]) (by kernel_rfl) (by simp) (AllReadyH.cons rfl (fun K hK => ?_) AllReadyH.nil)
   try simp only [sD, sE, sF]
   go_simp
   refine (CI2.out _ (Bx6.out.trans (HXw7.out.mono Bx6.out.size))).mono ?_
   rintro e w8 ⟨rfl, bw8⟩
   have HXw8 : Hid (Below V6.heap.size V6 w8) := HXw7.out.trans (bw8.mono HXw7.out.size)
   clear bw8
   refine hK.out _ _ (KS.out _ HXw8.out) (fun hHeld => ?_)
   clear hK K
   try simp only [Act.put, sA, sB, sC, sD, sE, sF]
   refine tk (i := 42) (v := ?_) rfl (Or.inl ⟨by rfl, ?_⟩) ?_
   rotate_left
   ·intro X hSw; obtain ⟨i1, i2, i3, i4, i5, i6, i7, i8⟩ := hSw; (try simp only [sD, sE, sF]); first | (go_simp; done) | (go_simp; with_reducible rfl)
   try simp only [Act.put, sA, sB, sC, sD, sE, sF]
   refine tk (i := 43) (v := ?_) rfl (Or.inl ⟨by rfl, ?_⟩) ?_
   rotate_left
   ·intro X hSw; obtain ⟨i1, i2, i3, i4, i5, i6, i7, i8⟩ := hSw; (try simp only [sD, sE, sF]); first | (go_simp; done) | (go_simp; with_reducible rfl)
   try simp only [Act.put, sA, sB, sC, sD, sE, sF]
   refine tk (i := 44) (v := ?_) rfl (Or.inl ⟨by rfl, ?_⟩) ?_
   rotate_left
   ·intro X hSw; obtain ⟨i1, i2, i3, i4, i5, i6, i7, i8⟩ := hSw; (try simp only [sD, sE, sF]); first | (go_simp; done) | (go_simp; with_reducible rfl)
   try simp only [Act.put, sA, sB, sC, sD, sE, sF]
   refine tk (i := 45) (v := ?_) rfl (Or.inl ⟨by rfl, ?_⟩) ?_
   rotate_left
   ·intro X hSw; obtain ⟨i1, i2, i3, i4, i5, i6, i7, i8⟩ := hSw; (try simp only [sD, sE, sF]); first | (go_simp; done) | (go_simp; with_reducible rfl)
   try simp only [Act.put, sA, sB, sC, sD, sE, sF]
   refine tk (i := 46) (v := ?_) rfl (Or.inl ⟨by rfl, ?_⟩) ?_
   rotate_left
   ·intro X hSw; obtain ⟨i1, i2, i3, i4, i5, i6, i7, i8⟩ := hSw; (try simp only [sD, sE, sF]); first | (go_simp; done) | (go_simp; with_reducible rfl)
   try simp only [Act.put, sA, sB, sC, sD, sE, sF]
   refine tk (i := 47) (v := ?_) rfl (Or.inl ⟨by rfl, ?_⟩) ?_
   rotate_left
   ·intro X hSw; obtain ⟨i1, i2, i3, i4, i5, i6, i7, i8⟩ := hSw; (try simp only [sD, sE, sF]); first | (go_simp; done) | (go_simp; with_reducible rfl)
   try simp only [Act.put, sA, sB, sC, sD, sE, sF]
   refine tk (i := 48) (v := ?_) rfl (Or.inl ⟨by rfl, ?_⟩) ?_
   rotate_left
   ·intro X hSw; obtain ⟨i1, i2, i3, i4, i5, i6, i7, i8⟩ := hSw; (try simp only [sD, sE, sF]); first | (go_simp; done) | (go_simp; with_reducible rfl)
   try simp only [Act.put, sA, sB, sC, sD, sE, sF]
   refine tk (i := 49) (v := ?_) rfl (Or.inl ⟨by rfl, ?_⟩) ?_
   rotate_left
   ·intro X hSw; obtain ⟨i1, i2, i3, i4, i5, i6, i7, i8⟩ := hSw; (try simp only [sD, sE, sF]); first | (go_simp; done) | (go_simp; with_reducible rfl)
   try simp only [Act.put, sA, sB, sC, sD, sE, sF]
   refine tk (i := 50) (v := ?_) rfl (Or.inl ⟨by rfl, ?_⟩) ?_
   rotate_left
   ·intro X hSw; obtain ⟨i1, i2, i3, i4, i5, i6, i7, i8⟩ := hSw; (try simp only [sD, sE, sF]); first | (go_simp; done) | (go_simp; with_reducible rfl)
   try simp only [Act.put, sA, sB, sC, sD, sE, sF]
   refine tk (i := 52) (v := ?_) rfl (Or.inl ⟨by rfl, ?_⟩) ?_
   rotate_left
   ·intro X hSw; obtain ⟨i1, i2, i3, i4, i5, i6, i7, i8⟩ := hSw; (try simp only [sD, sE, sF]); first | (go_simp; done) | (go_simp; with_reducible rfl)
   try simp only [Act.put, sA, sB, sC, sD, sE, sF]
   refine tk (i := 53) (v := ?_) rfl (Or.inl ⟨by rfl, ?_⟩) ?_
   rotate_left
   ·intro X hSw; obtain ⟨i1, i2, i3, i4, i5, i6, i7, i8⟩ := hSw; (try simp only [sD, sE, sF]); first | (go_simp; done) | (go_simp; with_reducible rfl)
   try simp only [Act.put, sA, sB, sC, sD, sE, sF]
   refine tk (i := 54) (v := ?_) rfl (Or.inl ⟨by rfl, ?_⟩) ?_
   rotate_left
   ·intro X hSw; obtain ⟨i1, i2, i3, i4, i5, i6, i7, i8⟩ := hSw; (try simp only [sD, sE, sF]); first | (go_simp; done) | (go_simp; with_reducible rfl)
   try simp only [Act.put, sA, sB, sC, sD, sE, sF]
   refine tk (i := 55) (v := ?_) rfl (Or.inl ⟨by rfl, ?_⟩) ?_
   rotate_left
   ·intro X hSw; obtain ⟨i1, i2, i3, i4, i5, i6, i7, i8⟩ := hSw; (try simp only [sD, sE, sF]); first | (go_simp; done) | (go_simp; with_reducible rfl)
   try simp only [Act.put, sA, sB, sC, sD, sE, sF]
   refine tk (i := 56) (v := ?_) rfl (Or.inl ⟨by rfl, ?_⟩) ?_
   rotate_left
   ·intro X hSw; obtain ⟨i1, i2, i3, i4, i5, i6, i7, i8⟩ := hSw; (try simp only [sD, sE, sF]); first | (go_simp; done) | (go_simp; with_reducible rfl)
   try simp only [Act.put, sA, sB, sC, sD, sE, sF]
   refine wpAnyH_ready (rs := [51]) (by kernel_rfl) (by simp) (AllReadyH.cons rfl (fun K hK => ?_) AllReadyH.nil)
   try simp only [sD, sE, sF]
   go_simp
   refine (CN1.out _ (Bx6.out.trans (HXw8.out.mono Bx6.out.size))).mono ?_
   rintro e w9 ⟨rfl, bw9⟩
   have HXw9 : Hid (Below V6.heap.size V6 w9) := HXw8.out.trans (bw9.mono HXw8.out.size)
   clear bw9
   refine hK.out _ _ (KS.out _ HXw9.out) (fun hHeld => ?_)
   clear hK K
   try simp only [Act.put, sA, sB, sC, sD, sE, sF]
   refine wpAnyH_ready (rs := [57]) (by kernel_rfl) (by simp) (AllReadyH.cons rfl (fun K hK => ?_) AllReadyH.nil)
   try simp only [sD, sE, sF]
   go_simp
   refine (CN2.out _ (Bx6.out.trans (HXw9.out.mono Bx6.out.size))).mono ?_
   rintro e w10 ⟨rfl, bw10⟩
   have HXw10 : Hid (Below V6.heap.size V6 w10) := HXw9.out.trans (bw10.mono HXw9.out.size)
   clear bw10
   refine hK.out _ _ (KS.out _ HXw10.out) (fun hHeld => ?_)
   clear hK K
   try simp only [Act.put, sA, sB, sC, sD, sE, sF]
   refine tk (i := 58) (v := ?_) rfl (Or.inl ⟨by rfl, ?_⟩) ?_
   rotate_left
   ·intro X hSw; obtain ⟨i1, i2, i3, i4, i5, i6, i7, i8⟩ := hSw; (try simp only [sD, sE, sF]); first | (go_simp; done) | (go_simp; with_reducible rfl)
   try simp only [Act.put, sA, sB, sC, sD, sE, sF]
   refine tk (i := 59) (v := ?_) rfl (Or.inl ⟨by rfl, ?_⟩) ?_
   rotate_left
   ·intro X hSw; obtain ⟨i1, i2, i3, i4, i5, i6, i7, i8⟩ := hSw; (try simp only [sD, sE, sF]); first | (go_simp; done) | (go_simp; with_reducible rfl)
   try simp only [Act.put, sA, sB, sC, sD, sE, sF]
   refine wpAnyH_done (by kernel_rfl) ?_ _
   -->R45
   as_aux_lemma =>
   have Bx10 : Hid (Below X.heap.size X w10) := Bx6.out.trans (HXw10.out.mono Bx6.out.size)
   have y10 : w10.cell? ⟨wr.heap.size, 2, none⟩ = some (.string s) := (Bx10.out.cell (p := ⟨wr.heap.size, 2, none⟩) hNX).trans q2X
   clear KS HX6 HXw7 HXw8 HXw9 HXw10 Bx0 Bx1 Bx2 Bx3 Bx4 Bx5 Bx6 HB1_6 HB2_6 HB3_6 HB4_6 HB5_6 HB6_6 CP1 CP2 CA1 CA2 CS1 CS2 CI1 CI2 CN1 CN2
   go_wp2
   refine wp_region_held_drew (S := fun Y => Y.cell? ⟨wr.heap.size, 2, none⟩ = some (.string s)) (by kernel_rfl) y10 (fun hHeld => ?_)
   refine tk (i := 0) (v := ?_) rfl (Or.inl ⟨by rfl, ?_⟩) ?_
   rotate_left
   ·intro X hSw; (try simp only [sD, sE, sF]); first | (go_simp; done) | (go_simp; with_reducible rfl)
   try simp only [Act.put, sA, sB, sC, sD, sE, sF]
   refine tk (i := 2) (v := ?_) rfl (Or.inl ⟨by rfl, ?_⟩) ?_
   rotate_left
   ·intro X hSw; (try simp only [sD, sE, sF]); first | (go_simp; done) | (go_simp; with_reducible rfl)
   try simp only [Act.put, sA, sB, sC, sD, sE, sF]
   refine tk (i := 3) (v := ?_) rfl (Or.inl ⟨by rfl, ?_⟩) ?_
   rotate_left
   ·intro X hSw; (try simp only [sD, sE, sF]); first | (go_simp; done) | (go_simp; with_reducible rfl)
   try simp only [Act.put, sA, sB, sC, sD, sE, sF]
   refine tk (i := 4) (v := ?_) rfl (Or.inl ⟨by rfl, ?_⟩) ?_
   rotate_left
   ·intro X hSw; (try simp only [sD, sE, sF]); first | (go_simp; done) | (go_simp; with_reducible rfl)
   try simp only [Act.put, sA, sB, sC, sD, sE, sF]
   refine tk (i := 6) (v := ?_) rfl (Or.inl ⟨by rfl, ?_⟩) ?_
   rotate_left
   ·intro X hSw; (try simp only [sD, sE, sF]); first | (go_simp; done) | (go_simp; with_reducible rfl)
   try simp only [Act.put, sA, sB, sC, sD, sE, sF]
   refine wpAnyH_ready (rs := [1]) (by kernel_rfl) (by simp) (AllReadyH.cons rfl (fun K hK => ?_) AllReadyH.nil)
   try simp only [sD, sE, sF]
   go_simp
   refine (CL1.out _ Bx10.out.drew).mono ?_
   rintro e w11 ⟨A1, a1, rfl, o1, b11⟩
   have Bx11 : Hid (Below X.heap.size X w11) := Bx10.out.drew.trans (b11.mono Bx10.out.size)
   have y11 := (b11.cell (p := ⟨wr.heap.size, 2, none⟩) (Nat.lt_of_lt_of_le hNX Bx10.out.size)).trans y10
   have O1 := Lib.hid o1
   clear b11 o1
   refine hK.out _ _ (y11) (fun hHeld => ?_)
   clear hK K
   try simp only [Act.put, sA, sB, sC, sD, sE, sF]
   refine wpAnyH_ready (rs := [5]) (by kernel_rfl) (by simp) (AllReadyH.cons rfl (fun K hK => ?_) AllReadyH.nil)
   try simp only [sD, sE, sF]
   go_simp
   refine (CL2.out _ _ Bx11.out).mono ?_
   rintro e w12 ⟨A2, a2, rfl, o2, b12⟩
   have Bx12 : Hid (Below X.heap.size X w12) := Bx11.out.trans (b12.mono Bx11.out.size)
   have y12 := (b12.cell (p := ⟨wr.heap.size, 2, none⟩) (Nat.lt_of_lt_of_le hNX Bx11.out.size)).trans y11
   have O2 := Lib.hid o2
   have O12 := Lib.hid (own_below O1.out b12 (fun k hk => (O1.out.lt k hk).2))
   clear b12 o2
   refine hK.out _ _ (y12) (fun hHeld => ?_)
   clear hK K
   try simp only [Act.put, sA, sB, sC, sD, sE, sF]
   refine wpAnyH_ready (rs := [7]) (by kernel_rfl) (by simp) (AllReadyH.cons rfl (fun K hK => ?_) AllReadyH.nil)
   try simp only [sD, sE, sF]
   go_simp
   refine (CL3.out _ Bx12.out).mono ?_
   rintro e w13 ⟨A3, a3, rfl, o3, b13⟩
   have Bx13 : Hid (Below X.heap.size X w13) := Bx12.out.trans (b13.mono Bx12.out.size)
   have y13 := (b13.cell (p := ⟨wr.heap.size, 2, none⟩) (Nat.lt_of_lt_of_le hNX Bx12.out.size)).trans y12
   have O3 := Lib.hid o3
   have O13 := Lib.hid (own_below O12.out b13 (fun k hk => (O12.out.lt k hk).2))
   have O23 := Lib.hid (own_below O2.out b13 (fun k hk => (O2.out.lt k hk).2))
   clear b13 o3
   refine hK.out _ _ (y13) (fun hHeld => ?_)
   clear hK K
   try simp only [Act.put, sA, sB, sC, sD, sE, sF]
   refine tk (i := 8) (v := ?_) rfl (Or.inl ⟨by rfl, ?_⟩) ?_
   rotate_left
   ·intro X hSw; (try simp only [sD, sE, sF]); first | (go_simp; done) | (go_simp; with_reducible rfl)
   try simp only [Act.put, sA, sB, sC, sD, sE, sF]
   refine tk (i := 9) (v := ?_) rfl (Or.inl ⟨by rfl, ?_⟩) ?_
   rotate_left
   ·intro X hSw; (try simp only [sD, sE, sF]); first | (go_simp; done) | (go_simp; with_reducible rfl)
   try simp only [Act.put, sA, sB, sC, sD, sE, sF]
   refine tk (i := 10) (v := ?_) rfl (Or.inl ⟨by rfl, ?_⟩) ?_
   rotate_left
   ·intro X hSw; (try simp only [sD, sE, sF]); first | (go_simp; done) | (go_simp; with_reducible rfl)
   try simp only [Act.put, sA, sB, sC, sD, sE, sF]
   refine wpAnyH_done (by kernel_rfl) ?_ _
   obtain ⟨l1, l2, l3, l4⟩ := lens HAG1.out
   have hacc : (accs8 s81 s).length ≤ 1000 := by have := List.length_filter_le (fun y => !delB s y) s81.a; unfold accs8; omega
   have HWB13 := Lib.hid (HWBX.out.below Bx13.out)
   have HK13 := Lib.hid ((Bx13.out.block _ hNX).trans HKX.out)
   have BK1 := Lib.hid (wl_bookP HWB13.out (show k < 250 by omega) (Nat.le_trans HB5.out.size (by omega)) O13.out (by omega))
   clear y10 y11 y12 y13 CL1 CL2 CL3
   go_wp2_with fail
   refine BK1.out.mono ?_
   rintro e w14 ⟨rfl, hwb14, hb14, S1, S1', hm14, hS14⟩
   have HWB14 := Lib.hid hwb14
   have O14 := Lib.hid (row_beside O13.out hm14 hS14 (by decide) (by decide))
   have O24 := Lib.hid (row_beside O23.out hm14 hS14 (by decide) (by decide))
   have O34 := Lib.hid (row_beside O3.out hm14 hS14 (by decide) (by decide))
   have HK14 := Lib.hid (cell_beside HK13.out hm14 hS14 (by decide) (by decide))
   have Bw14 : Hid (Below w.heap.size w w14) := (HBC.out.trans (Bx13.out.mono HBC.out.size)).trans hb14
   have BK2 := Lib.hid (wl_bookA HWB14.out (show k < 250 by omega) (Nat.le_trans HB5.out.size (by omega)) O24.out hacc)
   clear hwb14 hb14 hm14 hS14 BK1 HWB13 HK13 HWBX HKX
   go_wp2_with fail
   refine BK2.out.mono ?_
   rintro e w15 ⟨rfl, hwb15, hb15, S2, S2', hm15, hS15⟩
   have HWB15 := Lib.hid hwb15
   have O15 := Lib.hid (row_beside O14.out hm15 hS15 (by decide) (by decide))
   have O25 := Lib.hid (row_beside O24.out hm15 hS15 (by decide) (by decide))
   have O35 := Lib.hid (row_beside O34.out hm15 hS15 (by decide) (by decide))
   have HK15 := Lib.hid (cell_beside HK14.out hm15 hS15 (by decide) (by decide))
   have Bw15 : Hid (Below w.heap.size w w15) := Bw14.out.trans hb15
   have BK3 := Lib.hid (wl_bookS HWB15.out (show k < 250 by omega) (Nat.le_trans HB5.out.size (by omega)) O35.out (by omega))
   clear hwb15 hb15 hm15 hS15 BK2 HWB14 HK14
   go_wp2_with fail
   refine BK3.out.mono ?_
   rintro e w16 ⟨rfl, hwb16, hb16, S3, S3', hm16, hS16⟩
   have HWB16 := Lib.hid hwb16
   have O16 := Lib.hid (row_beside O15.out hm16 hS16 (by decide) (by decide))
   have O26 := Lib.hid (row_beside O25.out hm16 hS16 (by decide) (by decide))
   have O36 := Lib.hid (row_beside O35.out hm16 hS16 (by decide) (by decide))
   have hk16 := cell_beside HK15.out hm16 hS16 (by decide) (by decide)
   have hN16 : wr.heap.size < w16.heap.size := Blk.lt (t := 63) hk16
   have p2 : w16.cell? ⟨wr.heap.size, 2, none⟩ = some (.string s) := by rw [Lib.cell_of_heap hk16]; rfl
   have Bw16 : Hid (Below w.heap.size w w16) := Bw15.out.trans hb16
   have hx16 := hwb16.dat.lt
   obtain ⟨Ap, Aa, As, cp, ca, cs, xp, xa, xs, CM1, CM2, CM3, CM4, CM5, CM6⟩ := sames hwb16.ref hwb16.dat HAG1.out s
   have KT : Hid (∀ Y, Below w16.heap.size w16 Y → Y.cell? ⟨x, 1, none⟩ = some (.slice Ap s81.p.length cp) ∧ Y.cell? ⟨x, 2, none⟩ = some (.slice Aa s81.a.length ca) ∧ Y.cell? ⟨x, 3, none⟩ = some (.slice As s81.s.length cs) ∧ Y.cell? ⟨wr.heap.size, 2, none⟩ = some (.string s)) := fun Y hY => ⟨(hY.cell (p := ⟨x, 1, none⟩) hx16).trans xp, (hY.cell (p := ⟨x, 2, none⟩) hx16).trans xa, (hY.cell (p := ⟨x, 3, none⟩) hx16).trans xs, (hY.cell (p := ⟨wr.heap.size, 2, none⟩) hN16).trans p2⟩
   have RO1 : Hid (∀ Y, Below w16.heap.size w16 Y → Y.ownsRow X.heap.size 84 2 (.slice A1 s81.p.length a1) s81.p.length (cellsOf s81.p)) := fun Y hY => own_below O16.out hY (fun k hk => (O16.out.lt k hk).2)
   have RO2 : Hid (∀ Y, Below w16.heap.size w16 Y → Y.ownsRow X.heap.size 88 2 (.slice A2 (accs8 s81 s).length a2) (accs8 s81 s).length (cellsOf (accs8 s81 s))) := fun Y hY => own_below O26.out hY (fun k hk => (O26.out.lt k hk).2)
   have RO3 : Hid (∀ Y, Below w16.heap.size w16 Y → Y.ownsRow X.heap.size 92 8 (.slice A3 s81.s.length a3) s81.s.length (cellsOf s81.s)) := fun Y hY => own_below O36.out hY (fun k hk => (O36.out.lt k hk).2)
   as_aux_lemma =>
   have HX16 : Hid (Below w16.heap.size w16 w16.drew) := (Below.refl _ _).drew
   clear hwb16 hb16 hm16 hS16 BK3 HWB15 HK15 O1 O2 O3 O12 O13 O23 O14 O24 O34 O15 O25 O35 O16 O26 O36 hk16 p2 xp xa xs Bw14 Bw15
   go_wp2
   refine wp_region_held_drew (S := fun Y => Y.cell? ⟨x, 1, none⟩ = some (.slice Ap s81.p.length cp) ∧ Y.cell? ⟨x, 2, none⟩ = some (.slice Aa s81.a.length ca) ∧ Y.cell? ⟨x, 3, none⟩ = some (.slice As s81.s.length cs) ∧ Y.cell? ⟨wr.heap.size, 2, none⟩ = some (.string s)) (by kernel_rfl) (KT.out _ HX16.out) (fun hHeld => ?_)
   refine tk (i := 0) (v := ?_) rfl (Or.inl ⟨by rfl, ?_⟩) ?_
   rotate_left
   ·intro X hSw; obtain ⟨i1, i2, i3, i4⟩ := hSw; (try simp only [sD, sE, sF]); first | (go_simp; done) | (go_simp; with_reducible rfl)
   try simp only [Act.put, sA, sB, sC, sD, sE, sF]
   refine tk (i := 1) (v := ?_) rfl (Or.inl ⟨by rfl, ?_⟩) ?_
   rotate_left
   ·intro X hSw; obtain ⟨i1, i2, i3, i4⟩ := hSw; (try simp only [sD, sE, sF]); first | (go_simp; done) | (go_simp; with_reducible rfl)
   try simp only [Act.put, sA, sB, sC, sD, sE, sF]
   refine tk (i := 2) (v := ?_) rfl (Or.inl ⟨by rfl, ?_⟩) ?_
   rotate_left
   ·intro X hSw; obtain ⟨i1, i2, i3, i4⟩ := hSw; (try simp only [sD, sE, sF]); first | (go_simp; done) | (go_simp; with_reducible rfl)
   try simp only [Act.put, sA, sB, sC, sD, sE, sF]
   refine tk (i := 3) (v := ?_) rfl (Or.inl ⟨by rfl, ?_⟩) ?_
   rotate_left
   ·intro X hSw; obtain ⟨i1, i2, i3, i4⟩ := hSw; (try simp only [sD, sE, sF]); first | (go_simp; done) | (go_simp; with_reducible rfl)
   try simp only [Act.put, sA, sB, sC, sD, sE, sF]
   refine tk (i := 4) (v := ?_) rfl (Or.inl ⟨by rfl, ?_⟩) ?_
   rotate_left
   ·intro X hSw; obtain ⟨i1, i2, i3, i4⟩ := hSw; (try simp only [sD, sE, sF]); first | (go_simp; done) | (go_simp; with_reducible rfl)
   try simp only [Act.put, sA, sB, sC, sD, sE, sF]
   refine wpAnyH_ready (rs := [5]) (by kernel_rfl) (by simp) (AllReadyH.cons rfl (fun K hK => ?_) AllReadyH.nil)
   try simp only [sD, sE, sF]
   go_simp
   refine (CM1.out _ _ _ _ HX16.out (RO1.out _ HX16.out)).mono ?_
   rintro e w17 ⟨rfl, bw17⟩
   have HXw17 : Hid (Below w16.heap.size w16 w17) := HX16.out.trans (bw17.mono HX16.out.size)
   clear bw17
   refine hK.out _ _ (KT.out _ HXw17.out) (fun hHeld => ?_)
   clear hK K
   try simp only [Act.put, sA, sB, sC, sD, sE, sF]
   refine tk (i := 6) (v := ?_) rfl (Or.inl ⟨by rfl, ?_⟩) ?_
   rotate_left
   ·intro X hSw; obtain ⟨i1, i2, i3, i4⟩ := hSw; (try simp only [sD, sE, sF]); first | (go_simp; done) | (go_simp; with_reducible rfl)
   try simp only [Act.put, sA, sB, sC, sD, sE, sF]
   refine tk (i := 7) (v := ?_) rfl (Or.inl ⟨by rfl, ?_⟩) ?_
   rotate_left
   ·intro X hSw; obtain ⟨i1, i2, i3, i4⟩ := hSw; (try simp only [sD, sE, sF]); first | (go_simp; done) | (go_simp; with_reducible rfl)
   try simp only [Act.put, sA, sB, sC, sD, sE, sF]
   refine tk (i := 8) (v := ?_) rfl (Or.inl ⟨by rfl, ?_⟩) ?_
   rotate_left
   ·intro X hSw; obtain ⟨i1, i2, i3, i4⟩ := hSw; (try simp only [sD, sE, sF]); first | (go_simp; done) | (go_simp; with_reducible rfl)
   try simp only [Act.put, sA, sB, sC, sD, sE, sF]
   refine tk (i := 9) (v := ?_) rfl (Or.inl ⟨by rfl, ?_⟩) ?_
   rotate_left
   ·intro X hSw; obtain ⟨i1, i2, i3, i4⟩ := hSw; (try simp only [sD, sE, sF]); first | (go_simp; done) | (go_simp; with_reducible rfl)
   try simp only [Act.put, sA, sB, sC, sD, sE, sF]
   refine tk (i := 10) (v := ?_) rfl (Or.inl ⟨by rfl, ?_⟩) ?_
   rotate_left
   ·intro X hSw; obtain ⟨i1, i2, i3, i4⟩ := hSw; (try simp only [sD, sE, sF]); first | (go_simp; done) | (go_simp; with_reducible rfl)
   try simp only [Act.put, sA, sB, sC, sD, sE, sF]
   refine tk (i := 11) (v := ?_) rfl (Or.inl ⟨by rfl, ?_⟩) ?_
   rotate_left
   ·intro X hSw; obtain ⟨i1, i2, i3, i4⟩ := hSw; (try simp only [sD, sE, sF]); first | (go_simp; done) | (go_simp; with_reducible rfl)
   try simp only [Act.put, sA, sB, sC, sD, sE, sF]
   refine wpAnyH_ready (rs := [12]) (by kernel_rfl) (by simp) (AllReadyH.cons rfl (fun K hK => ?_) AllReadyH.nil)
   try simp only [sD, sE, sF]
   go_simp
   refine (CM2.out _ HXw17.out).mono ?_
   rintro e w18 ⟨A5, a5, rfl, o5, bw18⟩
   have HXw18 : Hid (Below w16.heap.size w16 w18) := HXw17.out.trans (bw18.mono HXw17.out.size)
   have O5 := Lib.hid o5
   clear o5
   clear bw18
   refine hK.out _ _ (KT.out _ HXw18.out) (fun hHeld => ?_)
   clear hK K
   try simp only [Act.put, sA, sB, sC, sD, sE, sF]
   refine wpAnyH_ready (rs := [13]) (by kernel_rfl) (by simp) (AllReadyH.cons rfl (fun K hK => ?_) AllReadyH.nil)
   try simp only [sD, sE, sF]
   go_simp
   refine (CM3.out _ _ _ _ _ _ _ (RO2.out _ HXw18.out) O5.out).mono ?_
   rintro e w19 ⟨rfl, bw19⟩
   have HXw19 : Hid (Below w16.heap.size w16 w19) := HXw18.out.trans (bw19.mono HXw18.out.size)
   clear bw19
   refine hK.out _ _ (KT.out _ HXw19.out) (fun hHeld => ?_)
   clear hK K
   try simp only [Act.put, sA, sB, sC, sD, sE, sF]
   refine tk (i := 14) (v := ?_) rfl (Or.inl ⟨by rfl, ?_⟩) ?_
   rotate_left
   ·intro X hSw; obtain ⟨i1, i2, i3, i4⟩ := hSw; (try simp only [sD, sE, sF]); first | (go_simp; done) | (go_simp; with_reducible rfl)
   try simp only [Act.put, sA, sB, sC, sD, sE, sF]
   refine tk (i := 15) (v := ?_) rfl (Or.inl ⟨by rfl, ?_⟩) ?_
   rotate_left
   ·intro X hSw; obtain ⟨i1, i2, i3, i4⟩ := hSw; (try simp only [sD, sE, sF]); first | (go_simp; done) | (go_simp; with_reducible rfl)
   try simp only [Act.put, sA, sB, sC, sD, sE, sF]
   refine tk (i := 16) (v := ?_) rfl (Or.inl ⟨by rfl, ?_⟩) ?_
   rotate_left
   ·intro X hSw; obtain ⟨i1, i2, i3, i4⟩ := hSw; (try simp only [sD, sE, sF]); first | (go_simp; done) | (go_simp; with_reducible rfl)
   try simp only [Act.put, sA, sB, sC, sD, sE, sF]
   refine tk (i := 17) (v := ?_) rfl (Or.inl ⟨by rfl, ?_⟩) ?_
   rotate_left
   ·intro X hSw; obtain ⟨i1, i2, i3, i4⟩ := hSw; (try simp only [sD, sE, sF]); first | (go_simp; done) | (go_simp; with_reducible rfl)
   try simp only [Act.put, sA, sB, sC, sD, sE, sF]
   refine tk (i := 18) (v := ?_) rfl (Or.inl ⟨by rfl, ?_⟩) ?_
   rotate_left
   ·intro X hSw; obtain ⟨i1, i2, i3, i4⟩ := hSw; (try simp only [sD, sE, sF]); first | (go_simp; done) | (go_simp; with_reducible rfl)
   try simp only [Act.put, sA, sB, sC, sD, sE, sF]
   refine tk (i := 19) (v := ?_) rfl (Or.inl ⟨by rfl, ?_⟩) ?_
   rotate_left
   ·intro X hSw; obtain ⟨i1, i2, i3, i4⟩ := hSw; (try simp only [sD, sE, sF]); first | (go_simp; done) | (go_simp; with_reducible rfl)
   try simp only [Act.put, sA, sB, sC, sD, sE, sF]
   refine tk (i := 20) (v := ?_) rfl (Or.inl ⟨by rfl, ?_⟩) ?_
   rotate_left
   ·intro X hSw; obtain ⟨i1, i2, i3, i4⟩ := hSw; (try simp only [sD, sE, sF]); first | (go_simp; done) | (go_simp; with_reducible rfl)
   try simp only [Act.put, sA, sB, sC, sD, sE, sF]
   refine tk (i := 21) (v := ?_) rfl (Or.inl ⟨by rfl, ?_⟩) ?_
   rotate_left
   ·intro X hSw; obtain ⟨i1, i2, i3, i4⟩ := hSw; (try simp only [sD, sE, sF]); first | (go_simp; done) | (go_simp; with_reducible rfl)
   try simp only [Act.put, sA, sB, sC, sD, sE, sF]
   refine wpAnyH_ready (rs := [22]) (by kernel_rfl) (by simp) (AllReadyH.cons rfl (fun K hK => ?_) AllReadyH.nil)
   try simp only [sD, sE, sF]
   go_simp
   refine (CM4.out _ _ _ _ HXw19.out (RO3.out _ HXw19.out)).mono ?_
   rintro e w20 ⟨rfl, bw20⟩
   have HXw20 : Hid (Below w16.heap.size w16 w20) := HXw19.out.trans (bw20.mono HXw19.out.size)
   clear bw20
   refine hK.out _ _ (KT.out _ HXw20.out) (fun hHeld => ?_)
   clear hK K
   try simp only [Act.put, sA, sB, sC, sD, sE, sF]
   refine tk (i := 23) (v := ?_) rfl (Or.inl ⟨by rfl, ?_⟩) ?_
   rotate_left
   ·intro X hSw; obtain ⟨i1, i2, i3, i4⟩ := hSw; (try simp only [sD, sE, sF]); first | (go_simp; done) | (go_simp; with_reducible rfl)
   try simp only [Act.put, sA, sB, sC, sD, sE, sF]
   refine tk (i := 24) (v := ?_) rfl (Or.inl ⟨by rfl, ?_⟩) ?_
   rotate_left
   ·intro X hSw; obtain ⟨i1, i2, i3, i4⟩ := hSw; (try simp only [sD, sE, sF]); first | (go_simp; done) | (go_simp; with_reducible rfl)
   try simp only [Act.put, sA, sB, sC, sD, sE, sF]
   refine tk (i := 25) (v := ?_) rfl (Or.inl ⟨by rfl, ?_⟩) ?_
   rotate_left
   ·intro X hSw; obtain ⟨i1, i2, i3, i4⟩ := hSw; (try simp only [sD, sE, sF]); first | (go_simp; done) | (go_simp; with_reducible rfl)
   try simp only [Act.put, sA, sB, sC, sD, sE, sF]
   refine tk (i := 26) (v := ?_) rfl (Or.inl ⟨by rfl, ?_⟩) ?_
   rotate_left
   ·intro X hSw; obtain ⟨i1, i2, i3, i4⟩ := hSw; (try simp only [sD, sE, sF]); first | (go_simp; done) | (go_simp; with_reducible rfl)
   try simp only [Act.put, sA, sB, sC, sD, sE, sF]
   refine tk (i := 28) (v := ?_) rfl (Or.inl ⟨by rfl, ?_⟩) ?_
   rotate_left
   ·intro X hSw; obtain ⟨i1, i2, i3, i4⟩ := hSw; (try simp only [sD, sE, sF]); first | (go_simp; done) | (go_simp; with_reducible rfl)
   try simp only [Act.put, sA, sB, sC, sD, sE, sF]
   refine tk (i := 29) (v := ?_) rfl (Or.inl ⟨by rfl, ?_⟩) ?_
   rotate_left
   ·intro X hSw; obtain ⟨i1, i2, i3, i4⟩ := hSw; (try simp only [sD, sE, sF]); first | (go_simp; done) | (go_simp; with_reducible rfl)
   try simp only [Act.put, sA, sB, sC, sD, sE, sF]
   refine tk (i := 30) (v := ?_) rfl (Or.inl ⟨by rfl, ?_⟩) ?_
   rotate_left
   ·intro X hSw; obtain ⟨i1, i2, i3, i4⟩ := hSw; (try simp only [sD, sE, sF]); first | (go_simp; done) | (go_simp; with_reducible rfl)
   try simp only [Act.put, sA, sB, sC, sD, sE, sF]
   refine tk (i := 31) (v := ?_) rfl (Or.inl ⟨by rfl, ?_⟩) ?_
   rotate_left
   ·intro X hSw; obtain ⟨i1, i2, i3, i4⟩ := hSw; (try simp only [sD, sE, sF]); first | (go_simp; done) | (go_simp; with_reducible rfl)
   try simp only [Act.put, sA, sB, sC, sD, sE, sF]
   refine wpAnyH_ready (rs := [27]) (by kernel_rfl) (by simp) (AllReadyH.cons rfl (fun K hK => ?_) AllReadyH.nil)
   try simp only [sD, sE, sF]
   go_simp
   refine (CM5.out _ HXw20.out).mono ?_
   rintro e w21 ⟨A6, a6, rfl, o6, bw21⟩
   have HXw21 : Hid (Below w16.heap.size w16 w21) := HXw20.out.trans (bw21.mono HXw20.out.size)
   have O6 := Lib.hid o6
   clear o6
   clear bw21
   refine hK.out _ _ (KT.out _ HXw21.out) (fun hHeld => ?_)
   clear hK K
   try simp only [Act.put, sA, sB, sC, sD, sE, sF]
   refine wpAnyH_ready (rs := [32]) (by kernel_rfl) (by simp) (AllReadyH.cons rfl (fun K hK => ?_) AllReadyH.nil)
   try simp only [sD, sE, sF]
   go_simp
   refine (CM6.out _ _ _ _ HXw21.out O6.out).mono ?_
   rintro e w22 ⟨rfl, bw22⟩
   have HXw22 : Hid (Below w16.heap.size w16 w22) := HXw21.out.trans (bw22.mono HXw21.out.size)
   clear bw22
   refine hK.out _ _ (KT.out _ HXw22.out) (fun hHeld => ?_)
   clear hK K
   try simp only [Act.put, sA, sB, sC, sD, sE, sF]
   refine tk (i := 33) (v := ?_) rfl (Or.inl ⟨by rfl, ?_⟩) ?_
   rotate_left
   ·intro X hSw; obtain ⟨i1, i2, i3, i4⟩ := hSw; (try simp only [sD, sE, sF]); first | (go_simp; done) | (go_simp; with_reducible rfl)
   try simp only [Act.put, sA, sB, sC, sD, sE, sF]
   refine tk (i := 34) (v := ?_) rfl (Or.inl ⟨by rfl, ?_⟩) ?_
   rotate_left
   ·intro X hSw; obtain ⟨i1, i2, i3, i4⟩ := hSw; (try simp only [sD, sE, sF]); first | (go_simp; done) | (go_simp; with_reducible rfl)
   try simp only [Act.put, sA, sB, sC, sD, sE, sF]
   refine wpAnyH_done (by kernel_rfl) ?_ _
   have HWB22 := Lib.hid (HWB16.out.below HXw22.out)
   have HB22 : Hid (Below w.heap.size w w22) := Bw16.out.trans (HXw22.out.mono Bw16.out.size)
   clear KT RO1 RO2 RO3 CM1 CM2 CM3 CM4 CM5 CM6 O5 O6 HX16 HXw17 HXw18 HXw19 HXw20 HXw21 HXw22 HWB16 Bw16
   go_wp2
   go_roundw
   case rel => exact ⟨k + 1, st1, s81, _, _, _, hlt, by go_num, HWB22.out, HAG1.out, HB22.out⟩
   case measure => simp [intOf]; omega
   -->>
end Go.Proofs.YtnpkplegeddhcaaGreat
