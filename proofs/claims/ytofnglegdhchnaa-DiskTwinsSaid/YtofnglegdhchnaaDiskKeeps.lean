/-
  DiskKeeps: what was synced is there behind every failure.
  Conditions: texts, an int.
-/
import Derived.Test.YtofnglegdhchnaaDisk13
namespace Go.Proofs.Ytofnglegdhchnaa
open Go.RowKit Go.Maps Go.Sort

theorem none_app (x : ByteArray) : (⟨#[]⟩ : ByteArray) ++ x = x := by
  obtain ⟨⟨l⟩⟩ := x
  apply ByteArray.ext
  simp
theorem cut_all (y : ByteArray) : y.extract 0 y.size = y := ByteArray.extract_zero_size
theorem size_app (a b : ByteArray) : (a ++ b).size = a.size + b.size := ByteArray.size_append
theorem size_one {s x : ByteArray} {n : Int} : Maps.size (oneF s x n) ≤ 1000000 := by show 1 ≤ _; decide
theorem sf_valid : validB ⟨#[102]⟩ = true := by kernel_rfl
theorem keeps_cut (x : Int) (s m : ByteArray) : ∃ y : ByteArray, cutOf [x] 0 (s ++ m, (s.size : Nat)) = y ∧ s.size ≤ y.size ∧ y.size ≤ s.size + m.size ∧ (s ++ m).extract 0 y.size = y := by
  refine ⟨_, rfl, ?_⟩
  unfold cutOf
  have hs := size_app s m
  have h := kOf_range [x] 0 (n := ((s ++ m).size : Int) - (s.size : Nat) + 1) (by omega)
  obtain ⟨k, hk⟩ : ∃ k, kOf [x] 0 (((s ++ m).size : Int) - (s.size : Nat) + 1) = k := ⟨_, rfl⟩
  rw [hk] at h
  show s.size ≤ ((s ++ m).extract 0 (((s.size : Nat) : Int) + kOf [x] 0 (((s ++ m).size : Int) - (s.size : Nat) + 1)).toNat).size ∧ _
  rw [hk]
  have hc : ((s ++ m).extract 0 (((s.size : Nat) : Int) + k).toNat).size = (((s.size : Nat) : Int) + k).toNat := cut_size (by omega)
  have hc' : ((s ++ m, ((s.size : Nat) : Int)).1.extract 0 ((s ++ m, ((s.size : Nat) : Int)).2 + k).toNat).size = (((s.size : Nat) : Int) + k).toNat := hc
  rw [hc']
  refine ⟨by omega, by omega, ?_⟩
  rfl
theorem again_cut (y : ByteArray) : cutOf [7, 8] 0 (y, (y.size : Nat)) = y := by
  unfold cutOf
  have e : (y.size : Int) - (y.size : Nat) + 1 = 1 := by omega
  show y.extract 0 (((y.size : Nat) : Int) + kOf [7, 8] 0 ((y.size : Int) - (y.size : Nat) + 1)).toNat = y
  rw [e]
  have e2 : kOf [7, 8] 0 1 = 0 := by decide
  rw [e2, Int.add_zero, Int.toNat_natCast]
  exact cut_all y
theorem crash_off (st : Dk) (keep : List Int) (s : ByteArray) : readD (crashD st keep) s = (⟨#[]⟩, 14) := rfl

set_option maxHeartbeats 4000000 in
set_option maxRecDepth 100000 in
theorem dkeeps_walk (s m : ByteArray) (x : Int) (hx1 : -9223372036854775808 ≤ x) (hx2 : x ≤ 9223372036854775807) (w : World) :
    Calls Try.prog 3 #[.string s, .string m, .int .i64 x] w fun e w' => e = .returned (.bool true) ∧ Below w.heap.size w w' := by
  by_cases hl1 : 9000 < s.size
  · go_enter Try.func3, Try.ntmps3
    go_wp2_with fail
    refine (alive5_any _).mono ?_
    rintro e w2 ⟨rfl, hb2⟩
    have HB2 := Lib.hid hb2
    clear hb2
    go_wp2
    go_ret
    exact ⟨rfl, HB2.out⟩
  by_cases hl2 : 9000 < m.size
  · go_enter Try.func3, Try.ntmps3
    go_wp2_with fail
    refine (alive5_any _).mono ?_
    rintro e w2 ⟨rfl, hb2⟩
    have HB2 := Lib.hid hb2
    clear hb2
    go_wp2
    go_ret
    exact ⟨rfl, HB2.out⟩
  have hadd : s.size + m.size ≤ 9223372036854775807 := by omega
  have hsm := size_app s m
  have hs1 : (⟨#[102]⟩ : ByteArray).size ≤ 9223372036854775807 := by decide
  have R1 := fun (c b : Nat) w (h : DkAt c b (onD 0 (.map [])) w) => create_any c b _ (onD_ok goodF_none (by decide) (by decide) (by decide) (by decide)) ⟨#[102]⟩ hs1 w h
  rw [create_new sf_valid rfl (by decide), put_none] at R1
  have R2 := fun (c b : Nat) w (h : DkAt c b (onD 1 (oneF ⟨#[102]⟩ ⟨#[]⟩ 0)) w) => append_any c b _ (onD_ok (good_one (by decide) (by decide)) (by decide) (by decide) (by decide) (by decide)) ⟨#[102]⟩ s hs1 (by omega) w h
  rw [append_on has_one (by rw [tot_one]; show 0 + s.size ≤ 400000; omega), at_one, put_one, none_app] at R2
  have R3 := fun (c b : Nat) w (h : DkAt c b (onD 2 (oneF ⟨#[102]⟩ s 0)) w) => sync_any c b _ (onD_ok (good_one (by decide) (by omega)) (by decide) (by decide) size_one (by rw [tot_one]; omega)) ⟨#[102]⟩ hs1 w h
  rw [sync_on has_one, at_one, put_one] at R3
  have R4 := fun (c b : Nat) w (h : DkAt c b (onD 3 (oneF ⟨#[102]⟩ s (s.size : Nat))) w) => append_any c b _ (onD_ok (good_one (by omega) (by omega)) (by decide) (by decide) size_one (by rw [tot_one]; omega)) ⟨#[102]⟩ m hs1 (by omega) w h
  rw [append_on has_one (by rw [tot_one]; omega), at_one, put_one] at R4
  have ok4 : (onD 4 (oneF ⟨#[102]⟩ (s ++ m) (s.size : Nat))).Ok := onD_ok (good_one (by omega) (by omega)) (by decide) (by decide) size_one (by rw [tot_one]; omega)
  have R5 := fun (c b : Nat) (A : Option Addr) (cp : Nat) w (h : DkAt c b (onD 4 (oneF ⟨#[102]⟩ (s ++ m) (s.size : Nat))) w) hr hA => crash_any c b _ ok4 [x] A cp w h hr hA (by intro v hv; simp at hv; subst hv; exact ⟨hx1, hx2⟩) (by show 1 ≤ _; decide)
  have e5 := crashD_one (s := ⟨#[102]⟩) (x := s ++ m) (n := (s.size : Nat)) [x] 4
  obtain ⟨y, hy, hy1, hy2, hy3⟩ := keeps_cut x s m
  rw [hy] at e5
  have off5 := crash_off (onD 4 (oneF ⟨#[102]⟩ (s ++ m) (s.size : Nat))) [x] ⟨#[102]⟩
  have good5 := (crashD_ok ok4 [x]).good
  obtain ⟨D5, hD5⟩ : ∃ D5, crashD (onD 4 (oneF ⟨#[102]⟩ (s ++ m) (s.size : Nat))) [x] = D5 := ⟨_, rfl⟩
  rw [hD5] at R5 e5 off5 good5
  have R6 := fun (c b : Nat) w (h : DkAt c b D5 w) => read_any c b D5 good5 ⟨#[102]⟩ hs1 w h
  rw [off5] at R6
  have R7 := fun (c b : Nat) w (h : DkAt c b D5 w) => restore_any c b _ w h
  rw [e5] at R7
  have gy : GoodF (oneF ⟨#[102]⟩ y (y.size : Nat)) := good_one (by omega) (by omega)
  have oky : (onD 4 (oneF ⟨#[102]⟩ y (y.size : Nat))).Ok := onD_ok gy (by decide) (by decide) size_one (by rw [tot_one]; omega)
  have R8 := fun (c b : Nat) w (h : DkAt c b (onD 4 (oneF ⟨#[102]⟩ y (y.size : Nat))) w) => read_any c b _ gy ⟨#[102]⟩ hs1 w h
  rw [read_on, at_one, if_pos has_one] at R8
  have R9 := fun (c b : Nat) (A : Option Addr) (cp : Nat) w (h : DkAt c b (onD 4 (oneF ⟨#[102]⟩ y (y.size : Nat))) w) hr hA => crash_any c b _ oky [7, 8] A cp w h hr hA (by decide) (by decide)
  have e9 := crashD_one (s := ⟨#[102]⟩) (x := y) (n := (y.size : Nat)) [7, 8] 4
  rw [again_cut] at e9
  obtain ⟨D9, hD9⟩ : ∃ D9, crashD (onD 4 (oneF ⟨#[102]⟩ y (y.size : Nat))) [7, 8] = D9 := ⟨_, rfl⟩
  rw [hD9] at R9 e9
  have R10 := fun (c b : Nat) w (h : DkAt c b D9 w) => restore_any c b _ w h
  rw [e9] at R10
  have Q1 := fun c b w h => Lib.hid (R1 c b w h); have Q2 := fun c b w h => Lib.hid (R2 c b w h); have Q3 := fun c b w h => Lib.hid (R3 c b w h); have Q4 := fun c b w h => Lib.hid (R4 c b w h)
  have Q5 := fun c b A cp w h hr hA => Lib.hid (R5 c b A cp w h hr hA); have Q6 := fun c b w h => Lib.hid (R6 c b w h); have Q7 := fun c b w h => Lib.hid (R7 c b w h); have Q8 := fun c b w h => Lib.hid (R8 c b w h)
  have Q9 := fun c b A cp w h hr hA => Lib.hid (R9 c b A cp w h hr hA); have Q10 := fun c b w h => Lib.hid (R10 c b w h)
  clear R1 R2 R3 R4 R5 R6 R7 R8 R9 R10 e5 e9 hD5 hD9 ok4 off5 good5 gy oky hy hs1 hsm
  go_enter Try.func3, Try.ntmps3
  go_wp2_with fail
  refine (new_any _).mono ?_
  rintro e w1 ⟨c, b, rfl, h1, hc, hb, hb1⟩
  have HB1 := Lib.hid hb1
  have q1 := Q1 c b w1 h1
  clear hb1 h1
  go_wp2_with fail
  refine q1.out.mono ?_
  rintro e w2 ⟨rfl, h2, hm2⟩
  have HB2 := Lib.hid (Dk.there hc hb HB1.out hm2)
  have q2 := Q2 c b w2 h2
  clear h2 hm2
  go_wp2_with fail
  refine q2.out.mono ?_
  rintro e w3 ⟨rfl, h3, hm3⟩
  have HB3 := Lib.hid (Dk.there hc hb HB2.out hm3)
  have q3 := Q3 c b w3 h3
  clear h3 hm3
  go_wp2_with fail
  refine q3.out.mono ?_
  rintro e w4 ⟨rfl, h4, hm4⟩
  have HB4 := Lib.hid (Dk.there hc hb HB3.out hm4)
  have q4 := Q4 c b w4 h4
  clear h4 hm4
  go_wp2_with fail
  refine q4.out.mono ?_
  rintro e w5 ⟨rfl, h5, hm5⟩
  have HB5 := Lib.hid (Dk.there hc hb HB4.out hm5)
  have hlc := h5.lt
  have hlb := h5.ltb
  have q5 := Q5 c b (some ⟨w5.heap.size, 0, none⟩) 1 (w5.alloc (.cells #[.int .i64 x] 3)) (h5.alloc _) (reads_newV _ _ _ _ rfl rfl rfl (by simp)) (fun _ ad e => by injection e with e; subst e; refine ⟨?_, ?_, ?_⟩ <;> simp <;> omega)
  clear h5 hm5
  go_wp2_with fail
  refine q5.out.mono ?_
  rintro e w6 ⟨rfl, h6, hm6⟩
  have HB6 := Lib.hid (Dk.there hc hb (HB5.out.alloc HB5.out.size _) hm6)
  have q6 := Q6 c b w6 h6
  have HK6 := Lib.hid h6
  clear h6 hm6
  go_wp2_with fail
  refine q6.out.mono ?_
  rintro e w7 ⟨rfl, hb7⟩
  have HB7 := Lib.hid (HB6.out.trans (hb7.mono HB6.out.size))
  have q7 := Q7 c b w7 (HK6.out.below hb7 HK6.out.lt HK6.out.ltb)
  clear hb7
  go_wp2_with fail
  refine q7.out.mono ?_
  rintro e w8 ⟨rfl, h8, hm8⟩
  have HB8 := Lib.hid (Dk.there1 hc HB7.out hm8)
  have q8 := Q8 c b w8 h8
  have HK8 := Lib.hid h8
  clear h8 hm8
  go_wp2_with fail
  refine q8.out.mono ?_
  rintro e w9 ⟨rfl, hb9⟩
  have HB9 := Lib.hid (HB8.out.trans (hb9.mono HB8.out.size))
  have h9 := HK8.out.below hb9 HK8.out.lt HK8.out.ltb
  have hlc9 := h9.lt
  have hlb9 := h9.ltb
  have q9 := Q9 c b (some ⟨w9.heap.size, 0, none⟩) 2 (w9.alloc (.cells #[.int .i64 7, .int .i64 8] 3)) (h9.alloc _) (reads_newV _ _ _ _ rfl rfl rfl (by simp)) (fun _ ad e => by injection e with e; subst e; refine ⟨?_, ?_, ?_⟩ <;> simp <;> omega)
  clear hb9 h9
  go_wp2_with fail
  refine q9.out.mono ?_
  rintro e w10 ⟨rfl, h10, hm10⟩
  have HB10 := Lib.hid (Dk.there hc hb (HB9.out.alloc HB9.out.size _) hm10)
  have q10 := Q10 c b w10 h10
  clear h10 hm10
  go_wp2_with fail
  refine q10.out.mono ?_
  rintro e w11 ⟨rfl, h11, hm11⟩
  have HB11 := Lib.hid (Dk.there1 hc HB10.out hm11)
  have q11 := Q8 c b w11 h11
  clear h11 hm11
  go_wp2_with fail
  refine q11.out.mono ?_
  rintro e w12 ⟨rfl, hb12⟩
  have HB12 := Lib.hid (HB11.out.trans (hb12.mono HB11.out.size))
  clear hb12
  go_wp2_with fail
  refine (alive5_any _).mono ?_
  rintro e w13 ⟨rfl, hb13⟩
  have HB13 := Lib.hid (HB12.out.trans (hb13.mono HB12.out.size))
  clear hb13
  go_wp2
  go_ret
  exact ⟨rfl, HB13.out⟩
end Go.Proofs.Ytofnglegdhchnaa
