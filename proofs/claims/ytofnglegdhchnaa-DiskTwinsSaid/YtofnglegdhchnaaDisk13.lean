/-
  Chapter 5's first call.
-/
import Derived.Test.YtofnglegdhchnaaDisk12
namespace Go.Proofs.Ytofnglegdhchnaa
open Go.RowKit Go.Maps Go.Sort

def sa : ByteArray := ⟨#[97]⟩
theorem alive_cut : cutOf [1] 0 (⟨#[120, 121, 122, 122]⟩, 2) = ⟨#[120, 121, 122]⟩ := by kernel_rfl
theorem sa_valid : validB ⟨#[97]⟩ = true := by kernel_rfl
set_option maxHeartbeats 4000000 in
set_option maxRecDepth 100000 in
theorem alive5_any (w : World) : Calls Try.prog 9 #[] w fun e w' => e = .returned (.bool true) ∧ Below w.heap.size w w' := by
  have g0 : GoodF (.map []) := goodF_none
  have hs1 : (⟨#[97]⟩ : ByteArray).size ≤ 9223372036854775807 := by decide
  have hs2 : (⟨#[98]⟩ : ByteArray).size ≤ 9223372036854775807 := by decide
  have R1 := fun (c b : Nat) w (h : DkAt c b (onD 0 (.map [])) w) => create_any c b _ (onD_ok g0 (by decide) (by decide) (by decide) (by decide)) ⟨#[97]⟩ hs1 w h
  rw [create_new sa_valid rfl (by decide), put_none] at R1
  have g1 : GoodF (oneF ⟨#[97]⟩ ⟨#[]⟩ 0) := good_one (by decide) (by decide)
  have R2 := fun (c b : Nat) w (h : DkAt c b (onD 1 (oneF ⟨#[97]⟩ ⟨#[]⟩ 0)) w) => append_any c b _ (onD_ok g1 (by decide) (by decide) (by decide) (by decide)) ⟨#[97]⟩ ⟨#[120, 121]⟩ hs1 (by decide) w h
  rw [append_on has_one (by rw [tot_one]; decide), at_one, put_one] at R2
  have g2 : GoodF (oneF ⟨#[97]⟩ ⟨#[120, 121]⟩ 0) := good_one (by decide) (by decide)
  have R3 := fun (c b : Nat) w (h : DkAt c b (onD 2 (oneF ⟨#[97]⟩ ⟨#[120, 121]⟩ 0)) w) => sync_any c b _ (onD_ok g2 (by decide) (by decide) (by decide) (by decide)) ⟨#[97]⟩ hs1 w h
  rw [sync_on has_one, at_one, put_one] at R3
  have g3 : GoodF (oneF ⟨#[97]⟩ ⟨#[120, 121]⟩ 2) := good_one (by decide) (by decide)
  have R4 := fun (c b : Nat) w (h : DkAt c b (onD 3 (oneF ⟨#[97]⟩ ⟨#[120, 121]⟩ 2)) w) => append_any c b _ (onD_ok g3 (by decide) (by decide) (by decide) (by decide)) ⟨#[97]⟩ ⟨#[122, 122]⟩ hs1 (by decide) w h
  rw [append_on has_one (by rw [tot_one]; decide), at_one, put_one] at R4
  have g4 : GoodF (oneF ⟨#[97]⟩ ⟨#[120, 121, 122, 122]⟩ 2) := good_one (by decide) (by decide)
  have ok4 : (onD 4 (oneF ⟨#[97]⟩ ⟨#[120, 121, 122, 122]⟩ 2)).Ok := onD_ok g4 (by decide) (by decide) (by decide) (by decide)
  have R5 := fun (c b : Nat) (A : Option Addr) (cp : Nat) w (h : DkAt c b (onD 4 (oneF ⟨#[97]⟩ ⟨#[120, 121, 122, 122]⟩ 2)) w) hr hA => crash_any c b _ ok4 [1] A cp w h hr hA (by decide) (by decide)
  obtain ⟨D5, hD5⟩ : ∃ D5, crashD (onD 4 (oneF ⟨#[97]⟩ ⟨#[120, 121, 122, 122]⟩ 2)) [1] = D5 := ⟨_, rfl⟩
  have ok5 : D5.Ok := by rw [← hD5]; exact crashD_ok ok4 [1]
  have off5 : D5.on = false := by rw [← hD5]; rfl
  have R6 := fun (c b : Nat) w (h : DkAt c b D5 w) => create_any c b _ ok5 ⟨#[98]⟩ hs2 w h
  have e6 : createD D5 ⟨#[98]⟩ = (14, D5) := by unfold createD doD; rw [if_neg (by rw [off5]; decide)]
  rw [e6] at R6
  have R7 := fun (c b : Nat) w (h : DkAt c b D5 w) => restore_any c b _ w h
  have e7 : restoreD D5 = onD 4 (oneF ⟨#[97]⟩ ⟨#[120, 121, 122]⟩ 3) := by rw [← hD5, crashD_one, alive_cut]; rfl
  rw [e7] at R7
  have R8 := fun (c b : Nat) w (h : DkAt c b (onD 4 (oneF ⟨#[97]⟩ ⟨#[120, 121, 122]⟩ 3)) w) => read_any c b _ (good_one (by decide) (by decide)) ⟨#[97]⟩ hs1 w h
  rw [read_on, at_one, if_pos has_one] at R8
  rw [hD5] at R5
  have Q1 := fun c b w h => Lib.hid (R1 c b w h); have Q2 := fun c b w h => Lib.hid (R2 c b w h); have Q3 := fun c b w h => Lib.hid (R3 c b w h); have Q4 := fun c b w h => Lib.hid (R4 c b w h)
  have Q5 := fun c b A cp w h hr hA => Lib.hid (R5 c b A cp w h hr hA); have Q6 := fun c b w h => Lib.hid (R6 c b w h); have Q7 := fun c b w h => Lib.hid (R7 c b w h); have Q8 := fun c b w h => Lib.hid (R8 c b w h)
  clear R1 R2 R3 R4 R5 R6 R7 R8 e6 e7 hD5 ok5 off5 ok4 g0 g1 g2 g3 g4
  go_enter Try.func9, Try.ntmps9
  go_wp2_with fail
  refine (new_any _).mono ?_
  rintro e w1 ⟨c, b, rfl, h1, hc, hb, hb1⟩
  have HB1 := Lib.hid hb1
  have HK1 := Lib.hid h1
  clear hb1
  go_wp2_with fail
  refine (on_any c b _ w1 h1).mono ?_
  rintro e w1' ⟨rfl, rfl⟩
  have q1 := Q1 c b w1 h1
  clear h1
  go_wp2_with fail
  refine q1.out.mono ?_
  rintro e w2 ⟨rfl, h2, hm2⟩
  have HB2 := Lib.hid (Dk.there hc hb HB1.out hm2)
  have q2 := Q2 c b w2 h2
  clear h2 hm2
  go_wp2_with fail
  refine q2.out.mono ?_
  rintro e w3 ⟨rfl, h3, hm3⟩
  have HB3 := Lib.hid (Dk.there hc hb HB2.out hm3)
  have q3 := Q3 c b w3 h3
  clear h3 hm3
  go_wp2_with fail
  refine q3.out.mono ?_
  rintro e w4 ⟨rfl, h4, hm4⟩
  have HB4 := Lib.hid (Dk.there hc hb HB3.out hm4)
  have q4 := Q4 c b w4 h4
  clear h4 hm4
  go_wp2_with fail
  refine q4.out.mono ?_
  rintro e w5 ⟨rfl, h5, hm5⟩
  have HB5 := Lib.hid (Dk.there hc hb HB4.out hm5)
  have hlc := h5.lt
  have hlb := h5.ltb
  have q5 := Q5 c b (some ⟨w5.heap.size, 0, none⟩) 1 (w5.alloc (.cells #[.int .i64 1] 3)) (h5.alloc _) (reads_newV _ _ _ _ rfl rfl rfl (by simp)) (fun _ ad e => by injection e with e; subst e; refine ⟨?_, ?_, ?_⟩ <;> simp <;> omega)
  clear h5 hm5
  go_wp2_with fail
  refine q5.out.mono ?_
  rintro e w6 ⟨rfl, h6, hm6⟩
  have HB6 := Lib.hid (Dk.there hc hb (HB5.out.alloc HB5.out.size _) hm6)
  have q6 := Q6 c b w6 h6
  clear h6 hm6
  go_wp2_with fail
  refine q6.out.mono ?_
  rintro e w7 ⟨rfl, h7, hm7⟩
  have HB7 := Lib.hid (Dk.there hc hb HB6.out hm7)
  have q7 := Q7 c b w7 h7
  clear h7 hm7
  go_wp2_with fail
  refine q7.out.mono ?_
  rintro e w8 ⟨rfl, h8, hm8⟩
  have HB8 := Lib.hid (Dk.there1 hc HB7.out hm8)
  have q8 := Q8 c b w8 h8
  have HK8 := Lib.hid h8
  clear h8 hm8
  go_wp2_with fail
  refine q8.out.mono ?_
  rintro e w9 ⟨rfl, hb9⟩
  have HB9 := Lib.hid (HB8.out.trans (hb9.mono HB8.out.size))
  have h9 := HK8.out.below hb9 HK8.out.lt HK8.out.ltb
  clear hb9
  go_wp2_with fail
  refine (ops_any c b _ w9 h9).mono ?_
  rintro e w9' ⟨rfl, rfl⟩
  go_wp2
  go_ret
  exact ⟨rfl, HB9.out⟩
end Go.Proofs.Ytofnglegdhchnaa
