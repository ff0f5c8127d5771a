/-
  Chapter 3's alive (a first call whose answer the document fixes) as a contract; one number, one text put.
  Conditions: none.
-/
import Derived.Test.YtfjdcmhhnknojaaWire5
namespace Go.Proofs.Ytfjdcmhhnknojaa
open Go.RowKit

theorem alive3_st : ([([65] : List UInt8)].foldl Wire.stText (([0, -1, 1, 64] : List Int).foldl Wire.stNum (0, []))) = (0, [0, 1, 2, 128, 1, 2, 65]) := by decide +kernel
theorem alive3_rd : rdNum ⟨#[128, 0]⟩ ⟨0, 0⟩ = (0, ⟨4, 0⟩) := by kernel_rfl

set_option maxHeartbeats 1000000 in
set_option maxRecDepth 100000 in
theorem alive3_any (w : World) :
    Calls Try.prog 10 #[] w fun e w' => e = .returned (.bool true) ∧ Below w.heap.size w w' := by
  go_enter Try.func10, Try.ntmps10
  go_wp2_with fail
  refine (newWriter_any _).mono ?_
  rintro e w1 ⟨rfl, hw1, hb1⟩
  have hz1 := hb1.size
  have hl1 := hw1.lt
  have hm1 : Mv [] [w.heap.size] w w1 := .of_new hb1 (by simp)
  have HW1 := Lib.hid hw1; clear hw1
  go_wp2_with fail
  refine (nums_any w.heap.size _ (0, []) [0, -1, 1, 64] _ _ (w1.heap.size + 1) _ (HW1.out.keep (fun k hk => Below.heap_alloc _ _ _ (HW1.out.there k hk)))
    (reads_newV w1 (ints [0, -1, 1, 64]) 3 _ rfl rfl rfl (Nat.lt_succ_self _)) (by intro ad h _; injection h with h; subst h; simp; omega) (by simp) (by simp)).mono ?_
  rintro e w2 ⟨rfl, S2, hw2, hf2⟩
  have hz2 := hf2.size
  simp only [World.size_alloc] at hz2
  have hm2 : Mv [] S2 w w2 := (hm1.alloc _).trans hf2
  have hl2 := hw2.there
  have HW2 := Lib.hid hw2; clear hw2 hf2 hb1 hm1
  go_wp2_with fail
  refine (texts_any w.heap.size S2 _ [⟨#[65]⟩] _ _ (w2.heap.size + 1) _ (HW2.out.keep (fun k hk => Below.heap_alloc _ _ _ (HW2.out.there k hk)))
    (reads_newV w2 (strs [⟨#[65]⟩]) 9 _ rfl rfl rfl (Nat.lt_succ_self _)) (by intro ad h _; injection h with h; subst h; exact ⟨fun h => Nat.lt_irrefl _ (hl2 _ h), by simp⟩) (by have := Wire.stNum_len (0, []) [0, -1, 1, 64]; simp at this ⊢; omega) (by simp; decide)).mono ?_
  rintro e w3 ⟨rfl, S3, hw3, hf3⟩
  have hz3 := hf3.size
  simp only [World.size_alloc] at hz3
  have hm3 : Mv [] S3 w w3 := (hm2.alloc _).trans hf3
  have hb3 : Below w.heap.size w w3 := hm3.below (by simp) (Nat.le_refl _)
  have e1 : ([(⟨#[65]⟩ : ByteArray)].map (·.data.toList)).foldl Wire.stText (([0, -1, 1, 64] : List Int).foldl Wire.stNum (0, [])) = (0, [0, 1, 2, 128, 1, 2, 65]) := alive3_st
  rw [e1] at hw3
  have HW3 := Lib.hid hw3; clear hw3 hf3 hm2 hm3 e1 hl2
  go_wp2_with fail
  refine (bytes_ok w.heap.size S3 _ _ HW3.out).mono ?_
  rintro e w3' ⟨rfl, rfl⟩
  go_wp2_with fail
  refine (newReader_any _ _ (by decide)).mono ?_
  rintro e w4 ⟨g, rfl, hg, hr4, hb4⟩
  have hb4' : Below w.heap.size w w4 := hb3.trans (hb4.mono (by omega))
  have hz4 := hb4.size
  have HR4 := Lib.hid hr4; clear hr4 hb3 hb4
  go_wp2_with fail
  refine (rNum_any g ⟨#[128, 0]⟩ ⟨0, 0⟩ _ HR4.out (by decide) (by decide)).mono ?_
  rw [alive3_rd]
  rintro e w5 ⟨rfl, hr5, hf5⟩
  have hb5 : Below w.heap.size w w5 := hb4'.trans (hf5.below (by simpa using by omega) (by omega))
  have c5 : w5.cell? ⟨g, 0, none⟩ = some (.int .i64 4) := hr5.cell0
  clear hf5 hb4' hr5
  go_wp2_with (go_at_call 17; refine (wrong_any g 4 _ c5).mono ?_; rintro e w6 ⟨rfl, rfl⟩)
  go_ret
  exact ⟨rfl, hb5⟩
end Go.Proofs.Ytfjdcmhhnknojaa
