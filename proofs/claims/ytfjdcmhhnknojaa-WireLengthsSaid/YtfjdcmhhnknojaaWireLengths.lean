/-
  The walk of WireLengths: a number takes as many bytes as it has groups of seven bits, doubled; a text its length and its bytes.
  Conditions: an int; a text within what a string may have.
-/
import Derived.Test.YtfjdcmhhnknojaaWire6
namespace Go.Proofs.Ytfjdcmhhnknojaa
open Go.RowKit

theorem zz_nat (n : Nat) : Wire.zz (n : Int) = 2 * n := by unfold Wire.zz; rw [if_pos (by omega)]; omega
theorem enc_short {n : Nat} (h : n < 128) : (Wire.enc n).length = 1 := by unfold Wire.enc; rw [Wire.encF_small h]; rfl
theorem enc_two {n : Nat} (h1 : ¬ n < 128) (h2 : n < 16384) : (Wire.enc n).length = 2 := by
  unfold Wire.enc
  rw [Wire.encF_more h1, Wire.encF_small (by omega)]; rfl

set_option maxHeartbeats 1000000 in
set_option maxRecDepth 100000 in
theorem lengths_walk (v : Int) (h1 : -9223372036854775808 ≤ v) (h2 : v ≤ 9223372036854775807) (s : ByteArray) (hs : s.size ≤ 9223372036854775807) (w : World) :
    Calls Try.prog 3 #[.int .i64 v, .string s] w fun e w' => e = .returned (.bool true) ∧ Below w.heap.size w w' := by
  by_cases hlong : 1000 < s.size
  · go_enter Try.func3, Try.ntmps3
    go_wp2_with fail
    refine (alive3_any _).mono ?_
    rintro e w2 ⟨rfl, hb2⟩
    go_wp2
    go_ret
    exact ⟨rfl, hb2⟩
  · obtain ⟨Z, HZ⟩ : ∃ Z : Nat, Hid (Wire.zz v = Z) := ⟨_, rfl⟩
    have hZ : Z < 2 * 128 ^ 9 := by rw [← HZ.out, ← Wire.two64]; exact Wire.zz_lt h1 h2
    have HZ2 := Lib.hid hZ; clear hZ
    go_enter Try.func3, Try.ntmps3
    go_wp2_with fail
    refine (newWriter_any _).mono ?_
    rintro e w1 ⟨rfl, hw1, hb1⟩
    have hz1 := hb1.size
    have hm1 : Mv [] [w.heap.size] w w1 := .of_new hb1 (by simp)
    have hl1 := hw1.lt
    have HW1 := Lib.hid hw1; clear hw1
    go_wp2_with fail
    refine (newWriter_any _).mono ?_
    rintro e w2 ⟨rfl, hx2, hb2⟩
    have hz2 := hb2.size
    have HW2 := Lib.hid (HW1.out.keep (fun k hk => hb2.block k (HW1.out.there k hk)))
    have HX2 := Lib.hid hx2
    have hlx := hx2.lt
    have hm2 : Mv [] [w.heap.size] w w2 := hm1.trans (.of_new hb2 (by simp))
    clear hx2 hb1 hb2 HW1 hm1
    go_wp2_with fail
    refine (nums_any w.heap.size _ (0, []) [v] _ _ (w2.heap.size + 1) _ (HW2.out.keep (fun k hk => Below.heap_alloc _ _ _ (HW2.out.there k hk)))
      (reads_newV w2 (ints [v]) 3 _ rfl rfl rfl (Nat.lt_succ_self _)) (by intro ad h; injection h with h; subst h; simp; omega) (by simp) (by intro x hx; simp at hx; subst hx; exact ⟨h1, h2⟩)).mono ?_
    rintro e w3 ⟨rfl, S3, hw3, hf3⟩
    have hz3 := hf3.size
    simp only [World.size_alloc] at hz3
    have hm3 : Mv [] S3 w w3 := (hm2.alloc _).trans hf3
    have e1 : ([v] : List Int).foldl Wire.stNum (0, []) = (0, Wire.enc Z) := by rw [Wire.stNum_ok, Wire.wNums_eq]; simp [HZ.out]
    rw [e1] at hw3
    have HX3 := Lib.hid (HX2.out.keep (fun k hk => (hf3.block k (by have := HX2.out.there k hk; simp; omega) (by simp at hk ⊢; omega)).trans (Below.heap_alloc _ _ _ (HX2.out.there k hk))))
    have HW3 := Lib.hid hw3; clear hw3 hf3 hm2 e1 HX2
    go_wp2_with fail
    refine (bytes_ok w.heap.size S3 _ _ HW3.out).mono ?_
    obtain ⟨b, hb⟩ : ∃ b : ByteArray, b = ⟨(Wire.enc Z).toArray⟩ := ⟨_, rfl⟩
    have hbs : b.size = (Wire.enc Z).length := by rw [hb]; simp [ByteArray.size]
    rw [← hb]
    rintro e w3' ⟨rfl, rfl⟩
    clear HW3 HW2 hb
    have Hbs := Lib.hid hbs; clear hbs
    by_cases hs0 : 0 ≤ v
    all_goals
      go_wp2
      first
        | rw [zz_pos v hs0 h2]
        | rw [zz_neg v (by omega) h1]
      rw [HZ.out]
      clear hs0 h1 h2
      go_loopw [9, 10] (fun n u wr => ∃ (m d : Nat), n = .int .i64 ((d + 1 : Nat) : Int) ∧ u = .int .u64 m ∧ d ≤ 9 ∧ Hid (m < 2 * 128 ^ (9 - d)) ∧ Hid (d + (Wire.encF (9 - d) m).length = b.size) ∧ wr = w3) (fun _ u _ => (intOf u).toNat)
      case atStart => exact ⟨Z, 0, rfl, rfl, by omega, HZ2.out, by show _ = _; rw [Hbs.out]; simp [Wire.enc], rfl⟩
      case round =>
        obtain ⟨m, d, rfl, rfl, hd, HM, HE, rfl⟩ := hrel
        by_cases hm128 : m < 128
        · have hbsz : b.size = d + 1 := by
            have h1 := HE.out
            rw [Wire.encF_small hm128] at h1
            simp at h1; omega
          clear HE Hbs HM
          obtain ⟨x, Hx⟩ : ∃ x : Wire.St, Hid (([s].map (·.data.toList)).foldl Wire.stText (0, []) = x) := ⟨_, rfl⟩
          go_wp2_with fail
          refine (texts_any w1.heap.size _ (0, []) [s] _ _ (wr.heap.size + 1) _ (HX3.out.keep (fun k hk => Below.heap_alloc _ _ _ (HX3.out.there k hk)))
            (reads_newV wr (strs [s]) 9 _ rfl rfl rfl (Nat.lt_succ_self _)) (by intro ad h; injection h with h; subst h; simp; omega) (by simp) (by intro x hx; simp at hx; subst hx; exact hs)).mono ?_
          rw [Hx.out]
          rintro e w4 ⟨rfl, S4, hw4, hf4⟩
          have hz4 := hf4.size
          simp only [World.size_alloc] at hz4
          have hb4 : Below w.heap.size wr w4 := (((Mv.refl _ wr).alloc _).trans hf4).below (by simp; omega) (by omega)
          have hb5 : Below w.heap.size w w4 := (hm3.below (by simp) (Nat.le_refl _)).trans hb4
          have hx1 : x.1 = 0 := by rw [← Hx.out]; simp [Wire.stText, hlong]
          have hx2 : x.2.length = s.size + (Wire.enc (2 * s.size)).length := by
            rw [← Hx.out]; simp [Wire.stText, hlong, Wire.wNum, zz_nat]; omega
          rw [hx1] at hw4
          have HW4 := Lib.hid hw4; clear hw4 hb4 hf4
          go_wp2_with fail
          refine (bytes_ok w1.heap.size S4 _ _ HW4.out).mono ?_
          obtain ⟨c, hc⟩ : ∃ c : ByteArray, c = ⟨x.2.toArray⟩ := ⟨_, rfl⟩
          have hcs : c.size = x.2.length := by rw [hc]; simp [ByteArray.size]
          rw [hx2] at hcs
          rw [← hc]
          rintro e w4' ⟨rfl, rfl⟩
          clear HW4 hc hx2 hx1 Hx
          by_cases h63 : s.size < 64
          · rw [enc_short (by omega)] at hcs
            go_wp2_with (go_at_call 10; refine (alive3_any _).mono ?_; rintro e w5 ⟨rfl, hb6⟩)
            go_ret
            exact ⟨rfl, hb5.trans (hb6.mono (by omega))⟩
          · rw [enc_two (by omega) (by omega)] at hcs
            go_wp2_with (go_at_call 10; refine (alive3_any _).mono ?_; rintro e w5 ⟨rfl, hb6⟩)
            go_ret
            exact ⟨rfl, hb5.trans (hb6.mono (by omega))⟩
        · have hd8 : d < 9 := by
            rcases Nat.lt_or_ge d 9 with h | h
            · exact h
            · have := HM.out; rw [show 9 - d = 0 from by omega] at this; omega
          go_wp2
          go_roundw
          case rel =>
            refine ⟨m / 128, d + 1, by go_num, by go_num, by omega, ?_, ?_, trivial⟩
            · show _ < _
              have h1 := HM.out
              rw [show 9 - d = (9 - (d + 1)) + 1 from by omega, Nat.pow_succ] at h1
              omega
            · show _ = _
              have h1 := HE.out
              rw [show 9 - d = (9 - (d + 1)) + 1 from by omega, Wire.encF_more hm128] at h1
              rw [List.length_cons] at h1
              omega
          case measure => simp [intOf]; omega
end Go.Proofs.Ytfjdcmhhnknojaa
