/-
  The walk of WireOneWay: numbers that are read without an error are laid by a writer as they stood.
  Conditions: a text within what a string may have.
-/
import Derived.Test.YtfjdcmhhnknojaaWire7
namespace Go.Proofs.Ytfjdcmhhnknojaa
open Go.RowKit

/-- What a number tells that is read at a place, and what is laid of it. -/
theorem oneway_num (b : ByteArray) (k : Nat) (hk : k ≤ b.size) :
    (∃ x : Int, x ≠ 0 ∧ rdNum b ⟨0, k⟩ = (0, ⟨x, k⟩)) ∨
    (∃ (v : Int) (k' : Nat), rdNum b ⟨0, k⟩ = (v, ⟨0, k'⟩) ∧ Wire.stNum (0, b.data.toList.take k) v = (0, b.data.toList.take k') ∧ k' ≤ b.size ∧ -9223372036854775808 ≤ v ∧ v ≤ 9223372036854775807) := by
  have hl := len_data b
  cases hd : Wire.dec 0 0 (b.data.toList.drop k) with
  | error x =>
    left
    refine ⟨x, ?_, ?_⟩
    · rcases Wire.dec_err _ _ _ _ hd with rfl | rfl <;> decide
    · have hx : (x : Int) ≠ 0 := by rcases Wire.dec_err _ _ _ _ hd with rfl | rfl <;> decide
      unfold rdNum
      rw [numTells_err hd, if_neg (by simp), if_pos hx]
  | ok p =>
    right
    obtain ⟨N, m⟩ := p
    obtain ⟨h1, h2, h3, h4⟩ := Wire.enc_dec0 hd
    have hr := Wire.unzz_range h4
    refine ⟨Wire.unzz N, k + m, ?_, ?_, ?_, hr.1, hr.2⟩
    · unfold rdNum
      rw [numTells_ok hd, if_neg (by simp), if_neg (by simp)]
    · unfold Wire.stNum Wire.wNum
      rw [if_pos rfl, Wire.zz_unzz, ← h3, List.take_add]
    · rw [List.length_drop, hl] at h2; omega
theorem cut_to (b : ByteArray) (k : Nat) : b.extract 0 k = ⟨(b.data.toList.take k).toArray⟩ := by
  apply ByteArray.ext
  apply Array.ext'
  simp

set_option maxHeartbeats 2000000 in
set_option maxRecDepth 100000 in
theorem oneway_walk (b : ByteArray) (hs : b.size ≤ 9223372036854775807) (w : World) :
    Calls Try.prog 4 #[.string b] w fun e w' => e = .returned (.bool true) ∧ Below w.heap.size w w' := by
  by_cases hlong : 3000 < b.size
  · go_enter Try.func4, Try.ntmps4
    go_wp2_with fail
    refine (alive3_any _).mono ?_
    rintro e w2 ⟨rfl, hb2⟩
    go_wp2
    go_ret
    exact ⟨rfl, hb2⟩
  · go_enter Try.func4, Try.ntmps4
    go_wp2_with fail
    refine (newReader_any _ _ (by omega)).mono ?_
    rintro e1 w1 ⟨g, rfl, hg, hr1, hb1⟩
    have hz1 := hb1.size
    have hlr := hr1.lt
    have HR1 := Lib.hid hr1; clear hr1
    go_wp2_with fail
    refine (newWriter_any _).mono ?_
    rintro e1 w2 ⟨rfl, hw2, hb2⟩
    have hz2 := hb2.size
    have hR2 := Lib.hid (HR1.out.below hb2)
    have hb3 : Below w.heap.size w w2 := hb1.trans (hb2.mono hz1)
    have hgw : g ≠ w1.heap.size := by omega
    have HW2 := Lib.hid hw2; clear hw2 hb1 hb2 HR1
    have hgS : g ∉ [w1.heap.size] := by simp; omega
    have hlow0 : ∀ k, k ∈ [w1.heap.size] → w.heap.size ≤ k := by intro k hk; simp at hk; omega
    go_wp2
    go_loopw [5] (fun i wr => ∃ (j k : Nat) (x : Int) (S : List Nat), j ≤ 3000 ∧ i = .int .i64 j ∧ k ≤ b.size ∧ Hid (RdAt g x b k wr) ∧ Hid (WrAt w1.heap.size S 0 (b.data.toList.take k) wr) ∧ Hid (Below w.heap.size w wr) ∧ g ∉ S ∧ (∀ k, k ∈ S → w.heap.size ≤ k) ∧ g < wr.heap.size) (fun i _ => 3000 - (intOf i).toNat)
    case atStart => exact ⟨0, 0, 0, _, by omega, rfl, Nat.zero_le _, hR2.out, HW2.out, hb3, hgS, hlow0, by omega⟩
    case round =>
      obtain ⟨j, k, x, S, hj, rfl, hk, HR, HW, HB, hgS, hlow, hgl⟩ := hrel
      have hsz := HB.out.size
      clear hlow0 hb3 HW2 hR2
      have hcases : (j < 3000 ∧ k < b.size ∧ x = 0) ∨ (j < 3000 ∧ k < b.size ∧ x ≠ 0) ∨ (j < 3000 ∧ ¬ k < b.size) ∨ ¬ j < 3000 := by omega
      have hblen := len_data b
      have Hblen := Lib.hid hblen; clear hblen
      rcases hcases with hc | hc | hc | hc
      · obtain ⟨hj3, hkb, rfl⟩ := hc
        have hlpos : (0 : Int) < ((b.size - k : Nat) : Int) := by omega
        go_wp2_with fail
        refine (left_any g 0 b k _ HR.out hk (by omega)).mono ?_
        rintro e w3 ⟨rfl, q, rfl⟩
        have cr := (HR.out.drewN q).cell0
        go_wp2_with fail
        refine (wrong_any g 0 _ cr).mono ?_
        rintro e w3 ⟨rfl, rfl⟩
        go_wp2_with fail
        refine (rNum_any g b ⟨0, k⟩ _ (HR.out.drewN q) hk (by omega)).mono ?_
        have hw3 : WrAt w1.heap.size S 0 (b.data.toList.take k) (wr.drewN q) := HW.out.drewN q
        have hb3' : Below w.heap.size w (wr.drewN q) := drewN_below HB.out q
        rcases oneway_num b k hk with ⟨x, hx, hn⟩ | ⟨v, k', hn, hst, hk', hv1, hv2⟩
        · rw [hn]
          have hxb : (x == 0) = false := by simp [hx]
          have Hhn := Lib.hid hn; clear hn
          have Hx := Lib.hid hx; clear hx
          rintro e w4 ⟨rfl, hr4, hm4⟩
          have hz4 := hm4.size
          have hw4 := hw3.aside hm4 (fun k hk => not_mem_one hgS hk)
          have hb4 := hb3'.trans (hm4.below (by simp; omega) (by simp; omega))
          have c4 := hr4.cell0
          have HR4 := Lib.hid hr4; clear hr4
          have HW4 := Lib.hid hw4; clear hw4
          have HB4 := Lib.hid hb4; clear hb4
          go_wp2_with fail
          refine (wrong_any g x _ c4).mono ?_
          rintro e w4' ⟨rfl, rfl⟩
          go_wp2
          go_roundw
          case rel => exact ⟨j + 1, k, x, S, by omega, by go_num, hk, HR4.out, HW4.out, HB4.out, hgS, hlow, HR4.out.lt⟩
          case measure => simp [intOf]; omega
        · rw [hn]
          have Hhn := Lib.hid hn; clear hn
          have Hst := Lib.hid hst; clear hst
          rintro e w4 ⟨rfl, hr4, hm4⟩
          have hz4 := hm4.size
          have hw4 := hw3.aside hm4 (fun k hk => not_mem_one hgS hk)
          have hb4 := hb3'.trans (hm4.below (by simp; omega) (by simp; omega))
          have c4 := hr4.cell0
          have hl4 := hr4.lt
          have HR4 := Lib.hid hr4; clear hr4
          have HW4 := Lib.hid hw4; clear hw4
          have HB4 := Lib.hid hb4; clear hb4
          go_wp2_with fail
          refine (wrong_any g 0 _ c4).mono ?_
          rintro e w4' ⟨rfl, rfl⟩
          go_wp2_with fail
          refine (num1_any w1.heap.size S (0, b.data.toList.take k) v hv1 hv2 _ _ _ rfl HW4.out (by simp; have := Hblen.out; omega)).mono ?_
          rw [Hst.out]
          rintro e w5 ⟨rfl, S5, hw5, hm5⟩
          have hz5 := hm5.size
          have hr5 := HR4.out.aside hm5 hgS
          have hb5 := HB4.out.trans (hm5.below hlow (by have := HB4.out.size; omega))
          have hg5 := hm5.out hgS hl4
          have hlow5 := hm5.low hlow (by have := HB4.out.size; omega)
          have HR5 := Lib.hid hr5; clear hr5
          have HW5 := Lib.hid hw5; clear hw5
          have HB5 := Lib.hid hb5; clear hb5
          go_wp2
          go_roundw
          case rel => exact ⟨j + 1, k', 0, S5, by omega, by go_num, hk', HR5.out, HW5.out, HB5.out, hg5, hlow5, HR5.out.lt⟩
          case measure => simp [intOf]; omega
      case' inr.inl =>
        obtain ⟨hj3, hkb, hx0⟩ := hc
        have hxb : (x == 0) = false := by simp [hx0]
        have hlpos : (0 : Int) < ((b.size - k : Nat) : Int) := by omega
        go_wp2_with fail
        refine (left_any g x b k _ HR.out hk (by omega)).mono ?_
        rintro e w3 ⟨rfl, q, rfl⟩
        have cr := (HR.out.drewN q).cell0
        have Hx0 := Lib.hid hx0; clear hx0
        go_wp2_with fail
        refine (wrong_any g x _ cr).mono ?_
        rintro e w3 ⟨rfl, rfl⟩
        go_wp2_with fail
        clear hlpos hxb cr
      case' inr.inr.inl =>
        obtain ⟨hj3, hkb⟩ := hc
        have hlz : ((b.size - k : Nat) : Int) = 0 := by omega
        go_wp2_with fail
        refine (left_any g x b k _ HR.out hk (by omega)).mono ?_
        rintro e w3 ⟨rfl, q, rfl⟩
        go_wp2_with fail
        clear hlz
      case' inr.inr.inr =>
        go_wp2_with fail
      all_goals
        refine (bytes_ok w1.heap.size S _ _ (by first | exact HW.out | exact HW.out.drewN _)).mono ?_
        obtain ⟨s, hs⟩ : ∃ s : ByteArray, s = ⟨(b.data.toList.take k).toArray⟩ := ⟨_, rfl⟩
        have hex : b.extract 0 k = s := by rw [hs, cut_to]
        have Hex := Lib.hid hex; clear hex
        rw [← hs]
        rintro e w5 ⟨rfl, rfl⟩
        clear hs
        go_wp2_with fail
        refine (alive3_any _).mono ?_
        rintro e w6 ⟨rfl, hb6⟩
        have hr6 : RdAt g x b k w6 := (by first | exact (HR.out.drewN _).below hb6 | exact HR.out.below hb6)
        have hb6' : Below w.heap.size w w6 := (by first | exact (drewN_below HB.out _).trans (hb6.mono hsz) | exact HB.out.trans (hb6.mono hsz))
        have Hr6 := Lib.hid hr6; clear hr6 hb6
        go_wp2_with fail
        refine (left_any g x b k _ Hr6.out hk (by omega)).mono ?_
        rintro e w7 ⟨rfl, q7, rfl⟩
        have hsub : (b.size : Int) - ((b.size - k : Nat) : Int) = k := by omega
        go_wp2
        go_ret
        exact ⟨ret_bool (by rw [Hex.out]; simp), drewN_below hb6' q7⟩
end Go.Proofs.Ytfjdcmhhnknojaa
