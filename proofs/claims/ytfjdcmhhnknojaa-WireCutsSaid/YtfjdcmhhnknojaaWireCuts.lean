/-
  The walk of WireCuts: what is cut is short, or has fewer things; no reader goes beyond its bytes.
  Conditions: ints, in a list that the call reads.
-/
import Derived.Test.YtfjdcmhhnknojaaWireCutsPlain
namespace Go.Proofs.Ytfjdcmhhnknojaa
open Go.RowKit

theorem cut_data (bs : List UInt8) (c : Nat) : (⟨bs.toArray⟩ : ByteArray).extract 0 c = ⟨(bs.take c).toArray⟩ := by
  apply ByteArray.ext
  apply Array.ext'
  simp

set_option maxHeartbeats 2000000 in
set_option maxRecDepth 100000 in
theorem cuts_walk (l : List Int) (x : Int) (A : Option Addr) (c : Nat) (w : World) (hr : Reads w w.heap.size 1 A l.length (ints l)) (hv : ∀ v ∈ l, -9223372036854775808 ≤ v ∧ v ≤ 9223372036854775807) (hx1 : -9223372036854775808 ≤ x) (hx2 : x ≤ 9223372036854775807) (hl : l.length ≤ 9223372036854775807) :
    Calls Try.prog 7 #[.slice A l.length c, .int .i64 x] w fun e w' => e = .returned (.bool true) ∧ Below w.heap.size w w' := by
  have Hr := Lib.hid hr; clear hr
  have Hv := Lib.hid hv; clear hv
  by_cases hbad : 60 < l.length ∨ x < 0
  · by_cases h60 : 60 < l.length
    · clear hbad
      go_enter Try.func7, Try.ntmps7
      go_wp2_with fail
      refine (alive3_any _).mono ?_
      rintro e w2 ⟨rfl, hb2⟩
      go_wp2
      go_ret
      exact ⟨rfl, hb2⟩
    · have hx0 : x < 0 := by omega
      clear hbad
      go_enter Try.func7, Try.ntmps7
      go_wp2_with fail
      refine (alive3_any _).mono ?_
      rintro e w2 ⟨rfl, hb2⟩
      go_wp2
      go_ret
      exact ⟨rfl, hb2⟩
  · obtain ⟨cut, rfl⟩ : ∃ cut : Nat, x = cut := ⟨x.toNat, by omega⟩
    have h60 : l.length ≤ 60 := by omega
    clear hbad hx1
    go_enter Try.func7, Try.ntmps7
    go_wp2_with fail
    refine (newWriter_any _).mono ?_
    rintro e w1 ⟨rfl, hw1, hb1⟩
    have hz1 := hb1.size
    have hl1 := hw1.lt
    have HW1 := Lib.hid hw1; clear hw1
    have Hr1 := Lib.hid (Hr.out.below hb1)
    have hsafe : ∀ ad, A = some ad → l.length ≠ 0 → ad.block < w.heap.size := by
      intro ad hA h0
      obtain ⟨ad', e, hb, _⟩ := Hr.out.2 (by omega)
      rw [hA] at e; injection e with e; subst e; exact hb
    have hbs : ∃ bs : List UInt8, Hid (Wire.wNums [] l = bs) := ⟨_, rfl⟩
    obtain ⟨bs, Hbs⟩ := hbs
    have hbsl : bs.length ≤ 600 := by
      have := Wire.stNum_len (0, []) l
      rw [Wire.stNum_ok, Hbs.out] at this
      simp at this; omega
    have Hsafe := Lib.hid hsafe; clear hsafe
    go_wp2_with fail
    refine (nums_any w.heap.size _ (0, []) l A c w.heap.size _ HW1.out Hr1.out (fun ad hA h0 => ⟨by have := Hsafe.out ad hA (by omega); simp; omega, by have := Hsafe.out ad hA (by omega); omega⟩) (by simp; omega) Hv.out).mono ?_
    rw [Wire.stNum_ok, Hbs.out]
    rintro e w2 ⟨rfl, S2, hw2, hm2⟩
    have hz2 := hm2.size
    have hb2 : Below w.heap.size w w2 := hb1.trans (hm2.below (by simp) (by omega))
    have HW2 := Lib.hid hw2; clear hw2 HW1 hb1 hm2
    go_wp2_with fail
    refine (bytes_ok w.heap.size S2 _ _ HW2.out).mono ?_
    obtain ⟨b, hb⟩ : ∃ b : ByteArray, b = ⟨bs.toArray⟩ := ⟨_, rfl⟩
    have hbsz : b.size = bs.length := by rw [hb]; simp [ByteArray.size]
    have Hb := Lib.hid hb; clear hb
    rw [← Hb.out]
    rintro e w2' ⟨rfl, rfl⟩
    by_cases hcut : b.size < cut
    · go_wp2_with fail
      refine (alive3_any _).mono ?_
      rintro e w3 ⟨rfl, hb3⟩
      go_wp2
      go_ret
      exact ⟨rfl, hb2.trans (hb3.mono (by omega))⟩
    · go_wp2_with fail
      have hcl : cut ≤ bs.length := by omega
      obtain ⟨s, hs⟩ : ∃ s : ByteArray, s = ⟨(bs.take cut).toArray⟩ := ⟨_, rfl⟩
      have hss : s.size = cut := by rw [hs]; simp [ByteArray.size]; omega
      have hex : b.extract 0 cut = s := by rw [Hb.out, cut_data, hs]
      rw [hex]
      have Hs := Lib.hid hs; clear hs hex Hb
      refine (newReader_any s _ (by omega)).mono ?_
      rintro e w3 ⟨g, rfl, hg, hr3, hb3⟩
      have hz3 := hb3.size
      have hbw3 : Below w.heap.size w w3 := hb2.trans (hb3.mono (by omega))
      have HR3 := Lib.hid hr3; clear hr3 hb3 hb2 HW2
      go_wp2
      go_loopw [9] (fun i wr => ∃ k : Nat, k ≤ l.length ∧ i = .int .i64 k ∧ Hid ((Wire.wNums [] (l.take k)).length ≤ cut) ∧ Hid (RdAt g 0 s (Wire.wNums [] (l.take k)).length wr) ∧ Hid (Below w.heap.size w wr) ∧ g < wr.heap.size) (fun i _ => l.length - (intOf i).toNat)
      case atStart => exact ⟨0, Nat.zero_le _, rfl, Nat.zero_le _, HR3.out, hbw3, HR3.out.lt⟩
      case round =>
        obtain ⟨k, hk, rfl, HP, HR, HB, hgz⟩ := hrel
        by_cases hlt : k < l.length
        · obtain ⟨ad, v, rfl, hab, hvk, hc0⟩ := int_at Hr.out hlt
          have hv12 := Hv.out v (List.mem_of_getElem? hvk)
          have hcut1 := cut_num hv12.1 hv12.2 hvk HP.out (cut := cut)
          rw [Hbs.out, ← Hs.out] at hcut1
          have hkl : (Wire.wNums [] (l.take k)).length ≤ s.size := by rw [hss]; exact HP.out
          have HC := Lib.hid hcut1; clear hcut1 hvk
          go_wp2_with fail
          refine (rNum_any g s ⟨0, (Wire.wNums [] (l.take k)).length⟩ _ HR.out hkl (by omega)).mono ?_
          rcases HC.out with ⟨h1, h2⟩ | ⟨h1, h2⟩
          · rw [h1]
            rintro e w4 ⟨rfl, hr4, hm4⟩
            have hz4 := hm4.size
            have hb4 := HB.out.trans (hm4.below (by simp; omega) (by have := HB.out.size; omega))
            have c4 := hr4.cell0
            clear h1
            go_wp2_with fail
            refine (wrong_any g 5 _ c4).mono ?_
            rintro e w4' ⟨rfl, rfl⟩
            go_wp2_with fail
            refine (alive3_any _).mono ?_
            rintro e w5 ⟨rfl, hb5⟩
            have c5 := (RdAt.below hr4 hb5).cell0
            have hcb : cut < b.size := by rw [hbsz]; exact h2
            clear hr4
            go_wp2_with fail
            refine (wrong_any g 5 _ c5).mono ?_
            rintro e w5' ⟨rfl, rfl⟩
            go_wp2
            go_ret
            exact ⟨rfl, hb4.trans (hb5.mono (by have := HB.out.size; omega))⟩
          · rw [h1]
            rintro e w4 ⟨rfl, hr4, hm4⟩
            have hz4 := hm4.size
            have hb4 := HB.out.trans (hm4.below (by simp; omega) (by have := HB.out.size; omega))
            have c4 := hr4.cell0
            have hc : w4.cell? (ad.add k) = some (.int .i64 v) := by rw [hb4.cell (p := ad.add k) (by rw [block_of_add]; exact hab)]; exact hc0
            have HR4 := Lib.hid hr4
            have HB4 := Lib.hid hb4
            have HP4 := Lib.hid h2
            clear h1 h2 hr4 hb4 hc0
            go_wp2_with fail
            refine (wrong_any g 0 _ c4).mono ?_
            rintro e w4' ⟨rfl, rfl⟩
            go_wp2
            go_roundw
            case rel => exact ⟨k + 1, by omega, by go_num, HP4.out, HR4.out, HB4.out, by omega⟩
            case measure => simp [intOf]; omega
        · have hkn : k = l.length := by omega
          subst hkn
          have h1 := HP.out
          have hr9 := HR.out
          rw [List.take_length] at h1 hr9
          rw [Hbs.out] at h1 hr9
          have hcb : cut = b.size := by omega
          have Hr9 := Lib.hid hr9; clear h1 hr9
          go_wp2_with fail
          refine (alive3_any _).mono ?_
          rintro e w5 ⟨rfl, hb5⟩
          have hen : endOf s ⟨0, bs.length⟩ = 0 := by unfold endOf; rw [if_neg (by simp), if_neg (by show ¬ bs.length < s.size; omega)]
          go_wp2_with fail
          refine (end_any g s ⟨0, bs.length⟩ _ (Hr9.out.below hb5) (by show bs.length ≤ s.size; omega) (by omega)).mono ?_
          rw [hen]
          rintro e w6 ⟨rfl, q, rfl⟩
          go_wp2
          go_ret
          exact ⟨rfl, drewN_below (HB.out.trans (hb5.mono (by have := HB.out.size; omega))) q⟩
end Go.Proofs.Ytfjdcmhhnknojaa
