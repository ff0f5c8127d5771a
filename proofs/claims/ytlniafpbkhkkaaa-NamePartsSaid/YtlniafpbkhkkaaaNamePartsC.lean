/-
  NameParts: the walk.
  Conditions: texts that are in memory, bytes, ints.
-/
import Derived.Test.YtlniafpbkhkkaaaNamePartsA
import Derived.Test.YtlniafpbkhkkaaaNamePartsB
namespace Go.Proofs.Ytlniafpbkhkkaaa
open Go.RowKit Go.Maps

set_option maxHeartbeats 4000000 in
set_option maxRecDepth 100000 in
theorem nparts_walk (s : ByteArray) (x : Int) (c : Nat) (hs : s.size ≤ 281474976710656) (hx1 : -9223372036854775808 ≤ x) (hx2 : x ≤ 9223372036854775807) (hc : c < 256) (w : World) :
    Calls Try.prog 4 #[.string s, .int .i64 x, .int .u8 c] w fun e w' => e = .returned (.bool true) ∧ Below w.heap.size w w' := by
  have hv := valid_any s
  cases hs9 : validS s
  · rw [hs9] at hv
    have HV := fun w => Lib.hid (hv w)
    have hsp := fun w => valid_any (s ++ ⟨#[32]⟩) w
    rw [valid_space] at hsp
    have HSP := fun w => Lib.hid (hsp w)
    clear hv hsp hs9
    by_cases h0 : s.size = 0
    · go_enter Try.func4, Try.ntmps4
      go_wp2_with fail
      refine (HV _).out.mono ?_
      rintro e w1 ⟨rfl, rfl⟩
      go_wp2_with fail
      refine (alive2_any _).mono ?_
      rintro e w2 ⟨rfl, hb2⟩
      have HB2 := Lib.hid hb2
      clear hb2
      go_wp2
      go_ret
      exact ⟨rfl, HB2.out⟩
    · have hz : ((s.size : Int) == 0) = false := beq_false_of_ne (by omega)
      go_enter Try.func4, Try.ntmps4
      go_wp2_with fail
      refine (HV _).out.mono ?_
      rintro e w1 ⟨rfl, rfl⟩
      go_wp2_with fail
      refine (alive2_any _).mono ?_
      rintro e w2 ⟨rfl, hb2⟩
      have HB2 := Lib.hid hb2
      clear hb2
      go_wp2_with fail
      refine (HSP _).out.mono ?_
      rintro e w3 ⟨rfl, rfl⟩
      go_wp2
      go_ret
      exact ⟨rfl, HB2.out⟩
  · rw [hs9] at hv
    have HV := fun w => Lib.hid (hv w)
    clear hv
    obtain ⟨_, h12, _⟩ := validS_iff.1 hs9
    rcases (show x < 1 ∨ (1 ≤ x ∧ (s.size : Int) < x) ∨ (1 ≤ x ∧ x ≤ s.size) by omega) with h1 | ⟨h1, h2⟩ | ⟨h1, h2⟩
    · clear hs9
      go_enter Try.func4, Try.ntmps4
      go_wp2_with fail
      refine (HV _).out.mono ?_
      rintro e w1 ⟨rfl, rfl⟩
      go_wp2_with fail
      refine (alive2_any _).mono ?_
      rintro e w2 ⟨rfl, hb2⟩
      have HB2 := Lib.hid hb2
      clear hb2
      go_wp2
      go_ret
      exact ⟨rfl, HB2.out⟩
    · clear hs9
      go_enter Try.func4, Try.ntmps4
      go_wp2_with fail
      refine (HV _).out.mono ?_
      rintro e w1 ⟨rfl, rfl⟩
      go_wp2_with fail
      refine (alive2_any _).mono ?_
      rintro e w2 ⟨rfl, hb2⟩
      have HB2 := Lib.hid hb2
      clear hb2
      go_wp2
      go_ret
      exact ⟨rfl, HB2.out⟩
    · obtain ⟨k, rfl⟩ : ∃ k : Nat, x = k := ⟨x.toNat, by omega⟩
      have hk1 : 1 ≤ k := by omega
      have hk2 : k ≤ s.size := by omega
      by_cases hk : k < 12
      · rcases (show (65 ≤ c ∧ c ≤ 90) ∨ (48 ≤ c ∧ c ≤ 57) ∨ c < 48 ∨ (57 < c ∧ c < 65) ∨ 90 < c by omega) with ⟨g1, g2⟩ | ⟨g1, g2⟩ | g1 | ⟨g1, g2⟩ | g1
        · exact nparts_L1 s k c hs9 hk1 hk2 hc g1 g2 hk w
        · exact nparts_D1 s k c hs9 hk1 hk2 hc g1 g2 hk w
        · exact nparts_A1 s k c hs9 hk1 hk2 hc g1 hk w
        · exact nparts_M1 s k c hs9 hk1 hk2 hc g1 g2 hk w
        · exact nparts_H1 s k c hs9 hk1 hk2 hc g1 hk w
      · rcases (show (65 ≤ c ∧ c ≤ 90) ∨ (48 ≤ c ∧ c ≤ 57) ∨ c < 48 ∨ (57 < c ∧ c < 65) ∨ 90 < c by omega) with ⟨g1, g2⟩ | ⟨g1, g2⟩ | g1 | ⟨g1, g2⟩ | g1
        · exact nparts_L0 s k c hs9 hk1 hk2 hc g1 g2 hk w
        · exact nparts_D0 s k c hs9 hk1 hk2 hc g1 g2 hk w
        · exact nparts_A0 s k c hs9 hk1 hk2 hc g1 hk w
        · exact nparts_M0 s k c hs9 hk1 hk2 hc g1 g2 hk w
        · exact nparts_H0 s k c hs9 hk1 hk2 hc g1 hk w
end Go.Proofs.Ytlniafpbkhkkaaa
