/-
  Package name as a contract where only Valid is reached: is a text a name.
  Conditions: texts.
-/
import Derived.WalkKit
import Derived.Lib.Hide
import Derived.Deep.QuietTactic
import Derived.BigQuiet
import Derived.Deep.DeepCutAuto
import Derived.KernelRfl
import Derived.WalkSpells
import Derived.Test.YtkcecijepbceiaaProg
import Derived.Test.YtkcecijepbceiaaNamePlain
import Derived.Test.YtkcecijepbceiaaBytes
import Derived.Sort.Walk0
import Derived.Laws.Cover1
namespace Go.Proofs.Ytkcecijepbceiaa
open Go.RowKit Go.Maps

def byteAt (s : ByteArray) (i : Nat) : Nat := (s.data.toList[i]?.getD 0).toNat
theorem byteAt_is {s : ByteArray} {i : Nat} (h : i < s.size) : (s[i] : UInt8).toNat = byteAt s i := by
  unfold byteAt
  rw [byte_at s h]
  rfl
theorem byteAt_lt (s : ByteArray) (i : Nat) : byteAt s i < 256 := by unfold byteAt; exact UInt8.toNat_lt _
def okAt (s : ByteArray) (i : Nat) : Bool := decide (65 ≤ byteAt s i ∧ byteAt s i ≤ 90) || (decide (i ≠ 0) && decide (48 ≤ byteAt s i ∧ byteAt s i ≤ 57))
def validS (s : ByteArray) : Bool := decide (0 < s.size ∧ s.size ≤ 12) && (List.range s.size).all (okAt s)

set_option maxHeartbeats 2000000 in
theorem valid_any (s : ByteArray) (w : World) : Calls Try.prog 119 #[.string s] w fun e w' => e = .returned (.bool (validS s)) ∧ w = w' := by
  by_cases h0 : s.size = 0
  · have hs : validS s = false := by unfold validS; rw [decide_eq_false (by omega)]; rfl
    obtain rfl : s = ⟨#[]⟩ := by
      obtain ⟨⟨l⟩⟩ := s
      have : l = [] := List.eq_nil_of_length_eq_zero h0
      rw [this]
    rw [hs]
    clear hs h0
    go_enter Try.func119, Try.ntmps119
    go_wp2
    go_ret
    exact ⟨rfl, rfl⟩
  · have hne : s.toList.isEmpty = false := by
      rw [ByteArray.toList_eq]
      cases h : s.data.toList with
      | nil => exact absurd (by have := len_data s; rw [h] at this; exact this.symm) h0
      | cons a l => rfl
    by_cases h12 : 12 < s.size
    · have hs : validS s = false := by unfold validS; rw [decide_eq_false (by omega)]; rfl
      rw [hs]
      clear hs
      go_enter Try.func119, Try.ntmps119
      go_wp2
      go_ret
      exact ⟨rfl, rfl⟩
    · have hs : validS s = (List.range s.size).all (okAt s) := by unfold validS; rw [decide_eq_true (by omega)]; rfl
      rw [hs]
      have HV := Lib.hid hs
      clear hs
      obtain ⟨R, hR⟩ : ∃ R, (List.range s.size).all (okAt s) = R := ⟨_, rfl⟩
      rw [hR]
      have HR := Lib.hid hR; clear hR HV
      go_enter Try.func119, Try.ntmps119
      go_wp2
      go_loop [14] (fun i => ∃ k : Nat, k ≤ s.size ∧ i = .int .i64 k ∧ Hid (∀ j, j < k → okAt s j = true)) (fun i => s.size - (intOf i).toNat)
      case atStart => exact ⟨0, Nat.zero_le _, rfl, fun j h => absurd h (by omega)⟩
      case round =>
        obtain ⟨k, hk, rfl, HK⟩ := hrel
        by_cases hlt : k < s.size
        · have hb := byteAt_is hlt
          have hb9 := byteAt_lt s k
          obtain ⟨c, hc⟩ : ∃ c, byteAt s k = c := ⟨_, rfl⟩
          rw [hc] at hb hb9
          have hdef : okAt s k = (decide (65 ≤ c ∧ c ≤ 90) || (decide (k ≠ 0) && decide (48 ≤ c ∧ c ≤ 57))) := by unfold okAt; rw [hc]
          have HD := Lib.hid hdef
          clear hc hdef
          rcases (show (65 ≤ c ∧ c ≤ 90) ∨ (k ≠ 0 ∧ 48 ≤ c ∧ c ≤ 57) ∨ (k = 0 ∧ c < 65) ∨ (k = 0 ∧ 90 < c) ∨ (k ≠ 0 ∧ c < 48) ∨ (k ≠ 0 ∧ 57 < c ∧ c < 65) ∨ (k ≠ 0 ∧ 90 < c) by omega) with ⟨g1, g2⟩ | ⟨g0, g1, g2⟩ | ⟨rfl, g1⟩ | ⟨rfl, g1⟩ | ⟨g0, g1⟩ | ⟨g0, g1, g2⟩ | ⟨g0, g1⟩
          · have HOK : Hid (okAt s k = true) := by show _ = _; rw [HD.out, decide_eq_true ⟨g1, g2⟩]; rfl
            clear HD
            go_wp2
            go_round
            case rel =>
              refine ⟨k + 1, hlt, by go_num, fun j hj => ?_⟩
              rcases Nat.lt_or_ge j k with h | h
              · exact HK.out j h
              · obtain rfl : j = k := by omega
                exact HOK.out
            case measure => simp [intOf]; omega
          · have HOK : Hid (okAt s k = true) := by show _ = _; rw [HD.out, decide_eq_true g0, decide_eq_true (show 48 ≤ c ∧ c ≤ 57 from ⟨g1, g2⟩)]; simp
            have hk0 : ((k : Int) == 0) = false := by simp; omega
            have HG0 := Lib.hid g0
            clear HD g0
            go_wp2
            go_round
            case rel =>
              refine ⟨k + 1, hlt, by go_num, fun j hj => ?_⟩
              rcases Nat.lt_or_ge j k with h | h
              · exact HK.out j h
              · obtain rfl : j = k := by omega
                exact HOK.out
            case measure => simp [intOf]; omega
          all_goals
            have HBAD : Hid (R = false) := by
              show _ = _
              rw [← HR.out, List.all_eq_false]
              refine ⟨_, List.mem_range.2 hlt, ?_⟩
              rw [HD.out, decide_eq_false (by omega)]
              simp
              try omega
            clear HD HR
          · go_wp2
            go_ret
            exact ⟨ret_bool HBAD.out.symm, rfl⟩
          · have hc90 : decide ((c : Int) ≤ 90) = false := decide_eq_false (by omega)
            go_wp2
            go_ret
            exact ⟨ret_bool HBAD.out.symm, rfl⟩
          all_goals
            have hk0 : ((k : Int) == 0) = false := by simp; omega
            have HG0 := Lib.hid g0
            clear g0
          · go_wp2
            go_ret
            exact ⟨ret_bool HBAD.out.symm, rfl⟩
          · go_wp2
            go_ret
            exact ⟨ret_bool HBAD.out.symm, rfl⟩
          · have hc90 : decide ((c : Int) ≤ 90) = false := decide_eq_false (by omega)
            go_wp2
            go_ret
            exact ⟨ret_bool HBAD.out.symm, rfl⟩
        · obtain rfl : k = s.size := by omega
          have hR : R = true := by
            rw [← HR.out, List.all_eq_true]
            intro j hj
            exact HK.out j (List.mem_range.1 hj)
          have HR2 := Lib.hid hR
          clear hR HR
          go_wp2
          go_ret
          exact ⟨ret_bool HR2.out.symm, rfl⟩

end Go.Proofs.Ytkcecijepbceiaa
