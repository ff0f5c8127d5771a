/-
  Package name as contracts: is a text a name; which of two texts comes first.
  Conditions: texts.
-/
import Derived.Test.YtlniafpbkhkkaaaGreatName5
import Derived.Test.YtlniafpbkhkkaaaGreatBytes
import Derived.Sort.Walk0
import Derived.Laws.Cover1
namespace Go.Proofs.YtlniafpbkhkkaaaGreat
open Go.RowKit Go.Maps

def byteAt (s : ByteArray) (i : Nat) : Nat := (s.data.toList[i]?.getD 0).toNat
theorem byteAt_is {s : ByteArray} {i : Nat} (h : i < s.size) : (s[i] : UInt8).toNat = byteAt s i := by
  unfold byteAt
  rw [byte_at s h]
  rfl
theorem byteAt_lt (s : ByteArray) (i : Nat) : byteAt s i < 256 := by unfold byteAt; exact UInt8.toNat_lt _
def okAt (s : ByteArray) (i : Nat) : Bool := decide (65 ≤ byteAt s i ∧ byteAt s i ≤ 90) || (decide (i ≠ 0) && decide (48 ≤ byteAt s i ∧ byteAt s i ≤ 57))
def validS (s : ByteArray) : Bool := decide (0 < s.size ∧ s.size ≤ 12) && (List.range s.size).all (okAt s)

set_option maxHeartbeats 2000000 in
theorem valid_any (s : ByteArray) (w : World) : Calls Tryz.prog 13 #[.string s] w fun e w' => e = .returned (.bool (validS s)) ∧ w = w' := by
  by_cases h0 : s.size = 0
  · have hs : validS s = false := by unfold validS; rw [decide_eq_false (by omega)]; rfl
    obtain rfl : s = ⟨#[]⟩ := by
      obtain ⟨⟨l⟩⟩ := s
      have : l = [] := List.eq_nil_of_length_eq_zero h0
      rw [this]
    rw [hs]
    clear hs h0
    go_enter Tryz.func13, Tryz.ntmps13
    go_wp2
    go_ret
    exact ⟨rfl, rfl⟩
  · have hne : s.toList.isEmpty = false := by
      rw [ByteArray.toList_eq]
      cases h : s.data.toList with
      | nil => exact absurd (by have := len_data s; rw [h] at this; exact this.symm) h0
      | cons a l => rfl
    by_cases h12 : 12 < s.size
    · have hs : validS s = false := by unfold validS; rw [decide_eq_false (by omega)]; rfl
      rw [hs]
      clear hs
      go_enter Tryz.func13, Tryz.ntmps13
      go_wp2
      go_ret
      exact ⟨rfl, rfl⟩
    · have hs : validS s = (List.range s.size).all (okAt s) := by unfold validS; rw [decide_eq_true (by omega)]; rfl
      rw [hs]
      have HV := Lib.hid hs
      clear hs
      obtain ⟨R, hR⟩ : ∃ R, (List.range s.size).all (okAt s) = R := ⟨_, rfl⟩
      rw [hR]
      have HR := Lib.hid hR; clear hR HV
      go_enter Tryz.func13, Tryz.ntmps13
      go_wp2
      go_loop [14] (fun i => ∃ k : Nat, k ≤ s.size ∧ i = .int .i64 k ∧ Hid (∀ j, j < k → okAt s j = true)) (fun i => s.size - (intOf i).toNat)
      case atStart => exact ⟨0, Nat.zero_le _, rfl, fun j h => absurd h (by omega)⟩
      case round =>
        obtain ⟨k, hk, rfl, HK⟩ := hrel
        by_cases hlt : k < s.size
        · have hb := byteAt_is hlt
          have hb9 := byteAt_lt s k
          obtain ⟨c, hc⟩ : ∃ c, byteAt s k = c := ⟨_, rfl⟩
          rw [hc] at hb hb9
          have hdef : okAt s k = (decide (65 ≤ c ∧ c ≤ 90) || (decide (k ≠ 0) && decide (48 ≤ c ∧ c ≤ 57))) := by unfold okAt; rw [hc]
          have HD := Lib.hid hdef
          clear hc hdef
          rcases (show (65 ≤ c ∧ c ≤ 90) ∨ (k ≠ 0 ∧ 48 ≤ c ∧ c ≤ 57) ∨ (k = 0 ∧ c < 65) ∨ (k = 0 ∧ 90 < c) ∨ (k ≠ 0 ∧ c < 48) ∨ (k ≠ 0 ∧ 57 < c ∧ c < 65) ∨ (k ≠ 0 ∧ 90 < c) by omega) with ⟨g1, g2⟩ | ⟨g0, g1, g2⟩ | ⟨rfl, g1⟩ | ⟨rfl, g1⟩ | ⟨g0, g1⟩ | ⟨g0, g1, g2⟩ | ⟨g0, g1⟩
          · have HOK : Hid (okAt s k = true) := by show _ = _; rw [HD.out, decide_eq_true ⟨g1, g2⟩]; rfl
            clear HD
            go_wp2
            go_round
            case rel =>
              refine ⟨k + 1, hlt, by go_num, fun j hj => ?_⟩
              rcases Nat.lt_or_ge j k with h | h
              · exact HK.out j h
              · obtain rfl : j = k := by omega
                exact HOK.out
            case measure => simp [intOf]; omega
          · have HOK : Hid (okAt s k = true) := by show _ = _; rw [HD.out, decide_eq_true g0, decide_eq_true (show 48 ≤ c ∧ c ≤ 57 from ⟨g1, g2⟩)]; simp
            have hk0 : ((k : Int) == 0) = false := by simp; omega
            have HG0 := Lib.hid g0
            clear HD g0
            go_wp2
            go_round
            case rel =>
              refine ⟨k + 1, hlt, by go_num, fun j hj => ?_⟩
              rcases Nat.lt_or_ge j k with h | h
              · exact HK.out j h
              · obtain rfl : j = k := by omega
                exact HOK.out
            case measure => simp [intOf]; omega
          all_goals
            have HBAD : Hid (R = false) := by
              show _ = _
              rw [← HR.out, List.all_eq_false]
              refine ⟨_, List.mem_range.2 hlt, ?_⟩
              rw [HD.out, decide_eq_false (by omega)]
              simp
              try omega
            clear HD HR
          · go_wp2
            go_ret
            exact ⟨ret_bool HBAD.out.symm, rfl⟩
          · have hc90 : decide ((c : Int) ≤ 90) = false := decide_eq_false (by omega)
            go_wp2
            go_ret
            exact ⟨ret_bool HBAD.out.symm, rfl⟩
          all_goals
            have hk0 : ((k : Int) == 0) = false := by simp; omega
            have HG0 := Lib.hid g0
            clear g0
          · go_wp2
            go_ret
            exact ⟨ret_bool HBAD.out.symm, rfl⟩
          · go_wp2
            go_ret
            exact ⟨ret_bool HBAD.out.symm, rfl⟩
          · have hc90 : decide ((c : Int) ≤ 90) = false := decide_eq_false (by omega)
            go_wp2
            go_ret
            exact ⟨ret_bool HBAD.out.symm, rfl⟩
        · obtain rfl : k = s.size := by omega
          have hR : R = true := by
            rw [← HR.out, List.all_eq_true]
            intro j hj
            exact HK.out j (List.mem_range.1 hj)
          have HR2 := Lib.hid hR
          clear hR HR
          go_wp2
          go_ret
          exact ⟨ret_bool HR2.out.symm, rfl⟩

/-- The order of texts. -/
def lessS (a b : ByteArray) : Bool := Op.bytesLess a.toList b.toList
def cmpS (a b : ByteArray) : Int := if lessS a b = true then -1 else if lessS b a = true then 1 else 0
theorem less_swap (a b : ByteArray) : lessS b a = !(lessS a b || a.toList == b.toList) := by
  unfold lessS
  rw [bytesLess_eq, bytesLess_eq]
  generalize a.toList = x
  generalize b.toList = y
  by_cases h : x < y
  · rw [decide_eq_true h, decide_eq_false (List.lt_asymm h)]; rfl
  · rw [decide_eq_false h]
    by_cases e : x = y
    · subst e
      rw [decide_eq_false h]
      simp
    · have h2 : y < x := by
        rcases Decidable.em (y < x) with h3 | h3
        · exact h3
        · exact absurd (List.le_antisymm (List.not_lt.1 h3) (List.not_lt.1 h)) e
      rw [decide_eq_true h2]
      simp [e]
theorem nan_any (s : ByteArray) (w : World) : Calls Tryz.prog 101 #[.string s] w fun e w' => e = .returned (.bool false) ∧ w = w' := by
  go_enter Tryz.func101, Tryz.ntmps101
  go_wp2
  go_ret
  exact ⟨ret_bool (by simp), rfl⟩
theorem cmp_any (a b : ByteArray) (w : World) : Calls Tryz.prog 28 #[.string a, .string b] w fun e w' => e = .returned (.int .i64 (cmpS a b)) ∧ w = w' := by
  have hsw := less_swap a b
  cases h1 : lessS a b
  · have h1' : Op.bytesLess a.toList b.toList = false := h1
    cases h2 : (a.toList == b.toList)
    · have hc : cmpS a b = 1 := by unfold cmpS; rw [hsw, h1, h2]; rfl
      rw [hc]
      have H1 := Lib.hid h1
      clear hc h1 hsw
      go_enter Tryz.func28, Tryz.ntmps28
      go_wp2_with fail
      refine (nan_any a _).mono ?_
      rintro e w1 ⟨rfl, rfl⟩
      go_wp2_with fail
      refine (nan_any b _).mono ?_
      rintro e w1 ⟨rfl, rfl⟩
      go_wp2
      go_ret
      exact ⟨rfl, rfl⟩
    · have hc : cmpS a b = 0 := by unfold cmpS; rw [hsw, h1, h2]; rfl
      rw [hc]
      have H1 := Lib.hid h1
      clear hc h1 hsw
      go_enter Tryz.func28, Tryz.ntmps28
      go_wp2_with fail
      refine (nan_any a _).mono ?_
      rintro e w1 ⟨rfl, rfl⟩
      go_wp2_with fail
      refine (nan_any b _).mono ?_
      rintro e w1 ⟨rfl, rfl⟩
      go_wp2
      go_ret
      exact ⟨rfl, rfl⟩
  · have h1' : Op.bytesLess a.toList b.toList = true := h1
    have hc : cmpS a b = -1 := by unfold cmpS; rw [h1]; rfl
    rw [hc]
    clear hc
    have H1 := Lib.hid h1
    clear h1 hsw
    go_enter Tryz.func28, Tryz.ntmps28
    go_wp2_with fail
    refine (nan_any a _).mono ?_
    rintro e w1 ⟨rfl, rfl⟩
    go_wp2_with fail
    refine (nan_any b _).mono ?_
    rintro e w1 ⟨rfl, rfl⟩
    go_wp2
    go_ret
    exact ⟨rfl, rfl⟩
theorem compare_any (a b : ByteArray) (w : World) : Calls Tryz.prog 15 #[.string a, .string b] w fun e w' => e = .returned (.int .i64 (cmpS a b)) ∧ w = w' := by
  obtain ⟨c, hc⟩ : ∃ c, cmpS a b = c := ⟨_, rfl⟩
  have h := cmp_any a b
  rw [hc] at h ⊢
  have H := fun w => Lib.hid (h w)
  clear h hc
  go_enter Tryz.func15, Tryz.ntmps15
  go_wp2_with fail
  refine (H _).out.mono ?_
  rintro e w1 ⟨rfl, rfl⟩
  go_wp2
  go_ret
  exact ⟨rfl, rfl⟩
end Go.Proofs.YtlniafpbkhkkaaaGreat
