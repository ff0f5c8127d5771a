/-
  The document's Compare and Valid (complineref1) as contracts.
  Conditions: texts within what a string may have.
-/
import Derived.Test.YtkcecijepbceiaaRcPlain
import Derived.Deep.QuietTactic
import Derived.BigQuiet
import Derived.Deep.RegionHeld3
import Derived.Deep.DrawnRows
namespace Go.Proofs.Ytkcecijepbceiaa
open Go.RowKit
attribute [local go_sem ↓] Go.wp_at_zero Go.wp_at_succ
set_option maxRecDepth 100000

theorem take_more {a b : ByteArray} {i : Nat} (ha : i < a.size) (hb : i < b.size) (he : a.data.toList.take i = b.data.toList.take i) (h : a[i].toNat = b[i].toNat) : a.data.toList.take (i + 1) = b.data.toList.take (i + 1) := by
  rw [take_snoc (byte_at a ha), take_snoc (byte_at b hb), he, UInt8.toNat_inj.1 h]
set_option maxHeartbeats 1000000 in
theorem rcompare_any (a b : ByteArray) (ha : a.size ≤ 9223372036854775807) (_hb : b.size ≤ 9223372036854775807) (w : World) : Calls Try.prog 117 #[.string a, .string b] w fun e w' => e = .returned (.int .i64 (cmpS a b)) ∧ ∃ q, w' = w.drewN q := by
  obtain ⟨c, hc⟩ : ∃ c, cmpS a b = c := ⟨_, rfl⟩
  have HC := Lib.hid hc
  rw [hc]
  clear hc
  go_enter Try.func117, Try.ntmps117
  go_wp2
  go_loopw [5] (fun i wr => ∃ k q : Nat, k ≤ a.size ∧ k ≤ b.size ∧ i = .int .i64 k ∧ Hid (a.data.toList.take k = b.data.toList.take k) ∧ wr = w.drewN q) (fun i _ => a.size - (intOf i).toNat)
  case atStart => exact ⟨0, 0, Nat.zero_le _, Nat.zero_le _, rfl, rfl, rfl⟩
  case round =>
    obtain ⟨k, q, hka, hkb, rfl, HE, rfl⟩ := hrel
    by_cases h1 : k < a.size
    · by_cases h2 : k < b.size
      · have b1 := a[k].toNat_lt
        have b2 := b[k].toNat_lt
        by_cases hlt : a[k].toNat < b[k].toNat
        · have hf : c = -1 := by rw [← HC.out]; exact cmp_first h1 h2 HE.out hlt
          subst hf
          go_wp2
          go_quiet (fail)
          go_wp2
          go_ret
          exact ⟨rfl, _, World.drewN_drewN _ _ _⟩
        · by_cases hgt : b[k].toNat < a[k].toNat
          · have hf : c = 1 := by rw [← HC.out]; exact cmp_first' h1 h2 HE.out hgt
            subst hf
            go_wp2
            go_quiet (fail)
            go_wp2
            go_quiet (fail)
            go_wp2
            go_ret
            exact ⟨rfl, _, by rw [World.drewN_drewN, World.drewN_drewN]⟩
          · have HN := Lib.hid (take_more h1 h2 HE.out (by omega))
            go_wp2
            go_quiet (fail)
            go_wp2
            go_quiet (fail)
            go_wp2
            go_roundw
            case rel => exact ⟨k + 1, _, h1, h2, by go_num, HN.out, rfl⟩
            case measure => simp [intOf]; omega
      · have hkb2 : k = b.size := by omega
        subst hkb2
        have hf : c = 1 := by rw [← HC.out]; exact cmp_short' HE.out h1
        subst hf
        go_wp2
        go_ret
        exact ⟨rfl, _, rfl⟩
    · have hka2 : k = a.size := by omega
      subst hka2
      by_cases h2 : a.size < b.size
      · have hf : c = -1 := by rw [← HC.out]; exact cmp_short HE.out h2
        subst hf
        go_wp2
        go_ret
        exact ⟨rfl, _, rfl⟩
      · have hs : a.size = b.size := by omega
        have hf : c = 0 := by rw [← HC.out]; exact cmp_whole HE.out hs
        subst hf
        go_wp2
        go_ret
        exact ⟨rfl, _, rfl⟩
set_option maxHeartbeats 2000000 in
theorem rvalid_any (s : ByteArray) (hs : s.size ≤ 9223372036854775807) (w : World) : Calls Try.prog 115 #[.string s] w fun e w' => e = .returned (.bool (validS s)) ∧ w = w' := by
  by_cases h0 : s.size < 1
  · have hf : validS s = false := by unfold validS; rw [decide_eq_false (by omega)]; rfl
    rw [hf]
    clear hf
    go_enter Try.func115, Try.ntmps115
    go_wp2
    go_ret
    exact ⟨rfl, rfl⟩
  · by_cases h12 : 12 < s.size
    · have hf : validS s = false := by unfold validS; rw [decide_eq_false (by omega)]; rfl
      rw [hf]
      clear hf
      go_enter Try.func115, Try.ntmps115
      go_wp2
      go_ret
      exact ⟨rfl, rfl⟩
    · have hv : validS s = (List.range s.size).all (okAt s) := by unfold validS; rw [decide_eq_true (by omega)]; rfl
      rw [hv]
      clear hv
      obtain ⟨R, hR⟩ : ∃ R, (List.range s.size).all (okAt s) = R := ⟨_, rfl⟩
      rw [hR]
      have HR := Lib.hid hR; clear hR
      have hz : 0 < s.size := by omega
      have hb := byteAt_is hz
      have hb9 := byteAt_lt s 0
      obtain ⟨c0, hc0⟩ : ∃ c, byteAt s 0 = c := ⟨_, rfl⟩
      rw [hc0] at hb hb9
      have hdef : okAt s 0 = decide (65 ≤ c0 ∧ c0 ≤ 90) := by unfold okAt; rw [hc0]; simp
      have HD := Lib.hid hdef
      clear hc0 hdef
      by_cases g : 65 ≤ c0 ∧ c0 ≤ 90
      · obtain ⟨g1, g2⟩ := g
        have H0 : Hid (okAt s 0 = true) := by show _ = _; rw [HD.out, decide_eq_true ⟨g1, g2⟩]
        clear HD
        go_enter Try.func115, Try.ntmps115
        go_wp2
        clear hb hb9 g1 g2
        go_loop [3] (fun i => ∃ k : Nat, k ≤ s.size ∧ i = .int .i64 k ∧ Hid (∀ j, j < k → okAt s j = true)) (fun i => s.size - (intOf i).toNat)
        case atStart => exact ⟨0, Nat.zero_le _, rfl, fun j h => absurd h (by omega)⟩
        case round =>
          obtain ⟨k, hk, rfl, HK⟩ := hrel
          by_cases hlt : k < s.size
          · have hb := byteAt_is hlt
            have hb9 := byteAt_lt s k
            obtain ⟨c, hc⟩ : ∃ c, byteAt s k = c := ⟨_, rfl⟩
            rw [hc] at hb hb9
            have hdef : okAt s k = (decide (65 ≤ c ∧ c ≤ 90) || (decide (k ≠ 0) && decide (48 ≤ c ∧ c ≤ 57))) := by unfold okAt; rw [hc]
            have HD := Lib.hid hdef
            clear hc hdef
            rcases (show (65 ≤ c ∧ c ≤ 90) ∨ (48 ≤ c ∧ c ≤ 57) ∨ (c < 48) ∨ (57 < c ∧ c < 65) ∨ (90 < c) by omega) with ⟨g1, g2⟩ | ⟨g1, g2⟩ | g1 | ⟨g1, g2⟩ | g1
            · have HOK : Hid (okAt s k = true) := by show _ = _; rw [HD.out, decide_eq_true ⟨g1, g2⟩]; rfl
              clear HD
              go_wp2
              go_round
              case rel =>
                refine ⟨k + 1, hlt, by go_num, fun j hj => ?_⟩
                rcases Nat.lt_or_ge j k with h | h
                · exact HK.out j h
                · obtain rfl : j = k := by omega
                  exact HOK.out
              case measure => simp [intOf]; omega
            · have HOK : Hid (okAt s k = true) := by
                show _ = _
                by_cases hk0 : k = 0
                · rw [hk0]; exact H0.out
                · rw [HD.out, decide_eq_true (show 48 ≤ c ∧ c ≤ 57 from ⟨g1, g2⟩), decide_eq_true hk0]; simp
              clear HD
              go_wp2
              go_round
              case rel =>
                refine ⟨k + 1, hlt, by go_num, fun j hj => ?_⟩
                rcases Nat.lt_or_ge j k with h | h
                · exact HK.out j h
                · obtain rfl : j = k := by omega
                  exact HOK.out
              case measure => simp [intOf]; omega
            all_goals
              have HBAD : Hid (R = false) := by
                show _ = _
                rw [← HR.out, List.all_eq_false]
                refine ⟨k, List.mem_range.2 hlt, ?_⟩
                rw [HD.out, decide_eq_false (show ¬ (65 ≤ c ∧ c ≤ 90) by omega), decide_eq_false (show ¬ (48 ≤ c ∧ c ≤ 57) by omega)]
                simp
              clear HD HR
              go_wp2
              go_ret
              exact ⟨ret_bool HBAD.out.symm, rfl⟩
          · obtain rfl : k = s.size := by omega
            have hR : R = true := by
              rw [← HR.out, List.all_eq_true]
              intro j hj
              exact HK.out j (List.mem_range.1 hj)
            have HR2 := Lib.hid hR
            clear hR HR
            go_wp2
            go_ret
            exact ⟨ret_bool HR2.out.symm, rfl⟩
      · have HBAD : Hid (R = false) := by
          show _ = _
          rw [← HR.out, List.all_eq_false]
          exact ⟨0, List.mem_range.2 hz, by rw [HD.out, decide_eq_false g]; simp⟩
        clear HD HR
        rcases (show c0 < 65 ∨ (65 ≤ c0 ∧ 90 < c0) by omega) with g1 | ⟨g0, g1⟩
        · clear g
          go_enter Try.func115, Try.ntmps115
          go_wp2
          go_ret
          exact ⟨ret_bool HBAD.out.symm, rfl⟩
        · clear g
          go_enter Try.func115, Try.ntmps115
          go_wp2
          go_ret
          exact ⟨ret_bool HBAD.out.symm, rfl⟩
end Go.Proofs.Ytkcecijepbceiaa
