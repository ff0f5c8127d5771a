/-
  The book's SameTexts as a contract.
  Conditions: the lemmas' own premises.
-/
import Derived.WalkKit
import Derived.Deep.QuietTactic
import Derived.BigQuiet
import Derived.Lib.Hide
import Derived.Test.YtjhinifmdjlblaaGreatProg
import Derived.Test.YtjhinifmdjlblaaGreatAid
namespace Go.Proofs.YtjhinifmdjlblaaGreat
open Go.RowKit

set_option maxHeartbeats 400000 in
theorem same_any (ss tt : List ByteArray) (A A' : Option Addr) (c c' B : Nat) (w : World) (hr : Reads w B 1 A ss.length (strs ss)) (hr' : Reads w B 1 A' tt.length (strs tt))
    (hl : ss.length ≤ 9223372036854775807) (hl' : tt.length ≤ 9223372036854775807) :
    Calls Tryz.prog 21 #[.slice A ss.length c, .slice A' tt.length c'] w fun e w' => e = .returned (.bool (sameB ss tt)) ∧ ∃ q, w' = w.drewN q := by
  generalize hn : ss.length = n at *
  generalize hm : tt.length = m at *
  have Hn := Lib.hid hn; clear hn
  have Hm := Lib.hid hm; clear hm
  by_cases hne : n = m
  · subst hne
    go_enter Tryz.func21, Tryz.ntmps21
    go_wp2
    go_loopw [5] (fun i wr => ∃ (k q : Nat), k ≤ n ∧ i = .int .i64 k ∧ Hid (ss.take k = tt.take k) ∧ wr = w.drewN q) (fun i _ => n - (intOf i).toNat)
    case atStart => exact ⟨0, 0, Nat.zero_le _, rfl, by simp [Hid], rfl⟩
    case round =>
      obtain ⟨k, q, hk, rfl, HT, rfl⟩ := hrel
      by_cases hlt : k < n
      · obtain ⟨ad, s, rfl, _, hsk, hc⟩ := str_at hr hlt
        obtain ⟨ad', t, rfl, _, htk, hc'⟩ := str_at hr' hlt
        have Hs := Lib.hid hsk; clear hsk
        have Ht := Lib.hid htk; clear htk
        cases hst : (s.toList == t.toList)
        · go_wp2
          go_quiet (fail)
          go_wp2
          go_ret
          refine ⟨ret_bool ?_, _, World.drewN_drewN _ _ _⟩
          symm
          simp only [sameB, decide_eq_false_iff_not]
          rintro rfl
          have e := Hs.out.symm.trans Ht.out
          injection e with e
          subst e
          simp at hst
        · go_wp2
          go_quiet (fail)
          go_wp2
          go_roundw
          case rel =>
            refine ⟨k + 1, _, by omega, by go_num, ?_, rfl⟩
            show _ = _
            rw [take_snoc Hs.out, take_snoc Ht.out, HT.out, bytes_eq_iff.1 hst]
          case measure => simp [intOf]; omega
      · go_wp2
        go_ret
        refine ⟨ret_bool ?_, _, rfl⟩
        symm
        have h1 := HT.out
        rw [List.take_of_length_le (by have := Hn.out; omega), List.take_of_length_le (by have := Hm.out; omega)] at h1
        exact sameB_iff.2 h1
  · go_enter Tryz.func21, Tryz.ntmps21
    go_wp2
    go_ret
    refine ⟨ret_bool ?_, 0, rfl⟩
    symm
    simp only [sameB, decide_eq_false_iff_not]
    rintro rfl
    exact hne (Hn.out.symm.trans Hm.out)
end Go.Proofs.YtjhinifmdjlblaaGreat
