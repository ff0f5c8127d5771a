/-
  The book's Short as a contract: few texts, together no longer than that.
  Conditions: the lemmas' own premises.
-/
import Derived.Test.YtlniafpbkhkkaaaGreatRoom
namespace Go.Proofs.YtlniafpbkhkkaaaGreat
open Go.RowKit

set_option maxHeartbeats 400000 in
theorem short_any (few rm : Nat) (hf : few ≤ 1000000) (hrm : rm ≤ 1000000) (ss : List ByteArray) (A : Option Addr) (c : Nat) (w : World) (hr : Reads w w.heap.size 1 A ss.length (strs ss)) (hl : ss.length ≤ 9223372036854775807)
    (hs : ∀ s ∈ ss, s.size ≤ 9223372036854775807) :
    Calls Tryz.prog 26 #[.int .i64 few, .int .i64 rm, .slice A ss.length c] w fun e w' => e = .returned (.bool (shortB few rm ss)) ∧ Below w.heap.size w w' := by
  generalize hn : ss.length = n at *
  have Hn := Lib.hid hn; clear hn
  have Hs := Lib.hid hs; clear hs
  by_cases hfew : few < n
  · have hres : shortB few rm ss = false := by
      have := Hn.out
      simp [shortB]; omega
    have HR := Lib.hid hres; clear hres
    go_enter Tryz.func26, Tryz.ntmps26
    go_wp2
    go_ret
    exact ⟨ret_bool HR.out.symm, Below.refl _ _⟩
  · generalize hB : w.heap.size = B at *
    have HB := Lib.hid hB; clear hB
    go_enter Tryz.func26, Tryz.ntmps26
    go_wp2
    go_loopw [1, 7] (fun r i wr => ∃ (k : Nat) (x : Int), k ≤ n ∧ i = .int .i64 k ∧ r = .int .i64 x ∧ -1 ≤ x ∧ x ≤ 1000000 ∧ Hid (x = roomAt rm (total (ss.take k))) ∧ Below B w wr) (fun _ i _ => n - (intOf i).toNat)
    case atStart => exact ⟨0, rm, Nat.zero_le _, rfl, rfl, by omega, by omega, by simp [Hid, roomAt, total], Below.refl _ _⟩
    case round =>
      obtain ⟨k, x, hk, rfl, rfl, hx0, hx1, HX, hb⟩ := hrel
      have hsz := hb.size
      by_cases hlt : k < n
      · by_cases hx : 0 ≤ x
        · obtain ⟨ad, s, rfl, hbl, hsk, hc0⟩ := str_at hr hlt
          have hc : wr.cell? (ad.add k) = some (.string s) := by rw [hb.cell (by rw [block_of_add]; exact hbl)]; exact hc0
          have hss : s.size ≤ 9223372036854775807 := Hs.out s (List.mem_of_getElem? hsk)
          have HSK := Lib.hid hsk; clear hsk hc0
          go_wp2_with fail
          have hrd : Reads (wr.alloc (.cells #[.int .i64 s.size] 3)) (wr.heap.size + 1) 1 (some ⟨wr.heap.size, 0, none⟩) 1 (ints [(s.size : Int)]) := by
            refine ⟨rfl, fun _ => ⟨_, rfl, by simp, fun j u hu => ?_⟩⟩
            match j, hu with
            | 0, hu => simp [ints] at hu; subst hu; simp [go_sem]
            | j + 1, hu => simp [ints] at hu
          refine (room_any x [(s.size : Int)] _ _ _ _ hrd (by simp) hx0 (by omega) (by simp)).mono ?_
          rintro e w' ⟨rfl, rfl⟩
          go_wp2
          go_roundw
          case rel =>
            refine ⟨k + 1, _, by omega, by go_num, rfl, ?_, ?_, ?_, hb.alloc (by have := HB.out; omega) _⟩
            · unfold room; split <;> simp [room]; omega
            · unfold room; split <;> simp [room]; omega
            · show _ = _
              rw [total_take_succ HSK.out]
              have hxv := HX.out
              unfold roomAt at *
              split at hxv
              · by_cases h2 : total (ss.take k) + s.size ≤ rm
                · rw [if_pos h2, room_cons_yes (by omega) (by omega)]; simp [room]; omega
                · rw [if_neg h2, room_cons_no (by omega)]
              · omega
          case measure => simp [intOf]; omega
        · go_wp2
          go_ret
          have hres : shortB few rm ss = false := by
            have hxv := HX.out
            unfold roomAt at hxv
            have := total_take_le ss k
            split at hxv
            · omega
            · simp [shortB]; omega
          refine ⟨ret_bool ?_, hb⟩
          rw [hres]
      · go_wp2
        go_ret
        refine ⟨ret_bool ?_, hb⟩
        have hxv := HX.out
        have hN := Hn.out
        rw [List.take_of_length_le (by omega)] at hxv
        unfold roomAt at hxv
        rw [Bool.eq_iff_iff, shortB_iff]
        split at hxv <;> simp <;> omega
end Go.Proofs.YtlniafpbkhkkaaaGreat
