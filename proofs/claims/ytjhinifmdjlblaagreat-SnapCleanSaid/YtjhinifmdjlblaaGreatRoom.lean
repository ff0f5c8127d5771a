/-
  The book's Room as a contract: how much room is left behind parts of these sizes.
  Conditions: the lemmas' own premises.
-/
import Derived.WalkKit
import Derived.Deep.QuietTactic
import Derived.BigQuiet
import Derived.Lib.Hide
import Derived.Test.YtjhinifmdjlblaaGreatProg
import Derived.Test.YtjhinifmdjlblaaGreatAid
namespace Go.Proofs.YtjhinifmdjlblaaGreat
open Go.RowKit

/-! ### Room -/
def room (left : Int) : List Int → Int
  | [] => left
  | z :: r => if left < 0 ∨ left < z then -1 else room (left - z) r

theorem room_cons_no {left z : Int} {r : List Int} (h : left < 0 ∨ left < z) : room left (z :: r) = -1 := by simp [room, h]
theorem room_cons_yes {left z : Int} {r : List Int} (h0 : ¬ left < 0) (h : ¬ left < z) : room left (z :: r) = room (left - z) r := by simp [room, h0, h]

set_option maxHeartbeats 400000 in
theorem room_any (left : Int) (zs : List Int) (A : Option Addr) (c B : Nat) (w : World) (hr : Reads w B 1 A zs.length (ints zs)) (hl : zs.length ≤ 9223372036854775807)
    (h0 : -1 ≤ left) (h1 : left ≤ 9223372036854775807) (hz : ∀ z ∈ zs, 0 ≤ z) :
    Calls Tryz.prog 37 #[.int .i64 left, .slice A zs.length c] w fun e w' => e = .returned (.int .i64 (room left zs)) ∧ w = w' := by
  generalize hn : zs.length = n at *
  have Hn := Lib.hid hn; clear hn
  have Hz := Lib.hid hz; clear hz
  generalize hroom : room left zs = rm
  have Hr := Lib.hid hroom; clear hroom
  go_enter Tryz.func37, Tryz.ntmps37
  go_wp2
  go_loop [0, 5] (fun l i => ∃ (k : Nat) (x : Int), k ≤ n ∧ i = .int .i64 k ∧ l = .int .i64 x ∧ -1 ≤ x ∧ x ≤ 9223372036854775807 ∧ Hid (room x (zs.drop k) = rm)) (fun _ i => n - (intOf i).toNat)
  case atStart => exact ⟨0, left, Nat.zero_le _, rfl, rfl, h0, h1, by simpa [Hid] using Hr.out⟩
  case round =>
    obtain ⟨k, x, hk, rfl, rfl, hx0, hx1, HR⟩ := hrel
    by_cases hlt : k < n
    · obtain ⟨ad, z, rfl, hb, hzk, hc⟩ := int_at hr hlt
      have hdrop : zs.drop k = z :: zs.drop (k + 1) := by
        obtain ⟨h', e⟩ := List.getElem?_eq_some_iff.1 hzk
        rw [← e, List.getElem_cons_drop]
      have hz0 : 0 ≤ z := Hz.out z (List.mem_of_getElem? hzk)
      have HD := Lib.hid hdrop; clear hdrop hzk
      by_cases hneg : x < 0
      · go_wp2
        go_ret
        exact ⟨ret_int (by rw [← HR.out, HD.out, room_cons_no (.inl hneg)]), rfl⟩
      · by_cases hgt : x < z
        · go_wp2
          go_ret
          exact ⟨ret_int (by rw [← HR.out, HD.out, room_cons_no (.inr hgt)]), rfl⟩
        · go_wp2
          go_round
          case rel => exact ⟨k + 1, x - z, by omega, by go_num, rfl, by omega, by omega, by have := HR.out; rw [HD.out, room_cons_yes hneg hgt] at this; exact this⟩
          case measure => simp [intOf]; omega
    · go_wp2
      go_ret
      exact ⟨ret_int (by rw [← HR.out, List.drop_of_length_le (by have := Hn.out; omega)]; rfl), rfl⟩
end Go.Proofs.YtjhinifmdjlblaaGreat
