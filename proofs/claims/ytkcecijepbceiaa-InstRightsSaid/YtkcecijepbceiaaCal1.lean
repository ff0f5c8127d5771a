/-
  Package cal as contracts: isDay, the look for a number that is no day, a new calendar, Is.
  Conditions: ints; a calendar that the call has made.
-/
import Derived.WalkKit
import Derived.Lib.Hide
import Derived.Lib.Builder
import Derived.Maps.OwnSet
import Derived.Maps.OwnOps
import Derived.Deep.QuietTactic
import Derived.BigQuiet
import Derived.Deep.DeepCutAuto
import Derived.KernelRfl
import Derived.WalkSpells
import Derived.Test.YtkcecijepbceiaaAid
import Derived.Test.YtkcecijepbceiaaProg
namespace Go.Proofs.Ytkcecijepbceiaa
open Go.RowKit Go.Maps

def isDayB (d : Int) : Bool := decide (0 ≤ d ∧ d ≤ 1000000)
theorem isDayB_yes {d : Int} : isDayB d = true ↔ 0 ≤ d ∧ d ≤ 1000000 := by simp [isDayB]
theorem isDayB_no {d : Int} : isDayB d = false ↔ ¬ (0 ≤ d ∧ d ≤ 1000000) := by simp [isDayB]

theorem isDay_any (d : Int) (w : World) : Calls Try.prog 63 #[.int .i64 d] w fun e w' => e = .returned (.bool (isDayB d)) ∧ w = w' := by
  by_cases h0 : 0 ≤ d
  · by_cases h1 : d ≤ 1000000
    · rw [isDayB_yes.2 ⟨h0, h1⟩]
      go_enter Try.func63, Try.ntmps63
      go_wp2
      go_ret
      exact ⟨ret_bool (by first | rfl | simp | simp [h1]), rfl⟩
    · rw [isDayB_no.2 (by omega)]
      go_enter Try.func63, Try.ntmps63
      go_wp2
      go_ret
      exact ⟨ret_bool (by simp), rfl⟩
  · rw [isDayB_no.2 (by omega)]
    go_enter Try.func63, Try.ntmps63
    go_wp2
    go_ret
    exact ⟨ret_bool (by simp), rfl⟩
theorem noDay_any (d : Int) (w : World) : Calls Try.prog 62 #[.int .i64 d] w fun e w' => e = .returned (.bool (!isDayB d)) ∧ w = w' := by
  go_enter Try.func62, Try.ntmps62
  go_wp2_with (go_at_call 63; refine (isDay_any d _).mono ?_; rintro e w' ⟨rfl, rfl⟩)
  go_ret
  exact ⟨rfl, rfl⟩

/-- The first place at which there is no day. -/
def badAt : List Int → Nat → Int
  | [], _ => -1
  | d :: r, k => if isDayB d then badAt r (k + 1) else k
theorem badAt_cons (d : Int) (r : List Int) (k : Nat) : badAt (d :: r) k = if isDayB d then badAt r (k + 1) else k := rfl
theorem badAt_neg (l : List Int) (k : Nat) : decide (0 ≤ badAt l k) = l.any (fun d => !isDayB d) := by
  induction l generalizing k with
  | nil => rfl
  | cons d r ih =>
    rw [badAt_cons, List.any_cons]
    cases hd : isDayB d
    · simp
    · simp [ih]

set_option maxHeartbeats 1000000 in
theorem indexFunc_any (l : List Int) (A : Option Addr) (c B : Nat) (w : World) (hr : Reads w B 1 A l.length (ints l)) (hl : l.length ≤ 9223372036854775807) :
    Calls Try.prog 105 #[.slice A l.length c, .func (.func 62) #[] #[]] w fun e w' => e = .returned (.int .i64 (badAt l 0)) ∧ w = w' := by
  obtain ⟨n, hn⟩ : ∃ n, l.length = n := ⟨_, rfl⟩
  rw [hn] at hr hl ⊢
  have Hn := Lib.hid hn; clear hn
  have Hr := Lib.hid hr; clear hr
  go_enter Try.func105, Try.ntmps105
  go_wp2
  go_loop [8] (fun i => ∃ k : Nat, k ≤ n ∧ i = .int .i64 k ∧ Hid (badAt l 0 = badAt (l.drop k) k)) (fun i => n - (intOf i).toNat)
  case atStart => exact ⟨0, Nat.zero_le _, rfl, rfl⟩
  case round =>
    obtain ⟨k, hk, rfl, HB⟩ := hrel
    by_cases hlt : k < n
    · obtain ⟨ad, z, rfl, hab, hzk, hc⟩ := int_at Hr.out hlt
      have hd : badAt (l.drop k) k = if isDayB z then badAt (l.drop (k + 1)) (k + 1) else k := by rw [drop_cons hzk]; rfl
      have HD := Lib.hid hd; clear hd hzk
      cases hz : isDayB z
      · have hc2 := noDay_any z w
        rw [hz] at hc2
        have HC := Lib.hid hc2; clear hc2
        have Hz := Lib.hid hz; clear hz
        go_wp2_with (go_at_call 62; refine HC.out.mono ?_; rintro e w' ⟨rfl, rfl⟩)
        go_ret
        exact ⟨ret_int (by rw [HB.out, HD.out, Hz.out]; rfl), rfl⟩
      · have hc2 := noDay_any z w
        rw [hz] at hc2
        have HC := Lib.hid hc2; clear hc2
        have Hz := Lib.hid hz; clear hz
        go_wp2_with (go_at_call 62; refine HC.out.mono ?_; rintro e w' ⟨rfl, rfl⟩)
        go_round
        case rel => exact ⟨k + 1, by omega, by go_num, by show _ = _; rw [HB.out, HD.out, Hz.out]; rfl⟩
        case measure => simp [intOf]; omega
    · go_wp2
      go_ret
      exact ⟨ret_int (by rw [HB.out, List.drop_of_length_le (by have := Hn.out; omega)]; rfl), rfl⟩
theorem contains_any (l : List Int) (A : Option Addr) (c B : Nat) (w : World) (hr : Reads w B 1 A l.length (ints l)) (hl : l.length ≤ 9223372036854775807) :
    Calls Try.prog 61 #[.slice A l.length c, .func (.func 62) #[] #[]] w fun e w' => e = .returned (.bool (l.any (fun d => !isDayB d))) ∧ w = w' := by
  obtain ⟨x, Hx⟩ : ∃ x, Hid (badAt l 0 = x) := ⟨_, rfl⟩
  go_enter Try.func61, Try.ntmps61
  go_wp2_with (go_at_call 105; refine (indexFunc_any l A c B _ hr hl).mono ?_; rw [Hx.out]; rintro e w' ⟨rfl, rfl⟩)
  go_ret
  exact ⟨ret_bool (by rw [← badAt_neg l 0, Hx.out]), rfl⟩
theorem map_nil (w : World) (r : Option Nat) : (binOp .eql 122 (.map r) (.map none)).run Try.prog w = .ok (.bool r.isNone) w := run_eql_map_nil w 122 _ _ r Try.underlying122
theorem clone_nil (w : World) : Calls Try.prog 64 #[.map none] w fun e w' => e = .returned (.map none) ∧ w = w' := by
  have q := fun (w : World) (r : Option Nat) => map_nil w r
  go_enter Try.func64, Try.ntmps64
  go_wp2
  go_ret
  exact ⟨rfl, rfl⟩
end Go.Proofs.Ytkcecijepbceiaa
