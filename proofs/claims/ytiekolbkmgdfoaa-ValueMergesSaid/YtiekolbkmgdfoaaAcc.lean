/-
  Package money's Add as a contract, for a few numbers from 0 on.
  Conditions: numbers from 0 on whose sum is at most 2^62; an Acc that the call has made.
-/
import Derived.Test.YtiekolbkmgdfoaaWorth
import Derived.Laws.Externs
namespace Go.Proofs.Ytiekolbkmgdfoaa
open Go.RowKit

theorem add64_run (x y c : Nat) (hc : c ≤ 1) (w : World) :
    (callFunc 18 #[.int .u64 x, .int .u64 y, .int .u64 c]).run Try.prog w =
      .ok (.value (.tuple #[.int .u64 (((x + y + c) % 18446744073709551616 : Nat) : Int), .int .u64 (((x + y + c) / 18446744073709551616 : Nat) : Int)])) w := by
  rw [run_callFunc_extern Try.func18 (by kernel_rfl) (by kernel_rfl) (by kernel_rfl) (e := add64Entry) (by kernel_rfl), run_add64 x y c (by omega) (by omega) (by omega) (by omega)]
  simp only [Result.andThen]
  congr 5 <;> omega
/-- Small numbers: no carry. -/
theorem add64_small (x y : Nat) (h : x + y < 18446744073709551616) (w : World) :
    (callFunc 18 #[.int .u64 x, .int .u64 y, .int .u64 0]).run Try.prog w = .ok (.value (.tuple #[.int .u64 ((x + y : Nat) : Int), .int .u64 0])) w := by
  have h1 := add64_run x y 0 (by omega) w
  rw [show x + y + 0 = x + y from rfl, Nat.mod_eq_of_lt h, Nat.div_eq_of_lt h] at h1
  exact h1
theorem add64_none (w : World) :
    (callFunc 18 #[.int .u64 0, .int .u64 0, .int .u64 0]).run Try.prog w = .ok (.value (.tuple #[.int .u64 0, .int .u64 0])) w := add64_small 0 0 (by omega) w

def sumL (zs : List Nat) : Nat := zs.foldl (· + ·) 0
theorem sumL_take {zs : List Nat} {k z : Nat} (h : zs[k]? = some z) : sumL (zs.take (k + 1)) = sumL (zs.take k) + z := by
  unfold sumL
  rw [take_snoc h, List.foldl_append]
  rfl
theorem foldl_ge (zs : List Nat) : ∀ a : Nat, a ≤ zs.foldl (· + ·) a := by
  induction zs with
  | nil => intro a; exact Nat.le_refl _
  | cons z zs ih => intro a; exact Nat.le_trans (by omega) (ih (a + z))
theorem sumL_le (zs : List Nat) (k : Nat) : sumL (zs.take k) ≤ sumL zs := by
  conv => rhs; rw [← List.take_append_drop k zs]
  unfold sumL
  rw [List.foldl_append]
  exact foldl_ge _ _

set_option maxHeartbeats 1000000 in
theorem add_any (g : Nat) (zs : List Nat) (A : Option Addr) (cp B : Nat) (w : World) (hr : Reads w B 1 A zs.length (ints (zs.map Int.ofNat))) (hl : zs.length ≤ 1000000) (hs : sumL zs ≤ 1152921504606846976) :
    Calls Try.prog 10 #[.pointer (some ⟨g, 0, none⟩), .slice A zs.length cp] w fun e w' => e = .returned (.int .i64 (sumL zs : Nat)) ∧ w = w' := by
  obtain ⟨n, hn⟩ : ∃ n, zs.length = n := ⟨_, rfl⟩
  rw [hn] at hr hl ⊢
  have Hn := Lib.hid hn; clear hn
  have Hr := Lib.hid hr; clear hr
  go_enter Try.func10, Try.ntmps10
  go_wp2
  go_loop [5, 6, 15] (fun hi lo i => ∃ (k s : Nat), k ≤ n ∧ i = .int .i64 k ∧ hi = .int .u64 0 ∧ lo = .int .u64 s ∧ Hid (s = sumL (zs.take k))) (fun _ _ i => n - (intOf i).toNat)
  case atStart => exact ⟨0, 0, Nat.zero_le _, rfl, rfl, rfl, rfl⟩
  case round =>
    obtain ⟨k, s, hk, rfl, rfl, rfl, HS⟩ := hrel
    by_cases hlt : k < n
    · obtain ⟨ad, v, rfl, hab, hvk, hc⟩ := int_at Hr.out hlt
      obtain ⟨z, hz, rfl⟩ : ∃ z : Nat, zs[k]? = some z ∧ v = z := by
        simp only [List.getElem?_map, Option.map_eq_some_iff] at hvk
        obtain ⟨z, h1, h2⟩ := hvk
        exact ⟨z, h1, h2.symm⟩
      have hst := sumL_take hz
      rw [← HS.out] at hst
      have hle := sumL_le zs (k + 1)
      have hb : s + z ≤ 1152921504606846976 := by omega
      have HST := Lib.hid hst; clear hst hle hvk
      have Hz := Lib.hid hz; clear hz
      have hsh : (z : Int) / 9223372036854775808 = 0 := by omega
      have ha := add64_small s z (by omega) w
      have ha0 := add64_none w
      go_wp2
      go_round
      case rel => exact ⟨k + 1, s + z, by omega, by go_num, rfl, by go_num, by show _ = _; exact HST.out.symm⟩
      case measure => simp [intOf]; omega
    · obtain rfl : k = n := by omega
      have HS2 : s = sumL zs := by
        have h1 := HS.out
        rw [List.take_of_length_le (Nat.le_of_eq Hn.out)] at h1
        exact h1
      have hb : s ≤ 1152921504606846976 := by omega
      have hsh : (s : Int) / 9223372036854775808 = 0 := by omega
      go_wp2
      go_ret
      exact ⟨rfl, rfl⟩
end Go.Proofs.Ytiekolbkmgdfoaa
