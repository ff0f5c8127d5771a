/-
 The document's calendar (complineref8) as contracts: day, has, Is, Close.
 Conditions: ints.
-/
import Derived.Test.YtnpkplegeddhcaaGreatR8f
namespace Go.Proofs.YtnpkplegeddhcaaGreat
open Go.RowKit Go.Maps Go.Shelf
attribute [local go_sem ↓] Go.wp_at_zero Go.wp_at_succ
set_option maxRecDepth 100000

theorem ints_one (l : List Int) : ∀ u ∈ ints l, u.oneCell' = true := by
 intro u hu
 unfold ints at hu
 obtain ⟨_, _, rfl⟩ := List.mem_map.1 hu
 rfl
theorem ints_take (l : List Int) (k : Nat) : ints (l.take k) = (ints l).take k := by simp [ints, List.map_take]
theorem ints_drop (l : List Int) (k : Nat) : ints (l.drop k) = (ints l).drop k := by simp [ints, List.map_drop]
theorem reads_takeI {w : World} {B n k : Nat} {A : Option Addr} {ss : List Int} (h : Reads w B 1 A n (ints ss)) (hk : k ≤ n) : Reads w B 1 A k (ints (ss.take k)) := by
 refine ⟨by have := h.1; simp [ints] at this ⊢; omega, fun hn => ?_⟩
 obtain ⟨ad, e, hb, hc⟩ := h.2 (by omega)
 refine ⟨ad, e, hb, fun j u hu => hc j u ?_⟩
 rw [ints_take, List.getElem?_take] at hu
 split at hu
 ·exact hu
 ·cases hu
def hasI (l : List Int) (d : Int) : Bool := decide (d ∈ l)
def dayB (d : Int) : Bool := decide (0 ≤ d ∧ d ≤ 1000000)
def isI (l : List Int) (d : Int) : Bool := decide (0 ≤ d ∧ d ≤ 1000000 ∧ d % 7 < 5) && !hasI l d
theorem day8_any (d : Int) (w : World) : Calls Tryz.prog 48 #[.int .i64 d] w fun e w' => e = .returned (.bool (dayB d)) ∧ w = w' := by
 by_cases h0 : 0 ≤ d
 ·by_cases h1 : d ≤ 1000000
  ·rw [show dayB d = true from decide_eq_true ⟨h0, h1⟩]
   go_enter Tryz.func48, Tryz.ntmps48
   go_wp2
   go_ret
   exact ⟨ret_bool (by first | rfl | simp | simp [h1]), rfl⟩
  ·rw [show dayB d = false from decide_eq_false (by omega)]
   have hd : decide (d ≤ 1000000) = false := decide_eq_false h1
   go_enter Tryz.func48, Tryz.ntmps48
   go_wp2
   go_ret
   exact ⟨ret_bool (by first | rfl | simp), rfl⟩
 ·rw [show dayB d = false from decide_eq_false (by omega)]
  have hd : decide ((0 : Int) ≤ d) = false := decide_eq_false h0
  go_enter Tryz.func48, Tryz.ntmps48
  go_wp2
  go_ret
  exact ⟨ret_bool (by first | rfl | simp), rfl⟩
set_option maxHeartbeats 1000000 in
theorem has8_any (x : Nat) (P : List Int) (A : Option Addr) (n c B : Nat) (d : Int) (w : World) (hn : P.length = n) (hc : w.cell? ⟨x, 0, none⟩ = some (.slice A n c)) (hr : Reads w B 1 A n (ints P)) (hl : n ≤ 9223372036854775807) :
  Calls Tryz.prog 49 #[.pointer (some ⟨x, 0, none⟩), .int .i64 d] w fun e w' => e = .returned (.bool (hasI P d)) ∧ w = w' := by
 have HR := Lib.hid hr; have HN := Lib.hid hn
 obtain ⟨b, hb⟩ : ∃ b, hasI P d = b := ⟨_, rfl⟩
 have HB := Lib.hid hb
 rw [hb]
 clear hr hn hb
 go_enter Tryz.func49, Tryz.ntmps49
 go_wp2
 go_loopw [5] (fun nn wr => ∃ i : Nat, i ≤ n ∧ nn = .int .i64 i ∧ Hid (∀ j z, j < i → P[j]? = some z → z ≠ d) ∧ wr = w) (fun nn _ => n - (intOf nn).toNat)
 case atStart => exact ⟨0, Nat.zero_le _, rfl, fun j z h => absurd h (by omega), rfl⟩
 case round =>
  obtain ⟨i, hi, rfl, HI, rfl⟩ := hrel
  have b1 : (0 : Int) ≤ (i : Int) := by omega
  by_cases hlt : i < n
  ·obtain ⟨ad, z, rfl, hab, hzk, hcz⟩ := int_at HR.out hlt
   have HZ := Lib.hid hzk
   have b2 : (i : Int) < (n : Int) := by omega
   clear hzk
   by_cases he : z = d
   ·have hq : (z == d) = true := by simp [he]
    have HT : Hid (b = true) := by
     show _ = _
     rw [← HB.out]
     exact decide_eq_true (by rw [← he]; exact List.mem_of_getElem? HZ.out)
    clear he
    go_wp2
    go_ret
    exact ⟨by rw [HT.out]; rfl, rfl⟩
   ·have hq : (z == d) = false := by simp [he]
    have HE := Lib.hid he
    clear he
    go_wp2
    go_roundw
    case rel =>
     refine ⟨i + 1, hlt, by go_num, fun j y hj hy => ?_, trivial⟩
     rcases Nat.lt_or_ge j i with h1 | h1
     ·exact HI.out j y h1 hy
     ·obtain rfl : j = i := by omega
      rw [HZ.out] at hy
      injection hy with hy
      subst hy
      exact HE.out
    case measure => simp [intOf]; omega
  ·have HF : Hid (b = false) := by
    show _ = _
    rw [← HB.out]
    refine decide_eq_false fun hm => ?_
    obtain ⟨j, hj⟩ := List.mem_iff_getElem?.1 hm
    exact HI.out j d (by have := (List.getElem?_eq_some_iff.1 hj).1; have := HN.out; omega) hj rfl
   go_wp2
   go_ret
   exact ⟨by rw [HF.out]; rfl, rfl⟩
set_option maxHeartbeats 1000000 in
theorem is8_any (x : Nat) (P : List Int) (A : Option Addr) (n c B : Nat) (d : Int) (w : World) (hn : P.length = n) (hc : w.cell? ⟨x, 0, none⟩ = some (.slice A n c)) (hr : Reads w B 1 A n (ints P)) (hl : n ≤ 9223372036854775807) :
  Calls Tryz.prog 34 #[.pointer (some ⟨x, 0, none⟩), .int .i64 d] w fun e w' => e = .returned (.bool (isI P d)) ∧ w = w' := by
 have hh := has8_any x P A n c B d w hn hc hr hl
 obtain ⟨b, hb⟩ : ∃ b, isI P d = b := ⟨_, rfl⟩
 have HB := Lib.hid hb
 rw [hb]
 clear hb hr hc hn
 by_cases h0 : 0 ≤ d ∧ d ≤ 1000000
 ·obtain ⟨g0, g1⟩ := h0
  have hd := day8_any d w
  rw [show dayB d = true from decide_eq_true ⟨g0, g1⟩] at hd
  by_cases h5 : d % 7 = 5
  ·have HF : Hid (b = false) := by show _ = _; rw [← HB.out]; unfold isI; rw [decide_eq_false (by omega)]; rfl
   have hq5 : (d % 7 != 5) = false := by simp [h5]
   have ht : d.tmod 7 = d % 7 := Int.tmod_eq_emod_of_nonneg g0
   clear h5
   go_enter Tryz.func34, Tryz.ntmps34
   go_wp2_with fail
   refine hd.mono ?_
   rintro e w1 ⟨rfl, rfl⟩
   go_wp2
   go_ret
   exact ⟨by rw [HF.out]; first | rfl | simp [hq5], rfl⟩
  ·have hq5 : (d % 7 != 5) = true := by simp [h5]
   have ht : d.tmod 7 = d % 7 := Int.tmod_eq_emod_of_nonneg g0
   by_cases h6 : d % 7 = 6
   ·have HF : Hid (b = false) := by show _ = _; rw [← HB.out]; unfold isI; rw [decide_eq_false (by omega)]; rfl
    have hq6 : (d % 7 != 6) = false := by simp [h6]
    clear h5 h6
    go_enter Tryz.func34, Tryz.ntmps34
    go_wp2_with fail
    refine hd.mono ?_
    rintro e w1 ⟨rfl, rfl⟩
    go_wp2
    go_ret
    exact ⟨by rw [HF.out]; first | rfl | simp [hq6], rfl⟩
   ·have hq6 : (d % 7 != 6) = true := by simp [h6]
    have HF : Hid (b = !hasI P d) := by show _ = _; rw [← HB.out]; unfold isI; rw [decide_eq_true (by omega)]; rfl
    clear h5 h6
    go_enter Tryz.func34, Tryz.ntmps34
    go_wp2_with fail
    refine hd.mono ?_
    rintro e w1 ⟨rfl, rfl⟩
    go_wp2_with fail
    refine hh.mono ?_
    rintro e w1 ⟨rfl, rfl⟩
    go_wp2
    go_ret
    exact ⟨by rw [HF.out]; rfl, rfl⟩
 ·have hd := day8_any d w
  rw [show dayB d = false from decide_eq_false h0] at hd
  have HF : Hid (b = false) := by show _ = _; rw [← HB.out]; unfold isI; rw [decide_eq_false (by omega)]; rfl
  clear h0
  go_enter Tryz.func34, Tryz.ntmps34
  go_wp2_with fail
  refine hd.mono ?_
  rintro e w1 ⟨rfl, rfl⟩
  go_wp2
  go_ret
  exact ⟨by rw [HF.out]; rfl, rfl⟩
end Go.Proofs.YtnpkplegeddhcaaGreat
