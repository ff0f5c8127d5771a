/-
 The document's data (complineref8) as contracts: what lies in memory; who stands at a name.
 Conditions: the caller's memory stays.
-/
import Derived.Test.YtnpkplegeddhcaaGreatRefName
import Derived.Deep.QuietTactic
import Derived.BigQuiet
import Derived.Deep.RegionHeld3
import Derived.Deep.DrawnRows
import Derived.Test.YtnpkplegeddhcaaGreatClone
import Derived.Test.YtnpkplegeddhcaaGreatRef5
namespace Go.Proofs.YtnpkplegeddhcaaGreat
open Go.RowKit Go.Maps Go.Sort

def lessS (a b : ByteArray) : Bool := Op.bytesLess a.toList b.toList
def cmpS (a b : ByteArray) : Int := if lessS a b = true then -1 else if lessS b a = true then 1 else 0
theorem lessS_iff (a b : ByteArray) : lessS a b = true ↔ a.toList < b.toList := by unfold lessS; rw [bytesLess_eq]; simp
theorem cmp_cases (a b : ByteArray) : (cmpS a b = -1 ∧ a.toList < b.toList) ∨ (cmpS a b = 1 ∧ b.toList < a.toList) ∨ (cmpS a b = 0 ∧ ¬ a.toList < b.toList ∧ ¬ b.toList < a.toList) := by
 unfold cmpS
 by_cases h1 : lessS a b = true
 ·rw [if_pos h1]; exact .inl ⟨rfl, (lessS_iff a b).1 h1⟩
 ·rw [if_neg h1]
  have h1' : ¬ a.toList < b.toList := fun h => h1 ((lessS_iff a b).2 h)
  by_cases h2 : lessS b a = true
  ·rw [if_pos h2]; exact .inr (.inl ⟨rfl, (lessS_iff b a).1 h2⟩)
  ·rw [if_neg h2]
   exact .inr (.inr ⟨rfl, h1', fun h => h2 ((lessS_iff b a).2 h)⟩)
theorem toList_inj {a b : ByteArray} (h : a.toList = b.toList) : a = b := bytes_eq_iff.1 (by rw [h]; exact beq_self_eq_true _)
theorem cmp_zero (a b : ByteArray) : cmpS a b = 0 ↔ a = b := by
 constructor
 ·intro h
  rcases cmp_cases a b with ⟨h1, _⟩ | ⟨h1, _⟩ | ⟨_, h2, h3⟩
  ·omega
  ·omega
  ·exact toList_inj (List.le_antisymm (List.not_lt.1 h3) (List.not_lt.1 h2))
 ·rintro rfl
  rcases cmp_cases a a with ⟨_, h⟩ | ⟨_, h⟩ | ⟨h, _⟩
  ·exact absurd h (List.lt_irrefl _)
  ·exact absurd h (List.lt_irrefl _)
  ·exact h
theorem cmp_swap (a b : ByteArray) : cmpS b a = - cmpS a b := by
 rcases cmp_cases a b with ⟨h1, h2⟩ | ⟨h1, h2⟩ | ⟨h1, h2, h3⟩ <;> rcases cmp_cases b a with ⟨k1, k2⟩ | ⟨k1, k2⟩ | ⟨k1, k2, k3⟩ <;> rw [h1, k1] <;> first | rfl | exact absurd k2 (List.lt_asymm h2) | exact absurd h2 k3 | exact absurd h2 k2 | exact absurd k2 h3 | exact absurd k2 h2
theorem cmp_le (a b : ByteArray) : cmpS a b ≤ 0 ↔ a.toList ≤ b.toList := by
 rcases cmp_cases a b with ⟨h1, h2⟩ | ⟨h1, h2⟩ | ⟨h1, h2, h3⟩
 ·rw [h1]; exact ⟨fun _ => List.not_lt.1 (List.lt_asymm h2), fun _ => by omega⟩
 ·rw [h1]; exact ⟨fun h => by omega, fun h => absurd h2 (List.not_lt.2 h)⟩
 ·rw [h1]; exact ⟨fun _ => List.not_lt.1 h3, fun _ => by omega⟩
theorem toList_data (a : ByteArray) : a.toList = a.data.toList := ByteArray.toList_eq a
theorem mk_data (a : ByteArray) : (⟨a.data.toList.toArray⟩ : ByteArray) = a := by cases a; simp
theorem less_iff (a b : ByteArray) : lessS a b = true ↔ a.data.toList < b.data.toList := by rw [lessS_iff, toList_data, toList_data]
theorem cmp_neg (a b : ByteArray) : cmpS a b < 0 ↔ a.data.toList < b.data.toList := by
 rcases cmp_cases a b with ⟨h, h1⟩ | ⟨h, h1⟩ | ⟨h, h1, h2⟩
 ·rw [toList_data, toList_data] at h1
  exact ⟨fun _ => h1, fun _ => by omega⟩
 ·rw [toList_data, toList_data] at h1
  exact ⟨fun _ => by omega, fun h2 => absurd h1 (List.lt_asymm h2)⟩
 ·rw [toList_data, toList_data] at h1
  exact ⟨fun _ => by omega, fun h2 => absurd h2 h1⟩
/-- Byte by byte. -/
theorem cmp_first {a b : ByteArray} {i : Nat} (ha : i < a.size) (hb : i < b.size) (he : a.data.toList.take i = b.data.toList.take i) (hlt : a[i].toNat < b[i].toNat) : cmpS a b = -1 := by
 have h : a.data.toList < b.data.toList := by
  rw [List.lt_iff_exists]
  refine .inr ⟨i, by simpa using ha, by simpa using hb, fun j hj => ?_, ?_⟩
  ·have h1 : (a.data.toList.take i)[j]? = (b.data.toList.take i)[j]? := by rw [he]
   rw [List.getElem?_take, List.getElem?_take, if_pos hj, if_pos hj] at h1
   rw [List.getElem?_eq_getElem (by simp; omega), List.getElem?_eq_getElem (by simp; omega)] at h1
   injection h1
  ·simp only [Array.getElem_toList]
   exact UInt8.lt_iff_toNat_lt.2 hlt
 have := (cmp_neg a b).2 h
 rcases cmp_cases a b with ⟨h, _⟩ | ⟨h, _⟩ | ⟨h, _⟩ <;> omega
theorem cmp_first' {a b : ByteArray} {i : Nat} (ha : i < a.size) (hb : i < b.size) (he : a.data.toList.take i = b.data.toList.take i) (hlt : b[i].toNat < a[i].toNat) : cmpS a b = 1 := by
 have := cmp_first hb ha he.symm hlt
 have := cmp_swap b a
 omega
theorem cmp_short {a b : ByteArray} (he : a.data.toList.take a.size = b.data.toList.take a.size) (hlt : a.size < b.size) : cmpS a b = -1 := by
 have h : a.data.toList < b.data.toList := by
  rw [List.lt_iff_exists]
  left
  have e : a.data.toList.length = a.size := by simp
  rw [List.take_of_length_le (by omega)] at he
  exact ⟨by rw [e]; exact he, by simpa using hlt⟩
 have := (cmp_neg a b).2 h
 rcases cmp_cases a b with ⟨h, _⟩ | ⟨h, _⟩ | ⟨h, _⟩ <;> omega
theorem cmp_short' {a b : ByteArray} (he : a.data.toList.take b.size = b.data.toList.take b.size) (hlt : b.size < a.size) : cmpS a b = 1 := by
 have := cmp_short he.symm hlt
 have := cmp_swap b a
 omega
theorem cmp_whole {a b : ByteArray} (he : a.data.toList.take a.size = b.data.toList.take a.size) (hs : a.size = b.size) : cmpS a b = 0 := by
 rw [cmp_zero]
 have e : a.data.toList.length = a.size := by simp
 have e' : b.data.toList.length = a.size := by rw [hs]; simp
 rw [List.take_of_length_le (by omega), List.take_of_length_le (by omega)] at he
 exact of_data he
end Go.Proofs.YtnpkplegeddhcaaGreat
namespace Go.Proofs.YtnpkplegeddhcaaGreat
open Go.RowKit
attribute [local go_sem ↓] Go.wp_at_zero Go.wp_at_succ
set_option maxRecDepth 100000

theorem take_more {a b : ByteArray} {i : Nat} (ha : i < a.size) (hb : i < b.size) (he : a.data.toList.take i = b.data.toList.take i) (h : a[i].toNat = b[i].toNat) : a.data.toList.take (i + 1) = b.data.toList.take (i + 1) := by
 rw [take_snoc (byte_at a ha), take_snoc (byte_at b hb), he, UInt8.toNat_inj.1 h]
set_option maxHeartbeats 1000000 in
theorem rcompare_any (a b : ByteArray) (ha : a.size ≤ 9223372036854775807) (_hb : b.size ≤ 9223372036854775807) (w : World) : Calls Tryz.prog 154 #[.string a, .string b] w fun e w' => e = .returned (.int .i64 (cmpS a b)) ∧ ∃ q, w' = w.drewN q := by
 obtain ⟨c, hc⟩ : ∃ c, cmpS a b = c := ⟨_, rfl⟩
 have HC := Lib.hid hc
 rw [hc]
 clear hc
 go_enter Tryz.func154, Tryz.ntmps154
 go_wp2
 go_loopw [5] (fun i wr => ∃ k q : Nat, k ≤ a.size ∧ k ≤ b.size ∧ i = .int .i64 k ∧ Hid (a.data.toList.take k = b.data.toList.take k) ∧ wr = w.drewN q) (fun i _ => a.size - (intOf i).toNat)
 case atStart => exact ⟨0, 0, Nat.zero_le _, Nat.zero_le _, rfl, rfl, rfl⟩
 case round =>
  obtain ⟨k, q, hka, hkb, rfl, HE, rfl⟩ := hrel
  by_cases h1 : k < a.size
  ·by_cases h2 : k < b.size
   ·have b1 := a[k].toNat_lt
    have b2 := b[k].toNat_lt
    by_cases hlt : a[k].toNat < b[k].toNat
    ·have hf : c = -1 := by rw [← HC.out]; exact cmp_first h1 h2 HE.out hlt
     subst hf
     go_wp2
     go_quiet (fail)
     go_wp2
     go_ret
     exact ⟨rfl, _, World.drewN_drewN _ _ _⟩
    ·by_cases hgt : b[k].toNat < a[k].toNat
     ·have hf : c = 1 := by rw [← HC.out]; exact cmp_first' h1 h2 HE.out hgt
      subst hf
      go_wp2
      go_quiet (fail)
      go_wp2
      go_quiet (fail)
      go_wp2
      go_ret
      exact ⟨rfl, _, by rw [World.drewN_drewN, World.drewN_drewN]⟩
     ·have HN := Lib.hid (take_more h1 h2 HE.out (by omega))
      go_wp2
      go_quiet (fail)
      go_wp2
      go_quiet (fail)
      go_wp2
      go_roundw
      case rel => exact ⟨k + 1, _, h1, h2, by go_num, HN.out, rfl⟩
      case measure => simp [intOf]; omega
   ·have hkb2 : k = b.size := by omega
    subst hkb2
    have hf : c = 1 := by rw [← HC.out]; exact cmp_short' HE.out h1
    subst hf
    go_wp2
    go_ret
    exact ⟨rfl, _, rfl⟩
  ·have hka2 : k = a.size := by omega
   subst hka2
   by_cases h2 : a.size < b.size
   ·have hf : c = -1 := by rw [← HC.out]; exact cmp_short HE.out h2
    subst hf
    go_wp2
    go_ret
    exact ⟨rfl, _, rfl⟩
   ·have hs : a.size = b.size := by omega
    have hf : c = 0 := by rw [← HC.out]; exact cmp_whole HE.out hs
    subst hf
    go_wp2
    go_ret
    exact ⟨rfl, _, rfl⟩
set_option maxHeartbeats 2000000 in
theorem rvalid_any (s : ByteArray) (hs : s.size ≤ 9223372036854775807) (w : World) : Calls Tryz.prog 153 #[.string s] w fun e w' => e = .returned (.bool (validS s)) ∧ w = w' := by
 by_cases h0 : s.size < 1
 ·have hf : validS s = false := by unfold validS; rw [decide_eq_false (by omega)]; rfl
  rw [hf]
  clear hf
  go_enter Tryz.func153, Tryz.ntmps153
  go_wp2
  go_ret
  exact ⟨rfl, rfl⟩
 ·by_cases h12 : 12 < s.size
  ·have hf : validS s = false := by unfold validS; rw [decide_eq_false (by omega)]; rfl
   rw [hf]
   clear hf
   go_enter Tryz.func153, Tryz.ntmps153
   go_wp2
   go_ret
   exact ⟨rfl, rfl⟩
  ·have hv : validS s = (List.range s.size).all (okAt s) := by unfold validS; rw [decide_eq_true (by omega)]; rfl
   rw [hv]
   clear hv
   obtain ⟨R, hR⟩ : ∃ R, (List.range s.size).all (okAt s) = R := ⟨_, rfl⟩
   rw [hR]
   have HR := Lib.hid hR; clear hR
   have hz : 0 < s.size := by omega
   have hb := byteAt_is hz
   have hb9 := byteAt_lt s 0
   obtain ⟨c0, hc0⟩ : ∃ c, byteAt s 0 = c := ⟨_, rfl⟩
   rw [hc0] at hb hb9
   have hdef : okAt s 0 = decide (65 ≤ c0 ∧ c0 ≤ 90) := by unfold okAt; rw [hc0]; simp
   have HD := Lib.hid hdef
   clear hc0 hdef
   by_cases g : 65 ≤ c0 ∧ c0 ≤ 90
   ·obtain ⟨g1, g2⟩ := g
    have H0 : Hid (okAt s 0 = true) := by show _ = _; rw [HD.out, decide_eq_true ⟨g1, g2⟩]
    clear HD
    go_enter Tryz.func153, Tryz.ntmps153
    go_wp2
    clear hb hb9 g1 g2
    go_loop [3] (fun i => ∃ k : Nat, k ≤ s.size ∧ i = .int .i64 k ∧ Hid (∀ j, j < k → okAt s j = true)) (fun i => s.size - (intOf i).toNat)
    case atStart => exact ⟨0, Nat.zero_le _, rfl, fun j h => absurd h (by omega)⟩
    case round =>
     obtain ⟨k, hk, rfl, HK⟩ := hrel
     by_cases hlt : k < s.size
     ·have hb := byteAt_is hlt
      have hb9 := byteAt_lt s k
      obtain ⟨c, hc⟩ : ∃ c, byteAt s k = c := ⟨_, rfl⟩
      rw [hc] at hb hb9
      have hdef : okAt s k = (decide (65 ≤ c ∧ c ≤ 90) || (decide (k ≠ 0) && decide (48 ≤ c ∧ c ≤ 57))) := by unfold okAt; rw [hc]
      have HD := Lib.hid hdef
      clear hc hdef
      rcases (show (65 ≤ c ∧ c ≤ 90) ∨ (48 ≤ c ∧ c ≤ 57) ∨ (c < 48) ∨ (57 < c ∧ c < 65) ∨ (90 < c) by omega) with ⟨g1, g2⟩ | ⟨g1, g2⟩ | g1 | ⟨g1, g2⟩ | g1
      ·have HOK : Hid (okAt s k = true) := by show _ = _; rw [HD.out, decide_eq_true ⟨g1, g2⟩]; rfl
       clear HD
       go_wp2
       go_round
       case rel =>
        refine ⟨k + 1, hlt, by go_num, fun j hj => ?_⟩
        rcases Nat.lt_or_ge j k with h | h
        ·exact HK.out j h
        ·obtain rfl : j = k := by omega
         exact HOK.out
       case measure => simp [intOf]; omega
      ·have HOK : Hid (okAt s k = true) := by
        show _ = _
        by_cases hk0 : k = 0
        ·rw [hk0]; exact H0.out
        ·rw [HD.out, decide_eq_true (show 48 ≤ c ∧ c ≤ 57 from ⟨g1, g2⟩), decide_eq_true hk0]; simp
       clear HD
       go_wp2
       go_round
       case rel =>
        refine ⟨k + 1, hlt, by go_num, fun j hj => ?_⟩
        rcases Nat.lt_or_ge j k with h | h
        ·exact HK.out j h
        ·obtain rfl : j = k := by omega
         exact HOK.out
       case measure => simp [intOf]; omega
      all_goals
       have HBAD : Hid (R = false) := by
        show _ = _
        rw [← HR.out, List.all_eq_false]
        refine ⟨k, List.mem_range.2 hlt, ?_⟩
        rw [HD.out, decide_eq_false (show ¬ (65 ≤ c ∧ c ≤ 90) by omega), decide_eq_false (show ¬ (48 ≤ c ∧ c ≤ 57) by omega)]
        simp
       clear HD HR
       go_wp2
       go_ret
       exact ⟨ret_bool HBAD.out.symm, rfl⟩
     ·obtain rfl : k = s.size := by omega
      have hR : R = true := by
       rw [← HR.out, List.all_eq_true]
       intro j hj
       exact HK.out j (List.mem_range.1 hj)
      have HR2 := Lib.hid hR
      clear hR HR
      go_wp2
      go_ret
      exact ⟨ret_bool HR2.out.symm, rfl⟩
   ·have HBAD : Hid (R = false) := by
     show _ = _
     rw [← HR.out, List.all_eq_false]
     exact ⟨0, List.mem_range.2 hz, by rw [HD.out, decide_eq_false g]; simp⟩
    clear HD HR
    rcases (show c0 < 65 ∨ (65 ≤ c0 ∧ 90 < c0) by omega) with g1 | ⟨g0, g1⟩
    ·clear g
     go_enter Tryz.func153, Tryz.ntmps153
     go_wp2
     go_ret
     exact ⟨ret_bool HBAD.out.symm, rfl⟩
    ·clear g
     go_enter Tryz.func153, Tryz.ntmps153
     go_wp2
     go_ret
     exact ⟨ret_bool HBAD.out.symm, rfl⟩
end Go.Proofs.YtnpkplegeddhcaaGreat
namespace Go.Proofs.YtnpkplegeddhcaaGreat
open Go.RowKit Go.Maps Go.Sort

theorem mem_lstS {D : DataW Unit} (h : GoodS D) (s : ByteArray) : s ∈ lstS D ↔ hasS D s = true := by
 obtain ⟨_, es, rfl, hk⟩ := h
 unfold lstS
 rw [List.mem_map]
 unfold hasS
 rw [has_eq, List.any_eq_true]
 constructor
 ·rintro ⟨x, hx, rfl⟩
  rw [List.mem_mergeSort] at hx
  obtain ⟨p, hp, rfl⟩ := List.mem_map.1 (show x ∈ es.map (fun p => strOf p.1) from hx)
  obtain ⟨a, ha⟩ := hk p hp
  exact ⟨p, hp, by rw [ha]; simp [strOf, kS, Lit.sameKey]⟩
 ·rintro ⟨p, hp, h⟩
  obtain ⟨a, ha⟩ := hk p hp
  have e := WideAt.sameKey_eq h
  refine ⟨a, ?_, ?_⟩
  ·rw [List.mem_mergeSort]
   exact List.mem_map.2 ⟨p, hp, by rw [ha]; rfl⟩
  ·rw [ha] at e
   unfold kS at e
   injection e with e
   rw [e]
end Go.Proofs.YtnpkplegeddhcaaGreat
namespace Go.Proofs.YtnpkplegeddhcaaGreat
open Go.RowKit Go.Maps Go.Shelf
set_option maxRecDepth 100000

section
variable {α : Type} [Kd α]
def cellsOf (l : List α) : List Value := l.flatMap fun x => (Kd.val x).cells.toList
theorem cellsOf_len {N : Nat} {l : List α} (hN : ∀ x ∈ l, (Kd.val x).cells.size = N) : (cellsOf l).length = l.length * N := by
 induction l with
 | nil => simp [cellsOf]
 | cons y l ih =>
  have h1 := ih (fun x hx => hN x (by simp [hx]))
  have h2 := hN y (by simp)
  unfold cellsOf at h1 ⊢
  rw [List.flatMap_cons, List.length_append, h1, Array.length_toList, h2, List.length_cons, Nat.succ_mul, Nat.add_comm]
theorem cells_at {N : Nat} : ∀ {l : List α}, (∀ x ∈ l, (Kd.val x).cells.size = N) → ∀ {k : Nat} {x : α}, l[k]? = some x → ∀ {j : Nat} {v : Value}, (Kd.val x).cells[j]? = some v → (cellsOf l)[k * N + j]? = some v
 | [], _, k, x, h, _, _, _ => by simp at h
 | y :: l, hN, k, x, h, j, v, hv => by
  have hy : (Kd.val y).cells.toList.length = N := by rw [Array.length_toList]; exact hN y (by simp)
  rw [← Array.getElem?_toList] at hv
  have e : cellsOf (y :: l) = (Kd.val y).cells.toList ++ cellsOf l := rfl
  rw [e]
  cases k with
  | zero =>
   simp at h
   subst h
   rw [Nat.zero_mul, Nat.zero_add, List.getElem?_append_left (List.getElem?_eq_some_iff.1 hv).1]
   exact hv
  | succ k =>
   simp only [List.getElem?_cons_succ] at h
   rw [List.getElem?_append_right (by rw [hy, Nat.succ_mul]; omega), hy, show (k + 1) * N + j - N = k * N + j by rw [Nat.succ_mul]; omega]
   exact cells_at (fun x hx => hN x (by simp [hx])) h (by rw [← Array.getElem?_toList]; exact hv)
theorem cells_inv {N : Nat} : ∀ {l : List α}, (∀ x ∈ l, (Kd.val x).cells.size = N) → ∀ {i : Nat} {v : Value}, (cellsOf l)[i]? = some v → ∃ k j x, i = k * N + j ∧ l[k]? = some x ∧ (Kd.val x).cells[j]? = some v
 | [], _, i, v, h => by simp [cellsOf] at h
 | y :: l, hN, i, v, h => by
  have hy : (Kd.val y).cells.toList.length = N := by rw [Array.length_toList]; exact hN y (by simp)
  have e : cellsOf (y :: l) = (Kd.val y).cells.toList ++ cellsOf l := rfl
  rw [e] at h
  rcases Nat.lt_or_ge i N with hi | hi
  ·rw [List.getElem?_append_left (by omega), Array.getElem?_toList] at h
   exact ⟨0, i, y, by simp, rfl, h⟩
  ·rw [List.getElem?_append_right (by omega), hy] at h
   obtain ⟨k, j, x, h1, h2, h3⟩ := cells_inv (fun x hx => hN x (by simp [hx])) h
   exact ⟨k + 1, j, x, by rw [Nat.succ_mul]; omega, h2, h3⟩
theorem cellsOf_one (l : List α) (h1 : ∀ x : α, ∀ u ∈ (Kd.val x).cells.toList, u.oneCell' = true) : ∀ u ∈ cellsOf l, u.oneCell' = true := fun u hu => by
 obtain ⟨x, _, hx⟩ := List.mem_flatMap.1 hu
 exact h1 x u hx
theorem RowsAt.reads {w : World} {B N : Nat} {A : Option Addr} {l : List α} (h : RowsAt w B A N l) (hN : ∀ x ∈ l, (Kd.val x).cells.size = N) : Reads w B N A l.length (cellsOf l) := by
 refine ⟨cellsOf_len hN, fun hn => ?_⟩
 obtain ⟨ad, e, hb, hc⟩ := h.row hn
 refine ⟨ad, e, hb, fun i u hu => ?_⟩
 obtain ⟨k, j, x, rfl, h2, h3⟩ := cells_inv hN hu
 rw [← add_of_add]
 exact hc k x h2 j u h3
theorem RowsAt.take {w : World} {B N : Nat} {A : Option Addr} {l : List α} (h : RowsAt w B A N l) (k : Nat) : RowsAt w B A N (l.take k) := ⟨fun hn => by
 obtain ⟨ad, e, hb, hc⟩ := h.row (by rw [List.length_take] at hn; omega)
 refine ⟨ad, e, hb, fun i x hx j v hv => hc i x ?_ j v hv⟩
 rw [List.getElem?_take] at hx
 split at hx
 ·exact hx
 ·cases hx⟩
theorem cellsOf_drop {N : Nat} : ∀ {l : List α}, (∀ x ∈ l, (Kd.val x).cells.size = N) → ∀ k, cellsOf (l.drop k) = (cellsOf l).drop (k * N)
 | [], _, k => by simp [cellsOf]
 | y :: l, hN, 0 => by simp
 | y :: l, hN, k + 1 => by
  have hy : (Kd.val y).cells.toList.length = N := by rw [Array.length_toList]; exact hN y (by simp)
  have e : cellsOf (y :: l) = (Kd.val y).cells.toList ++ cellsOf l := rfl
  have h1 : (Kd.val y).cells.toList.drop ((k + 1) * N) = [] := List.drop_of_length_le (by rw [hy, Nat.succ_mul]; omega)
  rw [List.drop_succ_cons, e, cellsOf_drop (fun x hx => hN x (by simp [hx])) k, List.drop_append, h1, hy, List.nil_append, show (k + 1) * N - N = k * N by rw [Nat.succ_mul]; omega]
theorem cellsOf_app (l m : List α) : cellsOf (l ++ m) = cellsOf l ++ cellsOf m := by simp [cellsOf]
theorem rows_own {w : World} {base N : Nat} {e : TypeId} {v : Value} {n : Nat} {l : List α} (h : w.ownsRow base e N v n (cellsOf l)) (hn : l.length = n) (hN : ∀ x ∈ l, (Kd.val x).cells.size = N) : ∃ A cap, v = .slice A n cap ∧ n ≤ cap ∧ RowsAt w w.heap.size A N l ∧ ∀ ad, A = some ad → base ≤ ad.block := by
 subst hn
 rcases h.2 with ⟨rfl, hx⟩ | ⟨g, cap, cur, rfl, hb, hh, hcc, _⟩
 ·have : l.length = 0 := by
   have h1 := h.1
   rw [hx] at h1
   rcases Nat.eq_zero_or_pos l.length with h2 | h2
   ·exact h2
   ·have := hx
    omega
  exact ⟨none, 0, by rw [this], by omega, ⟨fun hn => by omega⟩, fun ad e => by cases e⟩
 ·have hr := Reads.of_own h
  refine ⟨_, _, rfl, hcc, ⟨fun hn => ?_⟩, fun ad e => by injection e with e; subst e; exact hb⟩
  obtain ⟨ad, e1, hlt, hc⟩ := hr.2 hn
  refine ⟨ad, e1, hlt, fun k x hx j u hu => ?_⟩
  rw [add_of_add]
  exact hc _ u (cells_at hN hx hu)
theorem rows_newN (w : World) (l : List α) (T : TypeId) (cs : Array Value) {N : Nat} (hcs : cs.toList = cellsOf l) (hN : ∀ x ∈ l, (Kd.val x).cells.size = N) : RowsAt (w.alloc (.cells cs T)) (w.alloc (.cells cs T)).heap.size (some ⟨w.heap.size, 0, none⟩) N l := by
 refine ⟨fun _ => ⟨_, rfl, by simp, fun k x hx j u hu => ?_⟩⟩
 rw [add_of_add]
 have h : (w.alloc (.cells cs T)).heap[w.heap.size]? = some (.cells cs T (0, 0)) := heap_alloc_new w _
 have e : ∀ j, ((⟨w.heap.size, 0, none⟩ : Addr).add j) = ⟨w.heap.size, j, none⟩ := by
  intro j
  unfold Addr.add; split
  ·rename_i h; subst h; rfl
  ·simp
 rw [e]
 simp only [World.cell?, h]
 have := cells_at hN hx hu
 rw [← hcs] at this
 simpa using this
theorem RowsAt.more {w : World} {B B' N : Nat} {A : Option Addr} {l : List α} (h : RowsAt w B A N l) (hB : B ≤ B') : RowsAt w B' A N l := ⟨fun hn => by
 obtain ⟨ad, e, hb, hc⟩ := h.row hn
 exact ⟨ad, e, by omega, hc⟩⟩
theorem RowsAt.mvx {w w' : World} {x N : Nat} {S' : List Nat} {A : Option Addr} {l : List α} (h : RowsAt w w.heap.size A N l) (hm : Mv [x] S' w w') (ho : 0 < l.length → ∀ ad, A = some ad → ad.block ≠ x) : RowsAt w' w'.heap.size A N l := ⟨fun hn => by
 obtain ⟨ad, e, hb, hc⟩ := h.row hn
 refine ⟨ad, e, Nat.lt_of_lt_of_le hb hm.size, fun k y hy j v hv => ?_⟩
 rw [World.cell?_of_block (w := w) (w' := w') (by rw [block_of_add, block_of_add]; exact hm.block _ hb (by simpa using ho hn ad e))]
 exact hc k y hy j v hv⟩
theorem findK_at {P : List α} {s : ByteArray} {k : Nat} {y : α} (h : ∀ i z, i < k → P[i]? = some z → Kd.key z ≠ s) (hk : P[k]? = some y) (hy : Kd.key y = s) : findK P s = some y := by
 unfold findK
 have hsp : P = P.take k ++ P.drop k := (List.take_append_drop _ _).symm
 have hd : P.drop k = y :: P.drop (k + 1) := by
  obtain ⟨hlt, he⟩ := List.getElem?_eq_some_iff.1 hk
  rw [List.drop_eq_getElem_cons hlt, he]
 have h0 : (P.take k).find? (isK s) = none := by
  rw [List.find?_eq_none]
  intro z hz e
  obtain ⟨i, hi⟩ := List.mem_iff_getElem?.1 hz
  rw [List.getElem?_take] at hi
  split at hi
  ·exact h i z (by assumption) hi (isK_iff.1 e)
  ·cases hi
 rw [hsp, List.find?_append, h0, hd, Option.none_or, List.find?_cons, isK_iff.2 hy]
theorem findK_none {P : List α} {s : ByteArray} (h : ∀ i z, i < P.length → P[i]? = some z → Kd.key z ≠ s) : findK P s = none := by
 unfold findK
 rw [List.find?_eq_none]
 intro z hz e
 obtain ⟨i, hi⟩ := List.mem_iff_getElem?.1 hz
 exact h i z (List.getElem?_eq_some_iff.1 hi).1 hi (isK_iff.1 e)
end
theorem info_all {T : TypeId} {N B : Nat} (h : (Tryz.prog.info? T).map (fun i => (i.zero.map (·.cells.size), i.size, i.bytes)) = some (some N, N, B)) : ∃ i z, Tryz.prog.info? T = some i ∧ i.zero = some z ∧ i.size = N ∧ i.bytes = B ∧ z.cells.size = N := by
 cases hi : Tryz.prog.info? T with
 | none => rw [hi] at h; cases h
 | some i =>
  rw [hi] at h
  simp only [Option.map_some, Option.some.injEq, Prod.mk.injEq, Option.map_eq_some_iff] at h
  obtain ⟨⟨z, h1, h2⟩, h3, h4⟩ := h
  exact ⟨i, z, rfl, h1, h3, h4, h2⟩

/-- The document's data, in plain words. -/
structure R8 where
 l : List Int
 p : List Party
 a : List Account
 s : List Asset
/-- A list of records beside the data's own block. -/
def SlAt (α : Type) [Kd α] (x N : Nat) (v : Value) (P : List α) (w : World) : Prop :=
 ∃ A c, v = .slice A P.length c ∧ P.length ≤ c ∧ RowsAt w w.heap.size A N P ∧ (0 < P.length → ∀ ad, A = some ad → ad.block ≠ x)
def InAt (x : Nat) (v : Value) (l : List Int) (w : World) : Prop :=
 ∃ A c, v = .slice A l.length c ∧ l.length ≤ c ∧ Reads w w.heap.size 1 A l.length (ints l) ∧ (0 < l.length → ∀ ad, A = some ad → ad.block ≠ x)
def R8At (x : Nat) (st : R8) (w : World) : Prop :=
 ∃ vl vp va vs, w.heap[x]? = some (.cells #[vl, vp, va, vs] 39 (0, 0)) ∧ InAt x vl st.l w ∧ SlAt Party x 2 vp st.p w ∧ SlAt Account x 2 va st.a w ∧ SlAt Asset x 8 vs st.s w
theorem SlAt.mvx {α : Type} [Kd α] {x N : Nat} {v : Value} {P : List α} {w w' : World} {S' : List Nat} (h : SlAt α x N v P w) (hm : Mv [x] S' w w') : SlAt α x N v P w' := by
 obtain ⟨A, c, h1, h2, h3, h4⟩ := h
 exact ⟨A, c, h1, h2, h3.mvx hm h4, h4⟩
theorem InAt.mvx {x : Nat} {v : Value} {l : List Int} {w w' : World} {S' : List Nat} (h : InAt x v l w) (hm : Mv [x] S' w w') : InAt x v l w' := by
 obtain ⟨A, c, h1, h2, h3, h4⟩ := h
 refine ⟨A, c, h1, h2, ⟨h3.1, fun hn => ?_⟩, h4⟩
 obtain ⟨ad, e, hb, hc⟩ := h3.2 hn
 refine ⟨ad, e, Nat.lt_of_lt_of_le hb hm.size, fun j u hu => ?_⟩
 rw [World.cell?_of_block (w := w) (w' := w') (by rw [block_of_add]; exact hm.block _ hb (by simpa using h4 hn ad e))]
 exact hc j u hu
theorem mv_of_below {x : Nat} {w w' : World} (h : Below w.heap.size w w') : Mv [x] [x] w w' := Mv.of_new h (fun _ hk => .inl hk)
section
variable {x : Nat} {st : R8} {w w' : World}
theorem R8At.lt (h : R8At x st w) : x < w.heap.size := by obtain ⟨_, _, _, _, h, _⟩ := h; exact Blk.lt (t := 39) h
theorem R8At.below (h : R8At x st w) (hb : Below w.heap.size w w') : R8At x st w' := by
 have hlt := h.lt
 obtain ⟨vl, vp, va, vs, h1, h2, h3, h4, h5⟩ := h
 have hm : Mv [x] [x] w w' := mv_of_below hb
 exact ⟨vl, vp, va, vs, (hb.block x hlt).trans h1, h2.mvx hm, h3.mvx hm, h4.mvx hm, h5.mvx hm⟩
theorem R8At.drewN (h : R8At x st w) (n : Nat) : R8At x st (w.drewN n) := h.below (drewN_below (Below.refl _ _) n)
theorem R8At.frozen (h : R8At x st w) (i : Nat) : w.frozen? ⟨x, i, none⟩ = false := by
 obtain ⟨_, _, _, _, h, _⟩ := h
 exact Lib.frozen_of_heap h i
theorem mv_set (x i : Nat) (u : Value) (w : World) : Mv [x] [x] w (w.setCell ⟨x, i, none⟩ u) := (Mv.refl [x] w).set_ (by simp) i u
theorem R8At.atP (h : R8At x st w) : ∃ A c, w.cell? ⟨x, 1, none⟩ = some (.slice A st.p.length c) ∧ st.p.length ≤ c ∧ RowsAt w w.heap.size A 2 st.p ∧ (0 < st.p.length → ∀ ad, A = some ad → ad.block ≠ x) := by
 obtain ⟨vl, vp, va, vs, h1, h2, h3, h4, h5⟩ := h
 obtain ⟨A, c, rfl, h6, h7, h8⟩ := h3
 exact ⟨A, c, by rw [Lib.cell_of_heap h1]; rfl, h6, h7, h8⟩
theorem R8At.putP (h : R8At x st w) {v : Value} {P : List Party} (hv : SlAt Party x 2 v P w) : R8At x ⟨st.l, P, st.a, st.s⟩ (w.setCell ⟨x, 1, none⟩ v) := by
 obtain ⟨vl, vp, va, vs, h1, h2, h3, h4, h5⟩ := h
 have hm := mv_set x 1 v w
 exact ⟨vl, v, va, vs, Blk.set_ (show Blk w x 39 _ from h1) 1 _, h2.mvx hm, hv.mvx hm, h4.mvx hm, h5.mvx hm⟩
theorem R8At.atA (h : R8At x st w) : ∃ A c, w.cell? ⟨x, 2, none⟩ = some (.slice A st.a.length c) ∧ st.a.length ≤ c ∧ RowsAt w w.heap.size A 2 st.a ∧ (0 < st.a.length → ∀ ad, A = some ad → ad.block ≠ x) := by
 obtain ⟨vl, vp, va, vs, h1, h2, h3, h4, h5⟩ := h
 obtain ⟨A, c, rfl, h6, h7, h8⟩ := h4
 exact ⟨A, c, by rw [Lib.cell_of_heap h1]; rfl, h6, h7, h8⟩
theorem R8At.putA (h : R8At x st w) {v : Value} {P : List Account} (hv : SlAt Account x 2 v P w) : R8At x ⟨st.l, st.p, P, st.s⟩ (w.setCell ⟨x, 2, none⟩ v) := by
 obtain ⟨vl, vp, va, vs, h1, h2, h3, h4, h5⟩ := h
 have hm := mv_set x 2 v w
 exact ⟨vl, vp, v, vs, Blk.set_ (show Blk w x 39 _ from h1) 2 _, h2.mvx hm, h3.mvx hm, hv.mvx hm, h5.mvx hm⟩
theorem R8At.atS (h : R8At x st w) : ∃ A c, w.cell? ⟨x, 3, none⟩ = some (.slice A st.s.length c) ∧ st.s.length ≤ c ∧ RowsAt w w.heap.size A 8 st.s ∧ (0 < st.s.length → ∀ ad, A = some ad → ad.block ≠ x) := by
 obtain ⟨vl, vp, va, vs, h1, h2, h3, h4, h5⟩ := h
 obtain ⟨A, c, rfl, h6, h7, h8⟩ := h5
 exact ⟨A, c, by rw [Lib.cell_of_heap h1]; rfl, h6, h7, h8⟩
theorem R8At.putS (h : R8At x st w) {v : Value} {P : List Asset} (hv : SlAt Asset x 8 v P w) : R8At x ⟨st.l, st.p, st.a, P⟩ (w.setCell ⟨x, 3, none⟩ v) := by
 obtain ⟨vl, vp, va, vs, h1, h2, h3, h4, h5⟩ := h
 have hm := mv_set x 3 v w
 exact ⟨vl, vp, va, v, Blk.set_ (show Blk w x 39 _ from h1) 3 _, h2.mvx hm, h3.mvx hm, h4.mvx hm, hv.mvx hm⟩
end
theorem sizeP8 : (Tryz.prog.info? 84).map (·.size) = some 2 := by kernel_rfl
theorem csP8 (y : Party) : (Kd.val y).cells.size = 2 := rfl
theorem oneP8 (y : Party) : ∀ u ∈ (Kd.val y).cells.toList, u.oneCell' = true := by
 intro u hu
 have h : u ∈ [.string y.name, .int .i64 y.limit] := hu
 simp only [List.mem_cons, List.not_mem_nil, or_false] at h
 rcases h with rfl | rfl <;> rfl
set_option maxHeartbeats 4000000 in
theorem lookP8_any (x : Nat) (st : R8) (s : ByteArray) (w : World) (h : R8At x st w) (hlen : st.p.length ≤ 9223372036854775807) :
  Calls Tryz.prog 28 #[.pointer (some ⟨x, 0, none⟩), .string s] w fun e w' => e = .returned (.tuple #[Kd.val ((findK st.p s).getD Kd.zero), .bool (findK st.p s).isSome]) ∧ Below w.heap.size w w' := by
 have hxl := h.lt
 obtain ⟨A, c, hcell, hcap, hrow, _⟩ := h.atP
 obtain ⟨P, hP⟩ : ∃ P, st.p = P := ⟨_, rfl⟩
 rw [hP] at hcell hcap hrow hlen ⊢
 obtain ⟨n, hn⟩ : ∃ n, P.length = n := ⟨_, rfl⟩
 rw [hn] at hcell hcap hlen
 have hcx : (w.alloc (.cells #[.string ⟨#[]⟩, .int .i64 0] 84)).cell? ⟨x, 1, none⟩ = some (.slice A n c) := (World.cell?_alloc_lt _ _ _ (show x < w.heap.size from hxl)).trans hcell
 have HR := Lib.hid hrow; have Hn := Lib.hid hn
 clear hrow hn hP h hcell
 go_enter Tryz.func28, Tryz.ntmps28
 go_wp2
 go_loopw [6] (fun nn wr => ∃ i : Nat, i ≤ n ∧ nn = .int .i64 i ∧ Hid (∀ j z, j < i → P[j]? = some z → Kd.key z ≠ s) ∧ wr = w.alloc (.cells #[.string ⟨#[]⟩, .int .i64 0] 84)) (fun nn _ => n - (intOf nn).toNat)
 case atStart => exact ⟨0, Nat.zero_le _, rfl, fun j z h => absurd h (by omega), rfl⟩
 case round =>
  obtain ⟨i, hi, rfl, HI, rfl⟩ := hrel
  have b1 : (0 : Int) ≤ (i : Int) := by omega
  by_cases hlt : i < n
  ·obtain ⟨ad, y, rfl, hab, hyk, hym, hc⟩ := HR.out.at_ (show i < P.length by rw [Hn.out]; exact hlt)
   have hc' : ∀ j v, (Kd.val y).cells[j]? = some v → (w.alloc (.cells #[.string ⟨#[]⟩, .int .i64 0] 84)).cell? ((ad.add (i * 2)).add j) = some v := fun j v hj => (World.cell?_alloc_lt _ _ _ (by rw [block_of_add, block_of_add]; exact hab)).trans (hc j v hj)
   have e0 : (w.alloc (.cells #[.string ⟨#[]⟩, .int .i64 0] 84)).cell? (ad.add (i * 2)) = some (.string y.name) := by have h := hc' 0 _ rfl; rw [show (ad.add (i * 2)).add 0 = ad.add (i * 2) from by rw [add_of_add]; rfl] at h; exact h
   have e1 : (w.alloc (.cells #[.string ⟨#[]⟩, .int .i64 0] 84)).cell? ⟨(ad.add (i * 2)).block, (ad.add (i * 2)).off + 1, none⟩ = some (.int .i64 y.limit) := hc' 1 _ rfl
   have HYK := Lib.hid hyk
   have b2 : (i : Int) < (n : Int) := by omega
   clear hc hc' hyk hym
   by_cases he : y.name = s
   ·have hq : (y.name.toList == s.toList) = true := by rw [he]; simp
    have HF : Hid (findK P s = some y) := findK_at HI.out HYK.out he
    clear he
    go_wp2
    refine bodyPost_ret (results_cell_tmp_row rfl _ _ w.heap.size _ _ _ _ rfl (heap_alloc_new w _) Tryz.underlying84 rfl sizeP8) rfl ?_
    rw [HF.out]
    exact ⟨rfl, (Below.refl _ _).alloc (Nat.le_refl _) _⟩
   ·have hq : (y.name.toList == s.toList) = false := by
     rw [beq_eq_false_iff_ne]
     exact fun e => he (toList_inj e)
    have HE := Lib.hid he
    clear he
    go_wp2
    go_roundw
    case rel =>
     refine ⟨i + 1, hlt, by go_num, fun j z hj hz => ?_, trivial⟩
     rcases Nat.lt_or_ge j i with h1 | h1
     ·exact HI.out j z h1 hz
     ·obtain rfl : j = i := by omega
      rw [HYK.out] at hz
      injection hz with hz
      subst hz
      exact HE.out
    case measure => simp [intOf]; omega
  ·have hin : i = n := by omega
   have HF : Hid (findK P s = none) := findK_none (fun j z hj hz => HI.out j z (by rw [Hn.out] at hj; omega) hz)
   clear hin
   go_wp2
   refine bodyPost_ret (results_cell_tmp_row rfl _ _ w.heap.size _ _ _ _ rfl (heap_alloc_new w _) Tryz.underlying84 rfl sizeP8) rfl ?_
   rw [HF.out]
   exact ⟨rfl, (Below.refl _ _).alloc (Nat.le_refl _) _⟩
theorem sizeA8 : (Tryz.prog.info? 88).map (·.size) = some 2 := by kernel_rfl
theorem csA8 (y : Account) : (Kd.val y).cells.size = 2 := rfl
theorem oneA8 (y : Account) : ∀ u ∈ (Kd.val y).cells.toList, u.oneCell' = true := by
 intro u hu
 have h : u ∈ [.string y.name, .string y.party] := hu
 simp only [List.mem_cons, List.not_mem_nil, or_false] at h
 rcases h with rfl | rfl <;> rfl
set_option maxHeartbeats 4000000 in
theorem lookA8_any (x : Nat) (st : R8) (s : ByteArray) (w : World) (h : R8At x st w) (hlen : st.a.length ≤ 9223372036854775807) :
  Calls Tryz.prog 30 #[.pointer (some ⟨x, 0, none⟩), .string s] w fun e w' => e = .returned (.tuple #[Kd.val ((findK st.a s).getD Kd.zero), .bool (findK st.a s).isSome]) ∧ Below w.heap.size w w' := by
 have hxl := h.lt
 obtain ⟨A, c, hcell, hcap, hrow, _⟩ := h.atA
 obtain ⟨P, hP⟩ : ∃ P, st.a = P := ⟨_, rfl⟩
 rw [hP] at hcell hcap hrow hlen ⊢
 obtain ⟨n, hn⟩ : ∃ n, P.length = n := ⟨_, rfl⟩
 rw [hn] at hcell hcap hlen
 have hcx : (w.alloc (.cells #[.string ⟨#[]⟩, .string ⟨#[]⟩] 88)).cell? ⟨x, 2, none⟩ = some (.slice A n c) := (World.cell?_alloc_lt _ _ _ (show x < w.heap.size from hxl)).trans hcell
 have HR := Lib.hid hrow; have Hn := Lib.hid hn
 clear hrow hn hP h hcell
 go_enter Tryz.func30, Tryz.ntmps30
 go_wp2
 go_loopw [6] (fun nn wr => ∃ i : Nat, i ≤ n ∧ nn = .int .i64 i ∧ Hid (∀ j z, j < i → P[j]? = some z → Kd.key z ≠ s) ∧ wr = w.alloc (.cells #[.string ⟨#[]⟩, .string ⟨#[]⟩] 88)) (fun nn _ => n - (intOf nn).toNat)
 case atStart => exact ⟨0, Nat.zero_le _, rfl, fun j z h => absurd h (by omega), rfl⟩
 case round =>
  obtain ⟨i, hi, rfl, HI, rfl⟩ := hrel
  have b1 : (0 : Int) ≤ (i : Int) := by omega
  by_cases hlt : i < n
  ·obtain ⟨ad, y, rfl, hab, hyk, hym, hc⟩ := HR.out.at_ (show i < P.length by rw [Hn.out]; exact hlt)
   have hc' : ∀ j v, (Kd.val y).cells[j]? = some v → (w.alloc (.cells #[.string ⟨#[]⟩, .string ⟨#[]⟩] 88)).cell? ((ad.add (i * 2)).add j) = some v := fun j v hj => (World.cell?_alloc_lt _ _ _ (by rw [block_of_add, block_of_add]; exact hab)).trans (hc j v hj)
   have e0 : (w.alloc (.cells #[.string ⟨#[]⟩, .string ⟨#[]⟩] 88)).cell? (ad.add (i * 2)) = some (.string y.name) := by have h := hc' 0 _ rfl; rw [show (ad.add (i * 2)).add 0 = ad.add (i * 2) from by rw [add_of_add]; rfl] at h; exact h
   have e1 : (w.alloc (.cells #[.string ⟨#[]⟩, .string ⟨#[]⟩] 88)).cell? ⟨(ad.add (i * 2)).block, (ad.add (i * 2)).off + 1, none⟩ = some (.string y.party) := hc' 1 _ rfl
   have HYK := Lib.hid hyk
   have b2 : (i : Int) < (n : Int) := by omega
   clear hc hc' hyk hym
   by_cases he : y.name = s
   ·have hq : (y.name.toList == s.toList) = true := by rw [he]; simp
    have HF : Hid (findK P s = some y) := findK_at HI.out HYK.out he
    clear he
    go_wp2
    refine bodyPost_ret (results_cell_tmp_row rfl _ _ w.heap.size _ _ _ _ rfl (heap_alloc_new w _) Tryz.underlying88 rfl sizeA8) rfl ?_
    rw [HF.out]
    exact ⟨rfl, (Below.refl _ _).alloc (Nat.le_refl _) _⟩
   ·have hq : (y.name.toList == s.toList) = false := by
     rw [beq_eq_false_iff_ne]
     exact fun e => he (toList_inj e)
    have HE := Lib.hid he
    clear he
    go_wp2
    go_roundw
    case rel =>
     refine ⟨i + 1, hlt, by go_num, fun j z hj hz => ?_, trivial⟩
     rcases Nat.lt_or_ge j i with h1 | h1
     ·exact HI.out j z h1 hz
     ·obtain rfl : j = i := by omega
      rw [HYK.out] at hz
      injection hz with hz
      subst hz
      exact HE.out
    case measure => simp [intOf]; omega
  ·have hin : i = n := by omega
   have HF : Hid (findK P s = none) := findK_none (fun j z hj hz => HI.out j z (by rw [Hn.out] at hj; omega) hz)
   clear hin
   go_wp2
   refine bodyPost_ret (results_cell_tmp_row rfl _ _ w.heap.size _ _ _ _ rfl (heap_alloc_new w _) Tryz.underlying88 rfl sizeA8) rfl ?_
   rw [HF.out]
   exact ⟨rfl, (Below.refl _ _).alloc (Nat.le_refl _) _⟩
theorem sizeS8 : (Tryz.prog.info? 92).map (·.size) = some 8 := by kernel_rfl
theorem csS8 (y : Asset) : (Kd.val y).cells.size = 8 := rfl
theorem oneS8 (y : Asset) : ∀ u ∈ (Kd.val y).cells.toList, u.oneCell' = true := by
 intro u hu
 have h : u ∈ [.string y.name, .bool y.cash, .bool y.pledge, .int .i64 y.unit, .int .i64 y.least, .int .i64 y.price, .int .i64 y.cut, .int .i64 y.close] := hu
 simp only [List.mem_cons, List.not_mem_nil, or_false] at h
 rcases h with rfl | rfl | rfl | rfl | rfl | rfl | rfl | rfl <;> rfl
set_option maxHeartbeats 4000000 in
theorem lookS8_any (x : Nat) (st : R8) (s : ByteArray) (w : World) (h : R8At x st w) (hlen : st.s.length ≤ 9223372036854775807) :
  Calls Tryz.prog 32 #[.pointer (some ⟨x, 0, none⟩), .string s] w fun e w' => e = .returned (.tuple #[Kd.val ((findK st.s s).getD Kd.zero), .bool (findK st.s s).isSome]) ∧ Below w.heap.size w w' := by
 have hxl := h.lt
 obtain ⟨A, c, hcell, hcap, hrow, _⟩ := h.atS
 obtain ⟨P, hP⟩ : ∃ P, st.s = P := ⟨_, rfl⟩
 rw [hP] at hcell hcap hrow hlen ⊢
 obtain ⟨n, hn⟩ : ∃ n, P.length = n := ⟨_, rfl⟩
 rw [hn] at hcell hcap hlen
 have hcx : (w.alloc (.cells #[.string ⟨#[]⟩, .bool false, .bool false, .int .i64 0, .int .i64 0, .int .i64 0, .int .i64 0, .int .i64 0] 92)).cell? ⟨x, 3, none⟩ = some (.slice A n c) := (World.cell?_alloc_lt _ _ _ (show x < w.heap.size from hxl)).trans hcell
 have HR := Lib.hid hrow; have Hn := Lib.hid hn
 clear hrow hn hP h hcell
 go_enter Tryz.func32, Tryz.ntmps32
 go_wp2
 go_loopw [6] (fun nn wr => ∃ i : Nat, i ≤ n ∧ nn = .int .i64 i ∧ Hid (∀ j z, j < i → P[j]? = some z → Kd.key z ≠ s) ∧ wr = w.alloc (.cells #[.string ⟨#[]⟩, .bool false, .bool false, .int .i64 0, .int .i64 0, .int .i64 0, .int .i64 0, .int .i64 0] 92)) (fun nn _ => n - (intOf nn).toNat)
 case atStart => exact ⟨0, Nat.zero_le _, rfl, fun j z h => absurd h (by omega), rfl⟩
 case round =>
  obtain ⟨i, hi, rfl, HI, rfl⟩ := hrel
  have b1 : (0 : Int) ≤ (i : Int) := by omega
  by_cases hlt : i < n
  ·obtain ⟨ad, y, rfl, hab, hyk, hym, hc⟩ := HR.out.at_ (show i < P.length by rw [Hn.out]; exact hlt)
   have hc' : ∀ j v, (Kd.val y).cells[j]? = some v → (w.alloc (.cells #[.string ⟨#[]⟩, .bool false, .bool false, .int .i64 0, .int .i64 0, .int .i64 0, .int .i64 0, .int .i64 0] 92)).cell? ((ad.add (i * 8)).add j) = some v := fun j v hj => (World.cell?_alloc_lt _ _ _ (by rw [block_of_add, block_of_add]; exact hab)).trans (hc j v hj)
   have e0 : (w.alloc (.cells #[.string ⟨#[]⟩, .bool false, .bool false, .int .i64 0, .int .i64 0, .int .i64 0, .int .i64 0, .int .i64 0] 92)).cell? (ad.add (i * 8)) = some (.string y.name) := by have h := hc' 0 _ rfl; rw [show (ad.add (i * 8)).add 0 = ad.add (i * 8) from by rw [add_of_add]; rfl] at h; exact h
   have e1 : (w.alloc (.cells #[.string ⟨#[]⟩, .bool false, .bool false, .int .i64 0, .int .i64 0, .int .i64 0, .int .i64 0, .int .i64 0] 92)).cell? ⟨(ad.add (i * 8)).block, (ad.add (i * 8)).off + 1, none⟩ = some (.bool y.cash) := hc' 1 _ rfl
   have e2 : (w.alloc (.cells #[.string ⟨#[]⟩, .bool false, .bool false, .int .i64 0, .int .i64 0, .int .i64 0, .int .i64 0, .int .i64 0] 92)).cell? ⟨(ad.add (i * 8)).block, (ad.add (i * 8)).off + 2, none⟩ = some (.bool y.pledge) := hc' 2 _ rfl
   have e3 : (w.alloc (.cells #[.string ⟨#[]⟩, .bool false, .bool false, .int .i64 0, .int .i64 0, .int .i64 0, .int .i64 0, .int .i64 0] 92)).cell? ⟨(ad.add (i * 8)).block, (ad.add (i * 8)).off + 3, none⟩ = some (.int .i64 y.unit) := hc' 3 _ rfl
   have e4 : (w.alloc (.cells #[.string ⟨#[]⟩, .bool false, .bool false, .int .i64 0, .int .i64 0, .int .i64 0, .int .i64 0, .int .i64 0] 92)).cell? ⟨(ad.add (i * 8)).block, (ad.add (i * 8)).off + 4, none⟩ = some (.int .i64 y.least) := hc' 4 _ rfl
   have e5 : (w.alloc (.cells #[.string ⟨#[]⟩, .bool false, .bool false, .int .i64 0, .int .i64 0, .int .i64 0, .int .i64 0, .int .i64 0] 92)).cell? ⟨(ad.add (i * 8)).block, (ad.add (i * 8)).off + 5, none⟩ = some (.int .i64 y.price) := hc' 5 _ rfl
   have e6 : (w.alloc (.cells #[.string ⟨#[]⟩, .bool false, .bool false, .int .i64 0, .int .i64 0, .int .i64 0, .int .i64 0, .int .i64 0] 92)).cell? ⟨(ad.add (i * 8)).block, (ad.add (i * 8)).off + 6, none⟩ = some (.int .i64 y.cut) := hc' 6 _ rfl
   have e7 : (w.alloc (.cells #[.string ⟨#[]⟩, .bool false, .bool false, .int .i64 0, .int .i64 0, .int .i64 0, .int .i64 0, .int .i64 0] 92)).cell? ⟨(ad.add (i * 8)).block, (ad.add (i * 8)).off + 7, none⟩ = some (.int .i64 y.close) := hc' 7 _ rfl
   have HYK := Lib.hid hyk
   have b2 : (i : Int) < (n : Int) := by omega
   clear hc hc' hyk hym
   by_cases he : y.name = s
   ·have hq : (y.name.toList == s.toList) = true := by rw [he]; simp
    have HF : Hid (findK P s = some y) := findK_at HI.out HYK.out he
    clear he
    go_wp2
    refine bodyPost_ret (results_cell_tmp_row rfl _ _ w.heap.size _ _ _ _ rfl (heap_alloc_new w _) Tryz.underlying92 rfl sizeS8) rfl ?_
    rw [HF.out]
    exact ⟨rfl, (Below.refl _ _).alloc (Nat.le_refl _) _⟩
   ·have hq : (y.name.toList == s.toList) = false := by
     rw [beq_eq_false_iff_ne]
     exact fun e => he (toList_inj e)
    have HE := Lib.hid he
    clear he
    go_wp2
    go_roundw
    case rel =>
     refine ⟨i + 1, hlt, by go_num, fun j z hj hz => ?_, trivial⟩
     rcases Nat.lt_or_ge j i with h1 | h1
     ·exact HI.out j z h1 hz
     ·obtain rfl : j = i := by omega
      rw [HYK.out] at hz
      injection hz with hz
      subst hz
      exact HE.out
    case measure => simp [intOf]; omega
  ·have hin : i = n := by omega
   have HF : Hid (findK P s = none) := findK_none (fun j z hj hz => HI.out j z (by rw [Hn.out] at hj; omega) hz)
   clear hin
   go_wp2
   refine bodyPost_ret (results_cell_tmp_row rfl _ _ w.heap.size _ _ _ _ rfl (heap_alloc_new w _) Tryz.underlying92 rfl sizeS8) rfl ?_
   rw [HF.out]
   exact ⟨rfl, (Below.refl _ _).alloc (Nat.le_refl _) _⟩
end Go.Proofs.YtnpkplegeddhcaaGreat
