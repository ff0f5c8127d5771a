/-
  The book's small functions as contracts: Room (how much room is left), Short (few texts, together no longer than that), SameTexts.
  Conditions: sizes not below 0, lengths within what a slice may have.
-/
import Derived.WalkKit
import Derived.Deep.QuietTactic
import Derived.BigQuiet
import Derived.Lib.Hide
import Derived.Test.YtfejelcjklmchaaProg
import Derived.Test.YtfejelcjklmchaaWords
namespace Go.Proofs.Ytfejelcjklmchaa
open Go.RowKit

theorem ret_int {k : IntKind} {a b : Int} (h : a = b) : Ending.returned (.int k a) = .returned (.int k b) := by rw [h]
theorem ret_bool {a b : Bool} (h : a = b) : Ending.returned (.bool a) = .returned (.bool b) := by rw [h]
theorem ret_string {a b : ByteArray} (h : a = b) : Ending.returned (.string a) = .returned (.string b) := by rw [h]

theorem take_snoc {α : Type} {l : List α} {k : Nat} {u : α} (h : l[k]? = some u) : l.take (k + 1) = l.take k ++ [u] := by
  obtain ⟨h', e⟩ := List.getElem?_eq_some_iff.1 h
  rw [List.take_succ_eq_append_getElem h', e]
theorem drop_cons {α : Type} {l : List α} {k : Nat} {u : α} (h : l[k]? = some u) : l.drop k = u :: l.drop (k + 1) := by
  obtain ⟨h', e⟩ := List.getElem?_eq_some_iff.1 h
  rw [← e, List.getElem_cons_drop]

def ints (zs : List Int) : List Value := zs.map (Value.int .i64)
def strs (ss : List ByteArray) : List Value := ss.map Value.string
theorem ints_len (zs : List Int) : (ints zs).length = zs.length := by simp [ints]
theorem strs_len (ss : List ByteArray) : (strs ss).length = ss.length := by simp [strs]

/-- The k-th of a slice of texts, for the walk. -/
theorem str_at {w : World} {B n k : Nat} {A : Option Addr} {ss : List ByteArray} (h : Reads w B 1 A n (strs ss)) (hk : k < n) :
    ∃ ad s, A = some ad ∧ ad.block < B ∧ ss[k]? = some s ∧ w.cell? (ad.add k) = some (.string s) := by
  obtain ⟨ad, u, hA, hb, hx, hc⟩ := h.at_ hk
  simp only [strs, List.getElem?_map, Option.map_eq_some_iff] at hx
  obtain ⟨s, hs, rfl⟩ := hx
  exact ⟨ad, s, hA, hb, hs, hc⟩
theorem int_at {w : World} {B n k : Nat} {A : Option Addr} {zs : List Int} (h : Reads w B 1 A n (ints zs)) (hk : k < n) :
    ∃ ad z, A = some ad ∧ ad.block < B ∧ zs[k]? = some z ∧ w.cell? (ad.add k) = some (.int .i64 z) := by
  obtain ⟨ad, u, hA, hb, hx, hc⟩ := h.at_ hk
  simp only [ints, List.getElem?_map, Option.map_eq_some_iff] at hx
  obtain ⟨s, hs, rfl⟩ := hx
  exact ⟨ad, s, hA, hb, hs, hc⟩

/-! ### Room -/
def room (left : Int) : List Int → Int
  | [] => left
  | z :: r => if left < 0 ∨ left < z then -1 else room (left - z) r

theorem room_cons_no {left z : Int} {r : List Int} (h : left < 0 ∨ left < z) : room left (z :: r) = -1 := by simp [room, h]
theorem room_cons_yes {left z : Int} {r : List Int} (h0 : ¬ left < 0) (h : ¬ left < z) : room left (z :: r) = room (left - z) r := by simp [room, h0, h]

set_option maxHeartbeats 400000 in
theorem room_any (left : Int) (zs : List Int) (A : Option Addr) (c B : Nat) (w : World) (hr : Reads w B 1 A zs.length (ints zs)) (hl : zs.length ≤ 9223372036854775807)
    (h0 : -1 ≤ left) (h1 : left ≤ 9223372036854775807) (hz : ∀ z ∈ zs, 0 ≤ z) :
    Calls Try.prog 20 #[.int .i64 left, .slice A zs.length c] w fun e w' => e = .returned (.int .i64 (room left zs)) ∧ w = w' := by
  generalize hn : zs.length = n at *
  have Hn := Lib.hid hn; clear hn
  have Hz := Lib.hid hz; clear hz
  generalize hroom : room left zs = rm
  have Hr := Lib.hid hroom; clear hroom
  go_enter Try.func20, Try.ntmps20
  go_wp2
  go_loop [0, 5] (fun l i => ∃ (k : Nat) (x : Int), k ≤ n ∧ i = .int .i64 k ∧ l = .int .i64 x ∧ -1 ≤ x ∧ x ≤ 9223372036854775807 ∧ Hid (room x (zs.drop k) = rm)) (fun _ i => n - (intOf i).toNat)
  case atStart => exact ⟨0, left, Nat.zero_le _, rfl, rfl, h0, h1, by simpa [Hid] using Hr.out⟩
  case round =>
    obtain ⟨k, x, hk, rfl, rfl, hx0, hx1, HR⟩ := hrel
    by_cases hlt : k < n
    · obtain ⟨ad, z, rfl, hb, hzk, hc⟩ := int_at hr hlt
      have hdrop : zs.drop k = z :: zs.drop (k + 1) := by
        obtain ⟨h', e⟩ := List.getElem?_eq_some_iff.1 hzk
        rw [← e, List.getElem_cons_drop]
      have hz0 : 0 ≤ z := Hz.out z (List.mem_of_getElem? hzk)
      have HD := Lib.hid hdrop; clear hdrop hzk
      by_cases hneg : x < 0
      · go_wp2
        go_ret
        exact ⟨ret_int (by rw [← HR.out, HD.out, room_cons_no (.inl hneg)]), rfl⟩
      · by_cases hgt : x < z
        · go_wp2
          go_ret
          exact ⟨ret_int (by rw [← HR.out, HD.out, room_cons_no (.inr hgt)]), rfl⟩
        · go_wp2
          go_round
          case rel => exact ⟨k + 1, x - z, by omega, by go_num, rfl, by omega, by omega, by have := HR.out; rw [HD.out, room_cons_yes hneg hgt] at this; exact this⟩
          case measure => simp [intOf]; omega
    · go_wp2
      go_ret
      exact ⟨ret_int (by rw [← HR.out, List.drop_of_length_le (by have := Hn.out; omega)]; rfl), rfl⟩

/-! ### Short -/
def total (ss : List ByteArray) : Nat := (ss.map ByteArray.size).sum
theorem total_nil : total [] = 0 := rfl
theorem total_cons (s : ByteArray) (ss : List ByteArray) : total (s :: ss) = s.size + total ss := by simp [total]
theorem total_append (a b : List ByteArray) : total (a ++ b) = total a + total b := by simp [total]
theorem total_take_succ {ss : List ByteArray} {k : Nat} {s : ByteArray} (h : ss[k]? = some s) : total (ss.take (k + 1)) = total (ss.take k) + s.size := by
  obtain ⟨h', e⟩ := List.getElem?_eq_some_iff.1 h
  rw [List.take_succ_eq_append_getElem h', e, total_append]; simp [total]
theorem total_take_le (ss : List ByteArray) (k : Nat) : total (ss.take k) ≤ total ss := by
  conv => rhs; rw [← List.take_append_drop k ss]
  rw [total_append]; omega
theorem size_le_total {ss : List ByteArray} {s : ByteArray} (h : s ∈ ss) : s.size ≤ total ss := by
  induction ss with
  | nil => cases h
  | cons t ss ih =>
    rw [total_cons]
    rcases List.mem_cons.1 h with rfl | h
    · omega
    · have := ih h; omega
theorem total_take_mono (ss : List ByteArray) {a b : Nat} (h : a ≤ b) : total (ss.take a) ≤ total (ss.take b) := by
  have := total_take_le (ss.take b) a
  rwa [List.take_take, Nat.min_eq_left h] at this
def shortB (few rm : Nat) (ss : List ByteArray) : Bool := decide (ss.length ≤ few ∧ total ss ≤ rm)
theorem shortB_iff {few rm : Nat} {ss : List ByteArray} : shortB few rm ss = true ↔ ss.length ≤ few ∧ total ss ≤ rm := by simp [shortB]
def roomAt (rm : Nat) (t : Nat) : Int := if t ≤ rm then (rm : Int) - t else -1

set_option maxHeartbeats 400000 in
theorem short_any (few rm : Nat) (hf : few ≤ 1000000) (hrm : rm ≤ 1000000) (ss : List ByteArray) (A : Option Addr) (c : Nat) (w : World) (hr : Reads w w.heap.size 1 A ss.length (strs ss)) (hl : ss.length ≤ 9223372036854775807)
    (hs : ∀ s ∈ ss, s.size ≤ 9223372036854775807) :
    Calls Try.prog 14 #[.int .i64 few, .int .i64 rm, .slice A ss.length c] w fun e w' => e = .returned (.bool (shortB few rm ss)) ∧ Below w.heap.size w w' := by
  generalize hn : ss.length = n at *
  have Hn := Lib.hid hn; clear hn
  have Hs := Lib.hid hs; clear hs
  by_cases hfew : few < n
  · have hres : shortB few rm ss = false := by
      have := Hn.out
      simp [shortB]; omega
    have HR := Lib.hid hres; clear hres
    go_enter Try.func14, Try.ntmps14
    go_wp2
    go_ret
    exact ⟨ret_bool HR.out.symm, Below.refl _ _⟩
  · generalize hB : w.heap.size = B at *
    have HB := Lib.hid hB; clear hB
    go_enter Try.func14, Try.ntmps14
    go_wp2
    go_loopw [1, 7] (fun r i wr => ∃ (k : Nat) (x : Int), k ≤ n ∧ i = .int .i64 k ∧ r = .int .i64 x ∧ -1 ≤ x ∧ x ≤ 1000000 ∧ Hid (x = roomAt rm (total (ss.take k))) ∧ Below B w wr) (fun _ i _ => n - (intOf i).toNat)
    case atStart => exact ⟨0, rm, Nat.zero_le _, rfl, rfl, by omega, by omega, by simp [Hid, roomAt, total], Below.refl _ _⟩
    case round =>
      obtain ⟨k, x, hk, rfl, rfl, hx0, hx1, HX, hb⟩ := hrel
      have hsz := hb.size
      by_cases hlt : k < n
      · by_cases hx : 0 ≤ x
        · obtain ⟨ad, s, rfl, hbl, hsk, hc0⟩ := str_at hr hlt
          have hc : wr.cell? (ad.add k) = some (.string s) := by rw [hb.cell (by rw [block_of_add]; exact hbl)]; exact hc0
          have hss : s.size ≤ 9223372036854775807 := Hs.out s (List.mem_of_getElem? hsk)
          have HSK := Lib.hid hsk; clear hsk hc0
          go_wp2_with fail
          have hrd : Reads (wr.alloc (.cells #[.int .i64 s.size] 3)) (wr.heap.size + 1) 1 (some ⟨wr.heap.size, 0, none⟩) 1 (ints [(s.size : Int)]) := by
            refine ⟨rfl, fun _ => ⟨_, rfl, by simp, fun j u hu => ?_⟩⟩
            match j, hu with
            | 0, hu => simp [ints] at hu; subst hu; simp [go_sem]
            | j + 1, hu => simp [ints] at hu
          refine (room_any x [(s.size : Int)] _ _ _ _ hrd (by simp) hx0 (by omega) (by simp)).mono ?_
          rintro e w' ⟨rfl, rfl⟩
          go_wp2
          go_roundw
          case rel =>
            refine ⟨k + 1, _, by omega, by go_num, rfl, ?_, ?_, ?_, hb.alloc (by have := HB.out; omega) _⟩
            · unfold room; split <;> simp [room]; omega
            · unfold room; split <;> simp [room]; omega
            · show _ = _
              rw [total_take_succ HSK.out]
              have hxv := HX.out
              unfold roomAt at *
              split at hxv
              · by_cases h2 : total (ss.take k) + s.size ≤ rm
                · rw [if_pos h2, room_cons_yes (by omega) (by omega)]; simp [room]; omega
                · rw [if_neg h2, room_cons_no (by omega)]
              · omega
          case measure => simp [intOf]; omega
        · go_wp2
          go_ret
          have hres : shortB few rm ss = false := by
            have hxv := HX.out
            unfold roomAt at hxv
            have := total_take_le ss k
            split at hxv
            · omega
            · simp [shortB]; omega
          refine ⟨ret_bool ?_, hb⟩
          rw [hres]
      · go_wp2
        go_ret
        refine ⟨ret_bool ?_, hb⟩
        have hxv := HX.out
        have hN := Hn.out
        rw [List.take_of_length_le (by omega)] at hxv
        unfold roomAt at hxv
        rw [Bool.eq_iff_iff, shortB_iff]
        split at hxv <;> simp <;> omega

/-! ### SameTexts -/
def sameB (a b : List ByteArray) : Bool := decide (a = b)
theorem sameB_iff {a b : List ByteArray} : sameB a b = true ↔ a = b := by simp [sameB]
theorem sameB_self (a : List ByteArray) : sameB a a = true := by simp [sameB]
theorem bytes_eq_iff {s t : ByteArray} : (s.toList == t.toList) = true ↔ s = t := by
  rw [beq_iff_eq, ByteArray.toList_eq, ByteArray.toList_eq]
  constructor
  · intro h
    exact ByteArray.ext (Array.ext' h)
  · rintro rfl; rfl

set_option maxHeartbeats 400000 in
theorem same_any (ss tt : List ByteArray) (A A' : Option Addr) (c c' B : Nat) (w : World) (hr : Reads w B 1 A ss.length (strs ss)) (hr' : Reads w B 1 A' tt.length (strs tt))
    (hl : ss.length ≤ 9223372036854775807) (hl' : tt.length ≤ 9223372036854775807) :
    Calls Try.prog 11 #[.slice A ss.length c, .slice A' tt.length c'] w fun e w' => e = .returned (.bool (sameB ss tt)) ∧ ∃ q, w' = w.drewN q := by
  generalize hn : ss.length = n at *
  generalize hm : tt.length = m at *
  have Hn := Lib.hid hn; clear hn
  have Hm := Lib.hid hm; clear hm
  by_cases hne : n = m
  · subst hne
    go_enter Try.func11, Try.ntmps11
    go_wp2
    go_loopw [5] (fun i wr => ∃ (k q : Nat), k ≤ n ∧ i = .int .i64 k ∧ Hid (ss.take k = tt.take k) ∧ wr = w.drewN q) (fun i _ => n - (intOf i).toNat)
    case atStart => exact ⟨0, 0, Nat.zero_le _, rfl, by simp [Hid], rfl⟩
    case round =>
      obtain ⟨k, q, hk, rfl, HT, rfl⟩ := hrel
      by_cases hlt : k < n
      · obtain ⟨ad, s, rfl, _, hsk, hc⟩ := str_at hr hlt
        obtain ⟨ad', t, rfl, _, htk, hc'⟩ := str_at hr' hlt
        have Hs := Lib.hid hsk; clear hsk
        have Ht := Lib.hid htk; clear htk
        cases hst : (s.toList == t.toList)
        · go_wp2
          go_quiet (fail)
          go_wp2
          go_ret
          refine ⟨ret_bool ?_, _, World.drewN_drewN _ _ _⟩
          symm
          simp only [sameB, decide_eq_false_iff_not]
          rintro rfl
          have e := Hs.out.symm.trans Ht.out
          injection e with e
          subst e
          simp at hst
        · go_wp2
          go_quiet (fail)
          go_wp2
          go_roundw
          case rel =>
            refine ⟨k + 1, _, by omega, by go_num, ?_, rfl⟩
            show _ = _
            rw [take_snoc Hs.out, take_snoc Ht.out, HT.out, bytes_eq_iff.1 hst]
          case measure => simp [intOf]; omega
      · go_wp2
        go_ret
        refine ⟨ret_bool ?_, _, rfl⟩
        symm
        have h1 := HT.out
        rw [List.take_of_length_le (by have := Hn.out; omega), List.take_of_length_le (by have := Hm.out; omega)] at h1
        exact sameB_iff.2 h1
  · go_enter Try.func11, Try.ntmps11
    go_wp2
    go_ret
    refine ⟨ret_bool ?_, 0, rfl⟩
    symm
    simp only [sameB, decide_eq_false_iff_not]
    rintro rfl
    exact hne (Hn.out.symm.trans Hm.out)
end Go.Proofs.Ytfejelcjklmchaa
