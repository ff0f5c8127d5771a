/-
  Chapter 4's own helpers as contracts: short, alive (a first call whose answer the document fixes), joined.
  Conditions: texts within what a slice and a string may have.
-/
import Derived.Test.YtfejelcjklmchaaGreatSum3
namespace Go.Proofs.YtfejelcjklmchaaGreat
open Go.RowKit

theorem short4_any (ss : List ByteArray) (A : Option Addr) (c : Nat) (w : World) (hr : Reads w w.heap.size 1 A ss.length (strs ss)) (hl : ss.length ≤ 9223372036854775807) (hs : ∀ s ∈ ss, s.size ≤ 9223372036854775807) :
    Calls Tryz.prog 4 #[.slice A ss.length c] w fun e w' => e = .returned (.bool (shortB 100 6000 ss)) ∧ Below w.heap.size w w' := by
  go_enter Tryz.func4, Tryz.ntmps4
  go_wp2_with (go_at_call 18; refine (short_any 100 6000 (by omega) (by omega) ss A c _ hr hl hs).mono ?_; rintro e w' ⟨rfl, hb⟩)
  go_ret
  exact ⟨rfl, hb⟩

theorem scan_is (s : ByteArray) (x : List (List UInt8)) (n : Nat) (hx : Sum.scan s.data.toList = (x, n)) (w : World) (hN : s.size ≤ 1000000000) :
    Calls Tryz.prog 8 #[.string s] w fun e w' => ∃ A c, e = .returned (.tuple #[.slice A x.length c, .int .i64 n]) ∧
      Reads w' w'.heap.size 1 A x.length (strs (texts x)) ∧ x.length ≤ c ∧ Below w.heap.size w w' := by
  refine (scan_any s w hN).mono ?_
  rintro e w' ⟨A, c, he, hown, hb⟩
  rw [hx] at he hown
  refine ⟨A, c, he, Reads.of_own hown, ?_, hb⟩
  rcases hown.2 with ⟨_, h0⟩ | ⟨g, cap, cur, hv, _, _, hc, _⟩
  · simp only at h0; omega
  · injection hv with _ _ h3; simp only at hc; omega
theorem frame_is (ss : List ByteArray) (A : Option Addr) (c n : Nat) (hn : ss.length = n) (l : List UInt8) (hx : Sum.frames (datas ss) = l) (w : World) (hr : Reads w w.heap.size 1 A n (strs ss)) (hN : total ss + 8 * n ≤ 1000000000) :
    Calls Tryz.prog 12 #[.slice A n c] w fun e w' => e = .returned (.string ⟨l.toArray⟩) ∧ Below w.heap.size w w' := by
  subst hn hx
  exact frame_any ss A c w hr hN
theorem crc_is (ss : List ByteArray) (A : Option Addr) (c n B x : Nat) (hn : ss.length = n) (hx : Sum.crc (cat ss) = x) (w : World) (hr : Reads w B 1 A n (strs ss)) (hs : total ss ≤ 1000000000) (hl : n ≤ 1000000000) :
    Calls Tryz.prog 9 #[.slice A n c] w fun e w' => e = .returned (.int .i64 x) ∧ w = w' := by
  subst hn hx
  exact crc_any ss A c B w hr (by omega) (fun s h => by have := size_le_total h; omega)
/-- Texts in a new block. -/
theorem reads_new (w : World) (ss : List ByteArray) (t : TypeId) (cs : Array Value) (hcs : cs.toList = strs ss) {b B : Nat} (hb : b = w.heap.size) (hB : w.heap.size < B) : Reads (w.alloc (.cells cs t)) B 1 (some ⟨b, 0, none⟩) ss.length (strs ss) := by
  subst hb
  exact   ⟨by rw [strs_len]; omega, fun _ => ⟨_, rfl, hB, fun j u hu => by
    have h : (w.alloc (.cells cs t)).heap[w.heap.size]? = some (.cells cs t (0, 0)) := heap_alloc_new w _
    have e : ((⟨w.heap.size, 0, none⟩ : Addr).add j) = ⟨w.heap.size, j, none⟩ := by
      unfold Addr.add; split
      · rename_i h; subst h; rfl
      · simp
    rw [e]
    simp only [World.cell?, h]
    rw [← hcs] at hu
    simpa using hu⟩⟩

theorem alive_frame : Sum.frames (datas [⟨#[97]⟩]) = [0, 0, 0, 1, 232, 183, 190, 67, 97] := by decide +kernel
theorem alive_scan : Sum.scan ((⟨#[0, 0, 0, 1, 232, 183, 190, 67, 97]⟩ : ByteArray) ++ ⟨#[120]⟩).data.toList = ([[97]], 9) := by
  rw [data_append]; decide +kernel
theorem alive_crc : Sum.crc (cat [⟨#[49, 50, 51, 52, 53]⟩, ⟨#[54, 55, 56, 57]⟩]) = 3421780262 := by decide +kernel
theorem alive_empty : Sum.frames (datas [⟨#[]⟩]) = [0, 0, 0, 0, 0, 0, 0, 0] := by decide +kernel

set_option maxHeartbeats 1000000 in
theorem alive4_any (w : World) :
    Calls Tryz.prog 5 #[] w fun e w' => e = .returned (.bool true) ∧ Below w.heap.size w w' := by
  go_enter Tryz.func5, Tryz.ntmps5
  go_wp2_with fail
  refine (frame_is [⟨#[97]⟩] _ _ _ rfl _ alive_frame _ (reads_new w [⟨#[97]⟩] 9 _ rfl (by simp) (by simp)) (by decide)).mono ?_
  rintro e w1 ⟨rfl, hb1⟩
  have hz1 := hb1.size
  simp only [World.size_alloc] at hz1
  have hw1 : Below w.heap.size w w1 := ((Below.refl _ _).alloc (Nat.le_refl _) _).trans (hb1.mono (by simp))
  clear hb1
  go_wp2_with fail
  refine (scan_is _ [[97]] 9 ?hx _ ?hN).mono ?_
  case hx => exact alive_scan
  case hN => rw [ByteArray.size_append']; decide
  rintro e w2 ⟨A, c, rfl, hr2, _, hb2⟩
  have hz2 := hb2.size
  have hw2 : Below w.heap.size w w2 := hw1.trans (hb2.mono (by omega))
  clear hb2 hw1
  obtain ⟨ad, u, rfl, hbl, hu, hcell⟩ := hr2.at_ (k := 0) (by decide)
  have hu' : u = .string ⟨#[97]⟩ := by
    have : strs (texts [[97]]) = [.string ⟨#[97]⟩] := rfl
    rw [this] at hu
    simpa using hu.symm
  subst hu'
  clear hu hr2
  go_wp2_with fail
  refine (crc_is [⟨#[49, 50, 51, 52, 53]⟩, ⟨#[54, 55, 56, 57]⟩] _ _ _ _ _ rfl alive_crc _ (reads_new w2 _ 9 _ rfl rfl (Nat.lt_succ_self _)) (by decide) (by decide)).mono ?_
  rintro e w3 ⟨rfl, rfl⟩
  go_wp2_with fail
  refine (frame_is [⟨#[]⟩] _ _ _ rfl _ alive_empty _ (reads_new _ [⟨#[]⟩] 9 _ rfl (by simp) (by simp)) (by decide)).mono ?_
  rintro e w4 ⟨rfl, hb4⟩
  have hc4 : w4.cell? (ad.add 0) = some (.string ⟨#[97]⟩) := by
    rw [hb4.cell (by rw [block_of_add]; simp; omega)]
    rw [World.cell?_alloc_lt _ _ _ (by rw [block_of_add]; simp; omega), World.cell?_alloc_lt _ _ _ (by rw [block_of_add]; omega)]
    exact hcell
  have hc5 : w4.cell? ad = some (.string ⟨#[97]⟩) := hc4
  clear hc4 hcell
  have hw4 : Below w.heap.size w w4 := ((hw2.alloc (by omega) _).alloc (by simp; omega) _).trans (hb4.mono (by simp; omega))
  clear hb4 hw2
  go_wp2
  go_ret
  exact ⟨rfl, hw4⟩
end Go.Proofs.YtfejelcjklmchaaGreat
