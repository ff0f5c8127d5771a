/-
  Package value's Worth as a contract, where nothing errs.
  Conditions: stocks in a list that the call reads; the pledged stocks' worths come without an error, and their sum is small.
-/
import Derived.Test.YtiekolbkmgdfoaaPick
import Derived.Test.YtiekolbkmgdfoaaAcc
namespace Go.Proofs.Ytiekolbkmgdfoaa
open Go.RowKit

namespace Vl
/-- What one stock is worth, where it may be pledged. -/
def w1 (x : St) : Nat := if x.pl then (Wo.wV x.q x.p x.c).toNat else 0
def wth (l : List St) : Nat := sumL (l.map w1)
end Vl

/-- Two numbers in a new block. -/
theorem reads_two (w : World) (u v : Nat) (t : TypeId) : Reads (w.alloc (.cells #[.int .i64 u, .int .i64 v] t)) (w.heap.size + 1) 1 (some ⟨w.heap.size, 0, none⟩) [u, v].length (ints ([u, v].map Int.ofNat)) := by
  refine ⟨rfl, fun _ => ⟨_, rfl, Nat.lt_succ_self _, fun j x hx => ?_⟩⟩
  have h : (w.alloc (.cells #[.int .i64 u, .int .i64 v] t)).heap[w.heap.size]? = some (.cells #[.int .i64 u, .int .i64 v] t (0, 0)) := heap_alloc_new w _
  have e : ((⟨w.heap.size, 0, none⟩ : Addr).add j) = ⟨w.heap.size, j, none⟩ := by
    unfold Addr.add; split
    · rename_i h; subst h; rfl
    · simp
  rw [e]
  simp only [World.cell?, h]
  simpa [ints] using hx

set_option maxHeartbeats 4000000 in
set_option maxRecDepth 100000 in
theorem vworth_any (l : List Vl.St) (A : Option Addr) (cp : Nat) (w : World) (hr : StsAt w w.heap.size A l) (hl : l.length ≤ 1000000) (hf : ∀ x ∈ l, x.fits) (he : ∀ x ∈ l, x.pl = true → Wo.wE x.q x.p x.c = 0) (hs : Vl.wth l ≤ 1152921504606846976) :
    Calls Try.prog 11 #[.slice A l.length cp] w fun e w' => e = .returned (.tuple #[.int .i64 (Vl.wth l : Nat), .int .i64 0]) ∧ Below w.heap.size w w' := by
  obtain ⟨n, hn⟩ : ∃ n, l.length = n := ⟨_, rfl⟩
  rw [hn] at hl ⊢
  have Hn := Lib.hid hn; clear hn
  have Hr := Lib.hid hr; clear hr
  have Hf := Lib.hid hf; clear hf
  have He := Lib.hid he; clear he
  go_enter Try.func11, Try.ntmps11
  go_wp2
  go_loopw [5, 12] (fun S i wr => ∃ (k s : Nat), k ≤ n ∧ i = .int .i64 k ∧ S = .int .i64 s ∧ Hid (s = sumL ((l.map Vl.w1).take k)) ∧ Hid (Below w.heap.size w wr) ∧ Hid (wr.cell? ⟨w.heap.size, 0, none⟩ = some (.bool false)) ∧ w.heap.size < wr.heap.size) (fun _ i _ => n - (intOf i).toNat)
  case atStart => exact ⟨0, 0, Nat.zero_le _, rfl, rfl, rfl, (Below.refl _ _).alloc (Nat.le_refl _) _, by show _ = _; rw [Lib.cell_of_heap (heap_alloc_new w _)]; rfl, by simp⟩
  case round =>
    obtain ⟨k, s, hk, rfl, rfl, HS, HB, HO, hszo⟩ := hrel
    have hsz := HB.out.size
    by_cases hlt : k < n
    · obtain ⟨ad, x, rfl, hab, hxk, hc0⟩ := (Hr.out.below HB.out).at_ (show k < l.length by rw [Hn.out]; exact hlt)
      have hxf := Hf.out x (List.mem_of_getElem? hxk)
      have hxe := He.out x (List.mem_of_getElem? hxk)
      have hz : (l.map Vl.w1)[k]? = some (Vl.w1 x) := by rw [List.getElem?_map, hxk]; rfl
      have hst := sumL_take hz
      have hle := sumL_le (l.map Vl.w1) (k + 1)
      have hle2 : sumL ((l.map Vl.w1).take (k + 1)) ≤ 1152921504606846976 := Nat.le_trans hle hs
      rw [← HS.out] at hst
      have HC := Lib.hid hc0; clear hc0
      obtain ⟨nm, cash, pl, u, least, p, c, close, q⟩ := x
      obtain ⟨⟨hu1, hu2⟩, ⟨hp1, hp2⟩, ⟨hc1, hc2⟩, hq1, hq2⟩ : Vl.St.fits _ := hxf
      simp only at hp1 hp2 hc1 hc2 hq1 hq2
      clear hu1 hu2
      cases pl
      · have HST := Lib.hid hst
        clear hst hz hle hle2 hxe hxk
        go_wp2_with (first
            | (refine wpList_load_cells rfl 27 _ rfl (ad.add (k * 9)) rfl [.string nm, .bool cash, .bool false, .int .i64 u, .int .i64 least, .int .i64 p, .int .i64 c, .int .i64 close, .int .i64 q] _ HC.out Try.underlying27 rfl size_stock ?_)
            | (refine wpList_store_last rfl 27 _ _ rfl _ 27 _ _ rfl rfl (by exact size_stock) (by rfl) (by simp [Value.oneCell']) ?_)
            | (refine wpList_load_block rfl 27 _ rfl wr.heap.size rfl _ _ _ (heap_alloc_new wr _) Try.underlying27 rfl size_stock ?_))
        go_round
        case rel => exact ⟨k + 1, s, by omega, by go_num, rfl, by show _ = _; exact HST.out.symm, HB.out.alloc hsz _, ((((Below.refl wr.heap.size wr).alloc (Nat.le_refl _) _).cell hszo).trans HO.out), by simp; omega⟩
        case measure => simp [intOf]; omega
      · obtain ⟨z, hz9⟩ : ∃ z : Nat, Wo.wV q p c = (z : Int) := ⟨(Wo.wV q p c).toNat, by have := Wo.wV_range q p c; omega⟩
        have hw1 : Vl.w1 ⟨nm, cash, true, u, least, p, c, close, q⟩ = z := by show (Wo.wV q p c).toNat = z; rw [hz9]; rfl
        rw [hw1] at hst
        have hsz60 : s + z ≤ 1152921504606846976 := by omega
        have HST := Lib.hid hst
        have hxe1 : Wo.wE q p c = 0 := hxe rfl
        clear hst hz hle hle2 hxk hw1 hxe
        go_wp2_with (first
            | (refine wpList_load_cells rfl 27 _ rfl (ad.add (k * 9)) rfl [.string nm, .bool cash, .bool true, .int .i64 u, .int .i64 least, .int .i64 p, .int .i64 c, .int .i64 close, .int .i64 q] _ HC.out Try.underlying27 rfl size_stock ?_)
            | (refine wpList_store_last rfl 27 _ _ rfl _ 27 _ _ rfl rfl (by exact size_stock) (by rfl) (by simp [Value.oneCell']) ?_)
            | (refine wpList_load_block rfl 27 _ rfl wr.heap.size rfl _ _ _ (heap_alloc_new wr _) Try.underlying27 rfl size_stock ?_))
        refine (worth_any q p c hq1 hq2 hp1 hp2 hc1 hc2 _).mono ?_
        rintro e w2 ⟨rfl, hb2⟩
        rw [hxe1, hz9]
        obtain ⟨hkb, hbb⟩ := new_block hb2
        have hbw2 := HB.out.trans (hbb.mono hsz)
        have hsz2 := hbw2.size
        have hO2 := (hbb.cell hszo).trans HO.out
        have HB2 := Lib.hid hbw2
        have HO2 := Lib.hid hO2
        clear hb2 hkb hbw2 hO2 hxe1 hz9
        go_wp2_with fail
        refine (add_any w.heap.size [s, z] _ _ (w2.heap.size + 1) _ (reads_two w2 s z _) (by show (2 : Nat) ≤ _; decide) ?small).mono ?_
        case small => show 0 + s + z ≤ _; omega
        rintro e w3 ⟨rfl, rfl⟩
        have hlt2 : w.heap.size < w2.heap.size := Nat.lt_of_lt_of_le hszo hbb.size
        have HC0 : Hid ((w2.alloc (.cells #[.int .i64 s, .int .i64 z] 3)).cell? ⟨w.heap.size, 0, none⟩ = some (.bool false)) := (((Below.refl w2.heap.size w2).alloc (Nat.le_refl _) _).cell hlt2).trans HO2.out
        have c0 := HC0.out
        go_wp2
        go_round
        case rel => exact ⟨k + 1, s + z, by omega, by go_num, by show Value.int .i64 ((0 + s + z : Nat) : Int) = _; rw [show 0 + s + z = s + z from by omega], by show _ = _; exact HST.out.symm, HB2.out.alloc hsz2 _, HC0, by simp; omega⟩
        case measure => simp [intOf]; omega
    · have hfin : s = Vl.wth l := by
        have h := HS.out
        rw [List.take_of_length_le (by rw [List.length_map, Hn.out]; omega)] at h
        exact h
      have HF := Lib.hid hfin; clear hfin
      go_wp2
      go_ret2
      rw [← HF.out]
      exact ⟨rfl, HB.out⟩
end Go.Proofs.Ytiekolbkmgdfoaa
