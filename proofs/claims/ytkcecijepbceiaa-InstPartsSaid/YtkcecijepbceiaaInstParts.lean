/-
  The walk of InstParts: in whatever parts it is settled, the parts add up to the amount, and none is below 0.
  Conditions: ints, in a list that the call reads.
-/
import Derived.Test.YtkcecijepbceiaaInstA
import Derived.Test.YtkcecijepbceiaaAid
namespace Go.Proofs.Ytkcecijepbceiaa
open Go.RowKit

/-- An instruction of which a part is settled, in a block. -/
def InstAt (g : Nat) (q a d p : Int) (w : World) : Prop := w.heap[g]? = some (.cells #[.int .i64 0, .string ⟨#[]⟩, .string ⟨#[]⟩, .string ⟨#[]⟩, .string ⟨#[]⟩, .bool false, .string ⟨#[]⟩, .string ⟨#[]⟩, .string ⟨#[]⟩, .int .i64 q, .int .i64 a, .int .i64 0, .int .i64 0, .int .i64 0, .bool false, .bool false, .bool false, .int .i64 0, .int .i64 0, .int .i64 d, .int .i64 p] 25 (0, 0))
section
variable {g : Nat} {q a d p : Int} {w w' : World}
theorem InstAt.lt (h : InstAt g q a d p w) : g < w.heap.size := Blk.lt h
theorem InstAt.done (h : InstAt g q a d p w) : w.cell? ⟨g, 19, none⟩ = some (.int .i64 d) := by rw [Lib.cell_of_heap h]; rfl
theorem InstAt.paid (h : InstAt g q a d p w) : w.cell? ⟨g, 20, none⟩ = some (.int .i64 p) := by rw [Lib.cell_of_heap h]; rfl
theorem InstAt.frozen (h : InstAt g q a d p w) (i : Nat) : w.frozen? ⟨g, i, none⟩ = false := Lib.frozen_of_heap h i
theorem InstAt.below (h : InstAt g q a d p w) (hb : Below w.heap.size w w') : InstAt g q a d p w' := (hb.block _ h.lt).trans h
theorem InstAt.turn (h : InstAt g q a d p w) (d' p' : Int) : InstAt g q a d' p' ((w.setCell ⟨g, 19, none⟩ (.int .i64 d')).setCell ⟨g, 20, none⟩ (.int .i64 p')) := Blk.set_ (Blk.set_ h 19 _) 20 _
end

/-- A part of what is left. -/
theorem part_plain {q a d n : Int} (hq : 0 < q) (ha : 0 ≤ a) (ha2 : a ≤ 1125899906842624) (hd : 0 ≤ d) (hn : 0 ≤ n) (hdn : d + n ≤ q) :
    ∃ V : Int, Ow.owE q a d (a * d / q) n = 0 ∧ Ow.owV q a d (a * d / q) n = V ∧ 0 ≤ V ∧ a * d / q + V = a * (d + n) / q ∧ a * (d + n) / q ≤ 1125899906842624 ∧ 0 ≤ a * d / q := by
  have h1 := Ow.ow_ok (q := q) (a := a) (d := d) (n := n) hq ha ha2 hd hn hdn
  have h2 := Ow.part_mono (a := a) (d := d) (e := d + n) (q := q) ha hq (by omega)
  have h3 := Ow.part_le (a := a) (d := d + n) (q := q) ha hq hdn
  exact ⟨_, h1.1, h1.2, by omega, by omega, by omega, Ow.part_pos ha hd hq⟩

set_option maxHeartbeats 2000000 in
set_option maxRecDepth 100000 in
theorem parts_bad (q a : Int) (n : Nat) (A : Option Addr) (c : Nat) (w : World) (h : q < 1 ∨ (1 ≤ q ∧ 1099511627776 < q) ∨ (1 ≤ q ∧ q ≤ 1099511627776 ∧ a < 0) ∨ (1 ≤ q ∧ q ≤ 1099511627776 ∧ 0 ≤ a ∧ 1125899906842624 < a) ∨
      (1 ≤ q ∧ q ≤ 1099511627776 ∧ 0 ≤ a ∧ a ≤ 1125899906842624 ∧ 60 < n)) :
    Calls Try.prog 4 #[.int .i64 q, .int .i64 a, .slice A n c] w fun e w' => e = .returned (.bool true) ∧ Below w.heap.size w w' := by
  rcases h with h | ⟨h1, h⟩ | ⟨h1, h2, h⟩ | ⟨h1, h2, h3, h⟩ | ⟨h1, h2, h3, h4, h⟩
  all_goals
    go_enter Try.func4, Try.ntmps4
    go_wp2_with fail
    refine (alive12_any _).mono ?_
    rintro e w1 ⟨rfl, hb1⟩
    go_wp2
    go_ret
    exact ⟨rfl, hb1⟩

set_option maxHeartbeats 4000000 in
set_option maxRecDepth 100000 in
theorem parts_good (q a : Int) (l : List Int) (A : Option Addr) (c : Nat) (w : World) (hr : Reads w w.heap.size 1 A l.length (ints l)) (hl : l.length ≤ 60) (h1 : 1 ≤ q) (h2 : q ≤ 1099511627776) (h3 : 0 ≤ a) (h4 : a ≤ 1125899906842624) (hv : ∀ v ∈ l, -9223372036854775808 ≤ v ∧ v ≤ 9223372036854775807) :
    Calls Try.prog 4 #[.int .i64 q, .int .i64 a, .slice A l.length c] w fun e w' => e = .returned (.bool true) ∧ Below w.heap.size w w' := by
  obtain ⟨n, hn⟩ : ∃ n, l.length = n := ⟨_, rfl⟩
  rw [hn] at hr hl ⊢
  have Hn := Lib.hid hn; clear hn
  have Hr := Lib.hid hr; clear hr
  have Hv := Lib.hid hv; clear hv
  have b1 : decide (q < 1) = false := by simp; omega
  have b2 : decide (1099511627776 < q) = false := by simp; omega
  have b3 : decide (a < 0) = false := by simp; omega
  have b4 : decide (1125899906842624 < a) = false := by simp; omega
  go_enter Try.func4, Try.ntmps4
  go_wp2_with (refine wpList_store_last rfl 25 _ _ rfl _ 25 _ _ rfl rfl (by exact size_inst) (by rfl) (by simp [Value.oneCell']) ?_)
  have hk : InstAt w.heap.size q a 0 0 (w.alloc (.cells #[.int .i64 0, .string ⟨#[]⟩, .string ⟨#[]⟩, .string ⟨#[]⟩, .string ⟨#[]⟩, .bool false, .string ⟨#[]⟩, .string ⟨#[]⟩, .string ⟨#[]⟩, .int .i64 q, .int .i64 a, .int .i64 0, .int .i64 0, .int .i64 0, .bool false, .bool false, .bool false, .int .i64 0, .int .i64 0, .int .i64 0, .int .i64 0] 25)) := heap_alloc_new w _
  have HK := Lib.hid hk; clear hk
  clear b1 b2 b3 b4
  go_loopw [8] (fun i wr => ∃ (k : Nat) (d p : Int), k ≤ n + 1 ∧ i = .int .i64 k ∧ 0 ≤ d ∧ d ≤ q ∧ Hid (p = a * d / q) ∧ Hid (k = n + 1 → d = q) ∧ Hid (InstAt w.heap.size q a d p wr) ∧ Hid (Below w.heap.size w wr)) (fun i _ => n + 1 - (intOf i).toNat)
  case atStart => exact ⟨0, 0, 0, by omega, rfl, by omega, by omega, by show _ = _; simp, by intro h; omega, HK.out, (Below.refl _ _).alloc (Nat.le_refl _) _⟩
  case round =>
    obtain ⟨k, d, p, hk, rfl, hd0, hdq, HP, HE, HI, HB⟩ := hrel
    clear HK
    have hlt := HI.out.lt
    by_cases hkn : k ≤ n
    · have hcase : ∃ m : Int, 0 ≤ m ∧ d + m ≤ q ∧ (k = n → m = q - d) ∧ ((k = n ∧ m = q - d) ∨ (k < n ∧ ∃ v, l[k]? = some v ∧ ((v < 0 ∧ m = q - d) ∨ (0 ≤ v ∧ v ≤ q - d ∧ m = v) ∨ (0 ≤ v ∧ q - d < v ∧ m = q - d)))) := by
        by_cases hkk : k = n
        · exact ⟨q - d, by omega, by omega, fun _ => rfl, .inl ⟨hkk, rfl⟩⟩
        · have hlk : k < l.length := by rw [Hn.out]; omega
          have hv : l[k]? = some l[k] := List.getElem?_eq_getElem hlk
          by_cases h5 : l[k] < 0
          · exact ⟨q - d, by omega, by omega, fun h => absurd h hkk, .inr ⟨by omega, _, hv, .inl ⟨h5, rfl⟩⟩⟩
          · by_cases h6 : l[k] ≤ q - d
            · exact ⟨l[k], by omega, by omega, fun h => absurd h hkk, .inr ⟨by omega, _, hv, .inr (.inl ⟨by omega, h6, rfl⟩)⟩⟩
            · exact ⟨q - d, by omega, by omega, fun h => absurd h hkk, .inr ⟨by omega, _, hv, .inr (.inr ⟨by omega, by omega, rfl⟩)⟩⟩
      obtain ⟨m, hm0, hdm, hmn, hcase⟩ := hcase
      obtain ⟨V, e1, v1, hV0, hVs, hVm, hp0⟩ := part_plain (q := q) (a := a) (d := d) (n := m) (by omega) h3 h4 hd0 hm0 hdm
      rw [← HP.out] at e1 v1 hVs hp0
      have E1 := Lib.hid e1; have V1 := Lib.hid v1; have VS := Lib.hid hVs; have HM := Lib.hid hmn
      have hpV : p + V ≤ 1125899906842624 := by rw [hVs]; exact hVm
      clear e1 v1 hVs hmn hVm
      have hLe : Ow.left q d = q - d := Ow.left_ok hd0 hdq
      rcases hcase with ⟨hkk, hm⟩ | ⟨hkk, v, hvk, ⟨hv, hm⟩ | ⟨hv, hv2, hm⟩ | ⟨hv, hv2, hm⟩⟩
      · rw [← hm] at hLe
        have HL := Lib.hid hLe; clear hLe hm
        have hkf : decide (k < n) = false := by simp; omega
        have Hkk := Lib.hid hkk; clear hkk
        go_wp2_with (refine wpList_load_named rfl 25 _ rfl w.heap.size rfl _ _ _ HI.out Try.underlying25 rfl size_inst _ rfl ?_)
        refine (left_any _ _ _ _ _ _ _ _ _ _ _ _ _ _ _ _ _ q a d p _ (by omega) (by omega) (by omega) (by omega)).mono ?_
        rw [HL.out]
        rintro e w2 ⟨rfl, hb2⟩
        have HI2 := Lib.hid (HI.out.below hb2)
        have HB2 := Lib.hid (HB.out.trans (hb2.mono HB.out.size))
        clear hb2
        go_wp2_with (refine wpList_load_named rfl 25 _ rfl w.heap.size rfl _ _ _ HI2.out Try.underlying25 rfl size_inst _ rfl ?_)
        refine (owes_any _ _ _ _ _ _ _ _ _ _ _ _ _ _ _ _ _ q a d p m _ (by omega) (by omega) (by omega) (by omega) (by omega) (by omega) (by omega) (by omega) (by omega) (by omega)).mono ?_
        rw [E1.out, V1.out]
        rintro e w3 ⟨rfl, hb3⟩
        have HI3 := Lib.hid (HI2.out.below hb3)
        have HB3 := Lib.hid (HB2.out.trans (hb3.mono HB2.out.size))
        have c19 := HI3.out.done
        have c20 := HI3.out.paid
        have f19 := HI3.out.frozen 19
        have f20 := HI3.out.frozen 20
        clear hb3
        go_wp2
        go_roundw
        case rel => exact ⟨k + 1, d + m, p + V, by omega, by go_num, by omega, hdm, VS.out, fun h => by have := HM.out (by omega); omega, HI3.out.turn _ _, (HB3.out.setCell (p := ⟨w.heap.size, 19, none⟩) (Nat.le_refl _) _).setCell (p := ⟨w.heap.size, 20, none⟩) (Nat.le_refl _) _⟩
        case measure => simp [intOf]; omega
      · rw [← hm] at hLe
        have HL := Lib.hid hLe; clear hLe hm
        have hkf : decide (k < n) = true := by simp; omega
        go_wp2_with (refine wpList_load_named rfl 25 _ rfl w.heap.size rfl _ _ _ HI.out Try.underlying25 rfl size_inst _ rfl ?_)
        refine (left_any _ _ _ _ _ _ _ _ _ _ _ _ _ _ _ _ _ q a d p _ (by omega) (by omega) (by omega) (by omega)).mono ?_
        rw [HL.out]
        rintro e w2 ⟨rfl, hb2⟩
        have HI2 := Lib.hid (HI.out.below hb2)
        have HB2 := Lib.hid (HB.out.trans (hb2.mono HB.out.size))
        clear hb2
        obtain ⟨ad, z, rfl, hab, hzk, hc0⟩ := int_at Hr.out hkk
        obtain rfl : z = v := by rw [hvk] at hzk; exact (Option.some.inj hzk).symm
        have hc : w2.cell? (ad.add k) = some (.int .i64 z) := by rw [HB2.out.cell (p := ad.add k) (by rw [block_of_add]; exact hab)]; exact hc0
        have hv12 := Hv.out z (List.mem_of_getElem? hvk)
        have Hvk := Lib.hid hvk
        clear hc0 hzk hvk
        go_wp2_with (refine wpList_load_named rfl 25 _ rfl w.heap.size rfl _ _ _ HI2.out Try.underlying25 rfl size_inst _ rfl ?_)
        refine (owes_any _ _ _ _ _ _ _ _ _ _ _ _ _ _ _ _ _ q a d p m _ (by omega) (by omega) (by omega) (by omega) (by omega) (by omega) (by omega) (by omega) (by omega) (by omega)).mono ?_
        rw [E1.out, V1.out]
        rintro e w3 ⟨rfl, hb3⟩
        have HI3 := Lib.hid (HI2.out.below hb3)
        have HB3 := Lib.hid (HB2.out.trans (hb3.mono HB2.out.size))
        have c19 := HI3.out.done
        have c20 := HI3.out.paid
        have f19 := HI3.out.frozen 19
        have f20 := HI3.out.frozen 20
        clear hb3
        go_wp2
        go_roundw
        case rel => exact ⟨k + 1, d + m, p + V, by omega, by go_num, by omega, hdm, VS.out, fun h => by have := HM.out (by omega); omega, HI3.out.turn _ _, (HB3.out.setCell (p := ⟨w.heap.size, 19, none⟩) (Nat.le_refl _) _).setCell (p := ⟨w.heap.size, 20, none⟩) (Nat.le_refl _) _⟩
        case measure => simp [intOf]; omega
      · subst hm
        obtain ⟨Lv, hLv⟩ : ∃ Lv : Int, q - d = Lv := ⟨_, rfl⟩
        rw [hLv] at hLe hv2
        have hLv1 : Lv ≤ 1099511627776 := by omega
        have HLv := Lib.hid hLv; clear hLv
        have HL := Lib.hid hLe; clear hLe
        have hkf : decide (k < n) = true := by simp; omega
        go_wp2_with (refine wpList_load_named rfl 25 _ rfl w.heap.size rfl _ _ _ HI.out Try.underlying25 rfl size_inst _ rfl ?_)
        refine (left_any _ _ _ _ _ _ _ _ _ _ _ _ _ _ _ _ _ q a d p _ (by omega) (by omega) (by omega) (by omega)).mono ?_
        rw [HL.out]
        rintro e w2 ⟨rfl, hb2⟩
        have HI2 := Lib.hid (HI.out.below hb2)
        have HB2 := Lib.hid (HB.out.trans (hb2.mono HB.out.size))
        clear hb2
        obtain ⟨ad, z, rfl, hab, hzk, hc0⟩ := int_at Hr.out hkk
        obtain rfl : m = z := by rw [hvk] at hzk; exact Option.some.inj hzk
        have hc : w2.cell? (ad.add k) = some (.int .i64 m) := by rw [HB2.out.cell (p := ad.add k) (by rw [block_of_add]; exact hab)]; exact hc0
        have hv12 := Hv.out m (List.mem_of_getElem? hvk)
        have Hvk := Lib.hid hvk
        clear hc0 hzk hvk
        have hmin : min Lv m = m := by omega
        go_wp2_with (refine wpList_load_named rfl 25 _ rfl w.heap.size rfl _ _ _ HI2.out Try.underlying25 rfl size_inst _ rfl ?_)
        refine (owes_any _ _ _ _ _ _ _ _ _ _ _ _ _ _ _ _ _ q a d p m _ (by omega) (by omega) (by omega) (by omega) (by omega) (by omega) (by omega) (by omega) (by omega) (by omega)).mono ?_
        rw [E1.out, V1.out]
        rintro e w3 ⟨rfl, hb3⟩
        have HI3 := Lib.hid (HI2.out.below hb3)
        have HB3 := Lib.hid (HB2.out.trans (hb3.mono HB2.out.size))
        have c19 := HI3.out.done
        have c20 := HI3.out.paid
        have f19 := HI3.out.frozen 19
        have f20 := HI3.out.frozen 20
        clear hb3
        go_wp2
        go_roundw
        case rel => exact ⟨k + 1, d + m, p + V, by omega, by go_num, by omega, hdm, VS.out, fun h => by have := HM.out (by omega); omega, HI3.out.turn _ _, (HB3.out.setCell (p := ⟨w.heap.size, 19, none⟩) (Nat.le_refl _) _).setCell (p := ⟨w.heap.size, 20, none⟩) (Nat.le_refl _) _⟩
        case measure => simp [intOf]; omega
      · rw [← hm] at hLe hv2
        have HL := Lib.hid hLe; clear hLe hm
        have hkf : decide (k < n) = true := by simp; omega
        go_wp2_with (refine wpList_load_named rfl 25 _ rfl w.heap.size rfl _ _ _ HI.out Try.underlying25 rfl size_inst _ rfl ?_)
        refine (left_any _ _ _ _ _ _ _ _ _ _ _ _ _ _ _ _ _ q a d p _ (by omega) (by omega) (by omega) (by omega)).mono ?_
        rw [HL.out]
        rintro e w2 ⟨rfl, hb2⟩
        have HI2 := Lib.hid (HI.out.below hb2)
        have HB2 := Lib.hid (HB.out.trans (hb2.mono HB.out.size))
        clear hb2
        obtain ⟨ad, z, rfl, hab, hzk, hc0⟩ := int_at Hr.out hkk
        obtain rfl : z = v := by rw [hvk] at hzk; exact (Option.some.inj hzk).symm
        have hc : w2.cell? (ad.add k) = some (.int .i64 z) := by rw [HB2.out.cell (p := ad.add k) (by rw [block_of_add]; exact hab)]; exact hc0
        have hmin : min m z = m := by omega
        have hv12 := Hv.out z (List.mem_of_getElem? hvk)
        have Hvk := Lib.hid hvk
        clear hc0 hzk hvk
        go_wp2_with (refine wpList_load_named rfl 25 _ rfl w.heap.size rfl _ _ _ HI2.out Try.underlying25 rfl size_inst _ rfl ?_)
        refine (owes_any _ _ _ _ _ _ _ _ _ _ _ _ _ _ _ _ _ q a d p m _ (by omega) (by omega) (by omega) (by omega) (by omega) (by omega) (by omega) (by omega) (by omega) (by omega)).mono ?_
        rw [E1.out, V1.out]
        rintro e w3 ⟨rfl, hb3⟩
        have HI3 := Lib.hid (HI2.out.below hb3)
        have HB3 := Lib.hid (HB2.out.trans (hb3.mono HB2.out.size))
        have c19 := HI3.out.done
        have c20 := HI3.out.paid
        have f19 := HI3.out.frozen 19
        have f20 := HI3.out.frozen 20
        clear hb3
        go_wp2
        go_roundw
        case rel => exact ⟨k + 1, d + m, p + V, by omega, by go_num, by omega, hdm, VS.out, fun h => by have := HM.out (by omega); omega, HI3.out.turn _ _, (HB3.out.setCell (p := ⟨w.heap.size, 19, none⟩) (Nat.le_refl _) _).setCell (p := ⟨w.heap.size, 20, none⟩) (Nat.le_refl _) _⟩
        case measure => simp [intOf]; omega
    · have hkn1 : k = n + 1 := by omega
      have hdd := HE.out hkn1
      subst hdd
      have hpa : p = a := by rw [HP.out, Ow.part_all (by omega)]
      subst hpa
      clear hkn1
      have HX := Lib.hid hkn
      have hkf : decide (k ≤ n) = false := by simp; omega
      clear HE HP hkn hk
      go_wp2_with fail
      refine (alive12_any _).mono ?_
      rintro e w2 ⟨rfl, hb2⟩
      have HI2 := Lib.hid (HI.out.below hb2)
      have HB2 := Lib.hid (HB.out.trans (hb2.mono HB.out.size))
      have c19 := HI2.out.done
      have c20 := HI2.out.paid
      clear hb2
      go_wp2_with (refine wpList_load_named rfl 25 _ rfl w.heap.size rfl _ _ _ HI2.out Try.underlying25 rfl size_inst _ rfl ?_)
      refine (left_any _ _ _ _ _ _ _ _ _ _ _ _ _ _ _ _ _ d p d p _ (by omega) (by omega) (by omega) (by omega)).mono ?_
      rw [show Ow.left d d = 0 from by rw [Ow.left_ok (by omega) (by omega)]; omega]
      rintro e w3 ⟨rfl, hb3⟩
      go_wp2
      go_ret
      exact ⟨rfl, HB2.out.trans (hb3.mono HB2.out.size)⟩

theorem parts_walk (q a : Int) (l : List Int) (A : Option Addr) (c : Nat) (w : World) (hr : Reads w w.heap.size 1 A l.length (ints l)) (hv : ∀ v ∈ l, -9223372036854775808 ≤ v ∧ v ≤ 9223372036854775807) :
    Calls Try.prog 4 #[.int .i64 q, .int .i64 a, .slice A l.length c] w fun e w' => e = .returned (.bool true) ∧ Below w.heap.size w w' := by
  by_cases h1 : 1 ≤ q
  rotate_left
  · exact parts_bad q a _ A c w (.inl (by omega))
  by_cases h2 : q ≤ 1099511627776
  rotate_left
  · exact parts_bad q a _ A c w (.inr (.inl ⟨h1, by omega⟩))
  by_cases h3 : 0 ≤ a
  rotate_left
  · exact parts_bad q a _ A c w (.inr (.inr (.inl ⟨h1, h2, by omega⟩)))
  by_cases h4 : a ≤ 1125899906842624
  rotate_left
  · exact parts_bad q a _ A c w (.inr (.inr (.inr (.inl ⟨h1, h2, h3, by omega⟩))))
  by_cases h5 : l.length ≤ 60
  rotate_left
  · exact parts_bad q a _ A c w (.inr (.inr (.inr (.inr ⟨h1, h2, h3, h4, by omega⟩))))
  exact parts_good q a l A c w hr h5 h1 h2 h3 h4 hv
end Go.Proofs.Ytkcecijepbceiaa
