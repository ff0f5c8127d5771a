/-
  The walk of RefAll: of several that are added all are there, or none; in one call or one by one it is the same, if each is OK.
  Conditions: assets, in a list that the call reads.
-/
import Derived.Test.YtnpkplegeddhcaaRef7
import Derived.Test.YtnpkplegeddhcaaRefAllPlain
import Derived.Test.YtnpkplegeddhcaaAsEq
namespace Go.Proofs.Ytnpkplegeddhcaa
open Go.RowKit Go.Maps Go.Shelf

set_option maxHeartbeats 40000000 in
set_option maxRecDepth 10000 in
theorem rall_walk (l : List Asset) (A : Option Addr) (c : Nat) (w : World) (hr : RowsAt w w.heap.size A 8 l) (hl : l.length ≤ 9223372036854775807) :
    Calls Try.prog 3 #[.slice A l.length c] w fun e w' => e = .returned (.bool true) ∧ Below w.heap.size w w' := by
  by_cases h20 : 20 < l.length
  · obtain ⟨n, hn⟩ : ∃ n, l.length = n := ⟨_, rfl⟩
    rw [hn] at h20 hl ⊢
    clear hn hr
    go_enter Try.func3, Try.ntmps3
    go_wp2_with fail
    refine (alive9_any _).mono ?_
    rintro e w1 ⟨rfl, hb1⟩
    go_wp2
    go_ret
    exact ⟨rfl, hb1⟩
  · have HADD := Lib.hid (fun (r : Nat) (W : World) (h : RefAt r rf0 W) (hrr : RowsAt W W.heap.size A 8 l) => addAssets_any r rf0 rf0_ok l A c W h hrr hl)
    obtain ⟨D, hD⟩ : ∃ D, (goR validS 12 (fun _ => 0) canI (.map []) l).2 = D := ⟨_, rfl⟩
    obtain ⟨E, hE⟩ : ∃ E, errS rf0 l = E := ⟨_, rfl⟩
    have hgo : goR validS 12 (fun _ => 0) canI (.map []) l = (E, D) := by rw [← hD, ← hE]; rfl
    have hgood := goR_good (valid := validS) (most := 12) (ahead := fun _ => 0) (behind := canI) (had := .map []) ⟨goodR_none, by decide⟩
    have HA0 : Hid (E = 0 → addS' rf0 l = ⟨rf0.p, rf0.a, D⟩ ∧ Maps.size D = l.length) := by
      intro h
      subst h
      refine ⟨?_, ?_⟩
      · unfold addS'
        rw [show rf0.s = .map [] from rfl, (out_ok hgo).2]
      · rw [goR_size goodR_none hgo]
        exact Nat.zero_add _
    have HA1 : Hid (E ≠ 0 → (rowsOf Asset (addS' rf0 l).s).length = 0) := by
      intro h
      unfold addS' outR
      rw [show rf0.s = .map [] from rfl, hgo, if_neg h, rows_len goodR_none]
      rfl
    have HGOOD := Lib.hid hgood
    have HGO := Lib.hid hgo
    have HOK := Lib.hid (addS_ok rf0_ok l)
    rw [hE] at HADD
    obtain ⟨n, hn⟩ : ∃ n, l.length = n := ⟨_, rfl⟩
    rw [hn] at h20 hl HADD HA0 ⊢
    have Hn := Lib.hid hn
    have HR := Lib.hid hr
    clear hn hr hgo hgood hD hE
    go_enter Try.func3, Try.ntmps3
    go_wp2_with fail
    refine (new_nil w).mono ?_
    rintro e w1 ⟨r, rfl, hr, hk1, hb1, _⟩
    have HB1 := Lib.hid hb1; have HK1 := Lib.hid hk1
    clear hk1 hb1
    go_wp2_with fail
    refine (new_nil w1).mono ?_
    rintro e w2 ⟨x, rfl, hx, hk2, hb2, _⟩
    have HB2 := Lib.hid (HB1.out.trans (hb2.mono HB1.out.size))
    have HX2 := Lib.hid hk2
    have HK2 := Lib.hid (HK1.out.below hb2)
    have hxr : x ≠ r := by have := HK1.out.lt; omega
    have hxB : w.heap.size ≤ x := Nat.le_trans HB1.out.size hx
    have C1 := HADD.out r w2 HK2.out (by
      have h := HR.out.keep HB2.out
      exact ⟨fun hn => by obtain ⟨ad, e, hB, hc⟩ := h.row hn; exact ⟨ad, e, Nat.lt_of_lt_of_le hB HB2.out.size, hc⟩⟩)
    clear hk2 hb2 HB1 HK1 HADD
    go_wp2_with fail
    refine C1.mono ?_
    rintro e w3 ⟨rfl, hk3, hm3⟩
    have HX3 := Lib.hid (HX2.out.mv hm3.mv HK2.out hxr)
    have HK3 := Lib.hid hk3
    have HB3 := Lib.hid (HB2.out.trans (hm3.mv.below (by simpa using hr) HB2.out.size))
    clear hk3 hm3 HX2 HK2 HB2 C1
    go_wp2
    go_loopw [6, 7] (fun f i wr => ∃ (k : Nat) (g : Int) (Dk : DataW Unit), k ≤ n ∧ i = .int .i64 k ∧ f = .int .i64 g ∧ Hid (goR validS 12 (fun _ => 0) canI (.map []) (l.take k) = (g, Dk)) ∧ Hid (RefAt x ⟨rf0.p, rf0.a, Dk⟩ wr) ∧ Hid (RefAt r (addS' rf0 l) wr) ∧ Hid (Below w.heap.size w wr)) (fun _ i _ => n - (intOf i).toNat)
    case atStart => exact ⟨0, 0, .map [], Nat.zero_le _, rfl, rfl, rfl, HX3.out, HK3.out, HB3.out⟩
    case round =>
      obtain ⟨k, g, Dk, hk, rfl, rfl, HG, HX, HK, HB⟩ := hrel
      clear HX3 HK3 HB3
      by_cases hgo : k < n ∧ g = 0
      · obtain ⟨hlt, rfl⟩ := hgo
        obtain ⟨ad, y, rfl, hab, hyk, hym, hc⟩ := HR.out.at_ (show k < l.length by rw [Hn.out]; exact hlt)
        have hc' : ∀ j v, (Kd.val y).cells[j]? = some v → wr.cell? ((ad.add (k * 8)).add j) = some v := fun j v hj => (HB.out.cell (by rw [block_of_add, block_of_add]; exact hab)).trans (hc j v hj)
        have e0 : wr.cell? (ad.add (k * 8)) = some (.string y.name) := by have h := hc' 0 _ rfl; rw [show (ad.add (k * 8)).add 0 = ad.add (k * 8) from by rw [add_of_add]; rfl] at h; exact h
        have e1 : wr.cell? ⟨(ad.add (k * 8)).block, (ad.add (k * 8)).off + 1, none⟩ = some (.bool y.cash) := hc' 1 _ rfl
        have e2 : wr.cell? ⟨(ad.add (k * 8)).block, (ad.add (k * 8)).off + 2, none⟩ = some (.bool y.pledge) := hc' 2 _ rfl
        have e3 : wr.cell? ⟨(ad.add (k * 8)).block, (ad.add (k * 8)).off + 3, none⟩ = some (.int .i64 y.unit) := hc' 3 _ rfl
        have e4 : wr.cell? ⟨(ad.add (k * 8)).block, (ad.add (k * 8)).off + 4, none⟩ = some (.int .i64 y.least) := hc' 4 _ rfl
        have e5 : wr.cell? ⟨(ad.add (k * 8)).block, (ad.add (k * 8)).off + 5, none⟩ = some (.int .i64 y.price) := hc' 5 _ rfl
        have e6 : wr.cell? ⟨(ad.add (k * 8)).block, (ad.add (k * 8)).off + 6, none⟩ = some (.int .i64 y.cut) := hc' 6 _ rfl
        have e7 : wr.cell? ⟨(ad.add (k * 8)).block, (ad.add (k * 8)).off + 7, none⟩ = some (.int .i64 y.close) := hc' 7 _ rfl
        have hgk := HGOOD.out (l.take k)
        rw [HG.out] at hgk
        have hok : (⟨rf0.p, rf0.a, Dk⟩ : Rf).Ok := ⟨rf0_ok.gp, rf0_ok.ga, hgk.1, rf0_ok.np, rf0_ok.na, hgk.2⟩
        have hb0 : Below wr.heap.size wr (wr.alloc (.cells #[.string y.name, .bool y.cash, .bool y.pledge, .int .i64 y.unit, .int .i64 y.least, .int .i64 y.price, .int .i64 y.cut, .int .i64 y.close] 29)) := (Below.refl _ _).alloc (Nat.le_refl _) _
        have C1 := addAssets_any x ⟨rf0.p, rf0.a, Dk⟩ hok [y] (some ⟨wr.heap.size, 0, none⟩) 1 _ (HX.out.below hb0) (rows_newN (N := 8) wr ([y] : List Asset) 29 #[.string y.name, .bool y.cash, .bool y.pledge, .int .i64 y.unit, .int .i64 y.least, .int .i64 y.price, .int .i64 y.cut, .int .i64 y.close] rfl (fun _ _ => rfl)) (by simp)
        have hs1 : errS ⟨rf0.p, rf0.a, Dk⟩ [y] = (stepR validS 12 (fun _ => 0) canI (0, Dk) y).1 := rfl
        have hs2 : addS' ⟨rf0.p, rf0.a, Dk⟩ [y] = ⟨rf0.p, rf0.a, (stepR validS 12 (fun _ => 0) canI (0, Dk) y).2⟩ := by unfold addS'; rw [outR_one]
        have hst : goR validS 12 (fun _ => 0) canI (.map []) (l.take (k + 1)) = ((stepR validS 12 (fun _ => 0) canI (0, Dk) y).1, (stepR validS 12 (fun _ => 0) canI (0, Dk) y).2) := by rw [goR_succ hyk, HG.out]
        obtain ⟨g', hg'⟩ : ∃ g', (stepR validS 12 (fun _ => 0) canI (0, Dk) y).1 = g' := ⟨_, rfl⟩
        obtain ⟨D', hD'⟩ : ∃ D', (stepR validS 12 (fun _ => 0) canI (0, Dk) y).2 = D' := ⟨_, rfl⟩
        rw [hs1, hs2, hg', hD'] at C1
        rw [hg', hD'] at hst
        have HST := Lib.hid hst
        have HB0 := Lib.hid hb0
        have C2 : Calls Try.prog 9 #[.pointer (some ⟨x, 0, none⟩), .slice (some ⟨wr.heap.size, 0, none⟩) 1 1] (wr.alloc (.cells #[.string y.name, .bool y.cash, .bool y.pledge, .int .i64 y.unit, .int .i64 y.least, .int .i64 y.price, .int .i64 y.cut, .int .i64 y.close] 29)) fun e w' => e = .returned (.int .i64 g') ∧ RefAt x ⟨rf0.p, rf0.a, D'⟩ w' ∧ MvL x (wr.alloc (.cells #[.string y.name, .bool y.cash, .bool y.pledge, .int .i64 y.unit, .int .i64 y.least, .int .i64 y.price, .int .i64 y.cut, .int .i64 y.close] 29)) w' := C1
        clear hs1 hs2 hst hg' hD' hgk hok hb0 C1 hc hc' hyk hym
        go_wp2_with fail
        refine C2.mono ?_
        rintro e w4 ⟨rfl, hk4, hm4⟩
        have HX4 := Lib.hid hk4
        have HK4 := Lib.hid ((HK.out.below HB0.out).mv hm4.mv (HX.out.below HB0.out) hxr.symm)
        have HB4 := Lib.hid ((HB.out.alloc HB.out.size (.cells #[.string y.name, .bool y.cash, .bool y.pledge, .int .i64 y.unit, .int .i64 y.least, .int .i64 y.price, .int .i64 y.cut, .int .i64 y.close] 29)).trans (hm4.mv.below (by simpa using hxB) (by have := HB.out.size; simp; omega)))
        clear hk4 hm4 C2 e0 e1 e2 e3 e4 e5 e6 e7 HX HK HB HB0
        go_wp2
        go_roundw
        case rel => exact ⟨k + 1, g', D', hlt, by go_num, rfl, HST.out, HX4.out, HK4.out, HB4.out⟩
        case measure => simp [intOf]; omega
      · have hfin : goR validS 12 (fun _ => 0) canI (.map []) l = (g, Dk) := by
          by_cases hg0 : g = 0
          · have : k = n := by omega
            have h := HG.out
            rw [List.take_of_length_le (by have := Hn.out; omega)] at h
            exact h
          · exact goR_stop HG.out hg0
        rw [HGO.out] at hfin
        injection hfin with h1 h2
        subst h1 h2
        clear HG HGO
        by_cases hE : E = 0
        · have hE2 : (E == 0) = true := by simp [hE]
          have h3 := HA0.out hE
          have hK := HK.out
          rw [h3.1] at hK
          have HK5 := Lib.hid hK
          have HOK2 := Lib.hid (by have h := HOK.out; rw [h3.1] at h; exact h)
          have hlen : (rowsOf Asset D).length = n := by rw [rows_len (HOK2.out.gs : GoodR Asset D), h3.2]
          have hkn : ¬ k < n := by omega
          have HLEN := Lib.hid hlen
          have HLE := Lib.hid (show (rowsOf Asset D).length ≤ 12 by rw [rows_len (HOK2.out.gs : GoodR Asset D)]; exact HOK2.out.ns)
          subst hE
          clear hK h3 hlen HA0 HA1 HK hgo hE2 HOK
          go_wp2_with fail
          refine (alive9_any _).mono ?_
          rintro e w5 ⟨rfl, hb5⟩
          have HB5 := Lib.hid (HB.out.trans (hb5.mono HB.out.size))
          have HK6 := Lib.hid (HK5.out.below hb5)
          have HX6 := Lib.hid (HX.out.below hb5)
          clear hb5 HB HK5 HX
          have C1 := allS_any r _ HOK2.out w5 HK6.out
          rw [HLEN.out] at C1
          go_wp2_with fail
          refine C1.mono ?_
          rintro e w6 ⟨A6, c6, rfl, hr6, hb6⟩
          have HB6 := Lib.hid (HB5.out.trans (hb6.mono HB5.out.size))
          have HK7 := Lib.hid (HK6.out.below hb6)
          have HX7 := Lib.hid (HX6.out.below hb6)
          have HR6 := Lib.hid hr6
          clear hb6 HB5 HK6 HX6 C1 hr6
          have C1 := allS_any x _ HOK2.out w6 HX7.out
          rw [HLEN.out] at C1
          go_wp2_with fail
          refine C1.mono ?_
          rintro e w7 ⟨A7, c7, rfl, hr7, hb7⟩
          have HB7 := Lib.hid (HB6.out.trans (hb7.mono HB6.out.size))
          have HK8 := Lib.hid (HK7.out.below hb7)
          have C3 := sameAssets_any (rowsOf Asset D) A6 A7 c6 c7 _ _ w7 (HR6.out.keep hb7) hr7 HLE.out
          rw [HLEN.out] at C3
          clear hb7 HB6 HK7 HX7 C1 hr7
          go_wp2_with fail
          refine C3.mono ?_
          rintro e w8 ⟨rfl, hb8⟩
          have HB8 := Lib.hid (HB7.out.trans (hb8.mono HB7.out.size))
          have C1 := allS_any r _ HOK2.out w8 (HK8.out.below hb8)
          rw [HLEN.out] at C1
          clear hb8 HB7 HK8 C3
          go_wp2_with fail
          refine C1.mono ?_
          rintro e w9 ⟨A9, c9, rfl, _, hb9⟩
          have HB9 := Lib.hid (HB8.out.trans (hb9.mono HB8.out.size))
          clear hb9 C1
          go_wp2
          go_ret
          exact ⟨rfl, HB9.out⟩
        · have hE2 : (E == 0) = false := by simp [hE]
          have hE3 : (E != 0) = true := by simp [hE]
          have HLEN := Lib.hid (HA1.out hE)
          clear HA0 HA1 hE HX
          by_cases hkn : k < n
          all_goals
            go_wp2_with fail
            refine (alive9_any _).mono ?_
            rintro e w5 ⟨rfl, hb5⟩
            have HB5 := Lib.hid (HB.out.trans (hb5.mono HB.out.size))
            have C1 := allS_any r _ HOK.out w5 (HK.out.below hb5)
            rw [HLEN.out] at C1
            clear hb5
            go_wp2_with fail
            refine C1.mono ?_
            rintro e w6 ⟨A6, c6, rfl, _, hb6⟩
            have HB6 := Lib.hid (HB5.out.trans (hb6.mono HB5.out.size))
            clear hb6 C1
            go_wp2
            go_ret
            exact ⟨rfl, HB6.out⟩
end Go.Proofs.Ytnpkplegeddhcaa
