/-
  ValuePicks: what is picked is worth at least what was wanted; each pick is of a stock that may be pledged, a multiple of its unit and no more than there is, in their order.
  Conditions: stocks in a list that the call reads.
-/
import Derived.Test.YtiekolbkmgdfoaaValueEnough
import Derived.Test.YtiekolbkmgdfoaaPicksPlain
import Derived.Deep.RegionHeld3
namespace Go.Proofs.Ytiekolbkmgdfoaa
open Go.RowKit

theorem bytes_inj {a b : ByteArray} (h : a.toList = b.toList) : a = b := by
  rw [ByteArray.toList_eq, ByteArray.toList_eq] at h
  obtain ⟨a⟩ := a
  obtain ⟨b⟩ := b
  exact congrArg ByteArray.mk (Array.toList_inj.1 h)
theorem str_ne {a b : ByteArray} (h : a ≠ b) : (a.toList == b.toList) = false := by
  cases h1 : a.toList == b.toList
  · rfl
  · exact absurd (bytes_inj (by simpa using h1)) h
theorem ne_str {a b : ByteArray} (h : (a.toList == b.toList) = false) : a ≠ b := by
  rintro rfl
  simp at h

set_option maxHeartbeats 4000000 in
set_option maxRecDepth 100000 in
theorem picks_walk (want : Int) (l : List Vl.St) (A : Option Addr) (cp : Nat) (w : World) (hw1 : -9223372036854775808 ≤ want) (hw2 : want ≤ 9223372036854775807)
    (hr : StsAt w w.heap.size A l) (hl : l.length ≤ 9223372036854775807) (hf : ∀ x ∈ l, x.fits) :
    Calls Try.prog 3 #[.int .i64 want, .slice A l.length cp] w fun e w' => e = .returned (.bool true) ∧ Below w.heap.size w w' := by
  obtain ⟨n, hn⟩ : ∃ n, l.length = n := ⟨_, rfl⟩
  rw [hn] at hl ⊢
  have Hn := Lib.hid hn; clear hn
  have Hr := Lib.hid hr; clear hr
  have Hf := Lib.hid hf; clear hf
  rcases (show 40 < n ∨ (n ≤ 40 ∧ 1152921504606846976 < want) ∨ (n ≤ 40 ∧ want ≤ 1152921504606846976) by omega) with h1 | ⟨h1, h2⟩ | ⟨h1, h2⟩
  · go_enter Try.func3, Try.ntmps3
    go_wp2_with fail
    refine (alive20_any _).mono ?_
    rintro e w1 ⟨rfl, hb⟩
    go_wp2
    go_ret
    exact ⟨rfl, hb⟩
  · go_enter Try.func3, Try.ntmps3
    go_wp2_with fail
    refine (alive20_any _).mono ?_
    rintro e w1 ⟨rfl, hb⟩
    go_wp2
    go_ret
    exact ⟨rfl, hb⟩
  · go_enter Try.func3, Try.ntmps3
    go_wp2
    go_loopw [5] (fun i wr => ∃ (j : Nat), j ≤ n ∧ i = .int .i64 j ∧ Hid (Vl.Apart l j) ∧ Hid (Below w.heap.size w wr)) (fun i _ => n - (intOf i).toNat)
    case atStart => exact ⟨0, Nat.zero_le _, rfl, fun i k x y h => absurd h (by omega), Below.refl _ _⟩
    case round =>
      obtain ⟨j, hj, rfl, HA, HB⟩ := hrel
      have hsz := HB.out.size
      by_cases hlt : j < n
      · obtain ⟨ad, x, rfl, hab, hxk, hc0⟩ := (Hr.out.below HB.out).at_ (show j < l.length by rw [Hn.out]; exact hlt)
        have HX := Lib.hid hxk
        clear hc0 hxk
        go_wp2
        go_loopw [6] (fun i wq => ∃ (k : Nat), k ≤ j ∧ i = .int .i64 k ∧ Hid (∀ b y, b < k → l[b]? = some y → x.nm ≠ y.nm) ∧ Hid (Below w.heap.size w wq)) (fun i _ => j - (intOf i).toNat)
        case atStart => exact ⟨0, Nat.zero_le _, rfl, fun b y h => absurd h (by omega), HB.out⟩
        case round =>
          obtain ⟨k, hk, rfl, HN, HB2⟩ := hrel
          have hsz2 := HB2.out.size
          by_cases hlk : k < j
          · obtain ⟨ad2, y, hA2, _, hyk, hcy⟩ := (Hr.out.below HB2.out).at_ (show k < l.length by rw [Hn.out]; omega)
            obtain ⟨ad3, x3, hA3, _, hx3, hcx⟩ := (Hr.out.below HB2.out).at_ (show j < l.length by rw [Hn.out]; exact hlt)
            obtain rfl : ad = ad2 := by simpa using hA2
            obtain rfl : ad = ad3 := by simpa using hA3
            obtain rfl : x = x3 := by have := HX.out; rw [this] at hx3; simpa using hx3
            have cx := hcx 0 _ rfl
            have cy := hcy 0 _ rfl
            simp only [add_of_add, Nat.add_zero] at cx cy
            have HYK := Lib.hid hyk
            clear hcx hcy hx3 hyk hA2 hA3
            cases hq : (x.nm.toList == y.nm.toList)
            · have HNX := Lib.hid (ne_str hq)
              go_wp2
              go_quiet (fail)
              go_wp2
              go_round
              case rel =>
                refine ⟨k + 1, by omega, by go_num, ?_, drewN_below HB2.out nq⟩
                intro b z hb hz
                rcases Nat.lt_or_ge b k with h3 | h3
                · exact HN.out b z h3 hz
                · obtain rfl : b = k := by omega
                  have h4 := HYK.out
                  rw [h4] at hz
                  obtain rfl : y = z := by simpa using hz
                  exact HNX.out
              case measure => simp [intOf]; omega
            · go_wp2
              go_quiet (fail)
              go_wp2_with fail
              refine (alive20_any _).mono ?_
              rintro e w3 ⟨rfl, hb3⟩
              have HB3 := Lib.hid ((drewN_below HB2.out nq).trans (hb3.mono (drewN_below HB2.out nq).size))
              clear hb3
              go_wp2
              go_ret
              exact ⟨rfl, HB3.out⟩
          · obtain rfl : k = j := by omega
            go_wp2
            go_round
            case rel =>
              refine ⟨k + 1, by omega, by go_num, ?_, HB2.out⟩
              intro i b y z hi hb hy hz
              rcases Nat.lt_or_ge i k with h3 | h3
              · exact HA.out i b y z h3 hb hy hz
              · obtain rfl : i = k := by omega
                have h4 := HX.out
                rw [h4] at hy
                obtain rfl : x = y := by simpa using hy
                exact HN.out b z hb hz
            case measure => simp [intOf]; omega
      · obtain rfl : j = n := by omega
        have hall : Vl.Apart l l.length := by rw [Hn.out]; exact HA.out
        have HALL := Lib.hid hall
        have hp := pick_any want l A cp wr hw1 hw2 ((Hr.out.below HB.out).more hsz) (by have := Hn.out; omega) Hf.out
        rw [Hn.out] at hp
        have HP := Lib.hid hp
        clear hp hall HA
        go_wp2_with fail
        refine HP.out.mono ?_
        rintro e w1 ⟨A1, n1, c1, o1, x1, rfl, hn1, hr1, hb1, ho1⟩
        have HB1 := Lib.hid (HB.out.trans (hb1.mono hsz))
        have hsz1 := hb1.size
        clear hb1 HP
        rcases ho1 with ⟨q1, rfl, rfl⟩ | ⟨q1, q2, rfl, rfl⟩ | ⟨q1, q2, q3, rfl⟩
        · obtain rfl : n1 = 0 := hn1
          have hd : decide (want < 0) = true := decide_eq_true q1
          clear hr1
          go_wp2_with fail
          refine (alive20_any _).mono ?_
          rintro e w2 ⟨rfl, hb2⟩
          have HB2 := Lib.hid (HB1.out.trans (hb2.mono HB1.out.size))
          clear hb2
          go_wp2
          go_ret
          exact ⟨rfl, HB2.out⟩
        · obtain rfl : n1 = 0 := hn1
          clear hr1 q2
          go_wp2_with fail
          refine (alive20_any _).mono ?_
          rintro e w2 ⟨rfl, hb2⟩
          have HB2 := Lib.hid (HB1.out.trans (hb2.mono HB1.out.size))
          clear hb2
          go_wp2
          go_ret
          exact ⟨ret_bool (by simp; omega), HB2.out⟩
        · have HR1 := Lib.hid hr1
          have HN1 := Lib.hid hn1
          have HS : Hid (Vl.Rest want l o1 0 0 0) := by show Vl.Rest _ _ _ _ _ _; rw [q3]; exact Vl.Rest.start q1 q2
          have h40 : n1 ≤ 40 := by
            have h := Vl.pk_len l want
            rw [← q3, ← hn1, Hn.out] at h
            omega
          clear hr1 hn1 q2 q3
          go_wp2
          go_loopw [9, 10, 12] (fun a s i wr => ∃ (av sv iv : Nat) (b : Bool), av ≤ j ∧ iv ≤ n1 ∧ a = .int .i64 av ∧ s = .int .i64 sv ∧ i = .int .i64 iv ∧ sv ≤ 1152921504606846976 ∧ Hid (Vl.Rest want l o1 iv av sv) ∧ Hid (Blk wr w1.heap.size 34 #[.bool b]) ∧ Hid (Reads wr w1.heap.size 2 A1 n1 (Vl.plCells o1)) ∧ Hid (Below w.heap.size w wr)) (fun _ _ i _ => n1 - (intOf i).toNat)
          case atStart =>
            refine ⟨0, 0, 0, false, Nat.zero_le _, Nat.zero_le _, rfl, rfl, rfl, by omega, HS.out, Blk.new _ _ _, HR1.out.alloc (Nat.le_refl _) _, HB1.out.alloc HB1.out.size _⟩
          case round =>
            obtain ⟨av, sv, iv, b, hav, hiv, rfl, rfl, rfl, hsv, HS, HK, HR, HB⟩ := hrel
            have hszr := HB.out.size
            by_cases hlt : iv < n1
            · obtain ⟨ae, nm, q, rfl, hae, hoi, hce⟩ := pl_at HR.out (show iv < o1.length by rw [← HN1.out]; exact hlt)
              obtain ⟨bb, x, z, g1, g2, g3, g4, g5, g6, g7, g8, g9, g10, g11, g12, g13⟩ := HS.out.next hoi HALL.out
              rw [Hn.out] at g2
              have HX := Lib.hid g3; have HNM := Lib.hid g5; have HREST := Lib.hid g13
              have hxf := Hf.out x (List.mem_of_getElem? g3)
              obtain ⟨ad, x3, rfl, hab, hx3, hcx⟩ := (Hr.out.below HB.out).at_ (show bb < l.length by rw [Hn.out]; exact g2)
              obtain rfl : x = x3 := by rw [g3] at hx3; simpa using hx3
              have HCX := Lib.hid hcx
              have e0 := hce 0 _ rfl
              have e1 : wr.cell? ⟨(ae.add (iv * 2)).block, (ae.add (iv * 2)).off + 1, none⟩ = some (.int .i64 q) := hce 1 _ rfl
              simp only [Nat.add_zero, add_of_add] at e0
              have E0 := Lib.hid e0; have E1 := Lib.hid e1
              clear hce hcx hx3 g3 g5 g13 hoi e0 e1
              go_wp2
              go_loopw [9] (fun a wq => ∃ (k m : Nat), av ≤ k ∧ k ≤ bb ∧ a = .int .i64 k ∧ wq = wr.drewN m) (fun a _ => bb - (intOf a).toNat)
              case atStart => exact ⟨av, 0, Nat.le_refl _, g1, rfl, rfl⟩
              case round =>
                obtain ⟨k, m, hk1, hk2, rfl, rfl⟩ := hrel
                have e0 := E0.out
                have e1 := E1.out
                by_cases hkb : k < bb
                · obtain ⟨ad2, y, hA2, _, hyk, hcy⟩ := (Hr.out.below HB.out).at_ (show k < l.length by rw [Hn.out]; omega)
                  obtain rfl : ad = ad2 := by simpa using hA2
                  have hne := str_ne (HNM.out k y hk1 hkb hyk)
                  have cy := hcy 0 _ rfl
                  simp only [add_of_add, Nat.add_zero] at cy
                  have hkj : (k : Int) < (j : Int) := by omega
                  clear hcy hyk hA2
                  go_wp2
                  go_quiet (fail)
                  go_wp2
                  go_round
                  case rel => exact ⟨k + 1, m + nq, by omega, by omega, by go_num, by simp⟩
                  case measure => simp [intOf]; omega
                · obtain rfl : k = bb := by omega
                  obtain ⟨xnm, xcash, xpl, xu, xleast, xp, xc, xclose, xq⟩ := x
                  simp only at g4 g7 g8 g9 g10 g11 g12
                  obtain ⟨⟨f1, f2⟩, ⟨f3, f4⟩, ⟨f5, f6⟩, f7, f8⟩ : Vl.St.fits _ := hxf
                  simp only at f1 f2 f3 f4 f5 f6 f7 f8
                  subst g4 g7
                  have c0 : wr.cell? (ad.add (k * 9)) = some (.string xnm) := by have h := HCX.out 0 _ rfl; rw [add_of_add] at h; exact h
                  have c2 : wr.cell? ⟨(ad.add (k * 9)).block, (ad.add (k * 9)).off + 2, none⟩ = some (.bool true) := HCX.out 2 _ rfl
                  have c3 : wr.cell? ⟨(ad.add (k * 9)).block, (ad.add (k * 9)).off + 3, none⟩ = some (.int .i64 xu) := HCX.out 3 _ rfl
                  have c5 : wr.cell? ⟨(ad.add (k * 9)).block, (ad.add (k * 9)).off + 5, none⟩ = some (.int .i64 xp) := HCX.out 5 _ rfl
                  have c6 : wr.cell? ⟨(ad.add (k * 9)).block, (ad.add (k * 9)).off + 6, none⟩ = some (.int .i64 xc) := HCX.out 6 _ rfl
                  have c8 : wr.cell? ⟨(ad.add (k * 9)).block, (ad.add (k * 9)).off + 8, none⟩ = some (.int .i64 xq) := HCX.out 8 _ rfl
                  have C5 := Lib.hid c5; have C6 := Lib.hid c6
                  clear c5 c6
                  have hkj : (k : Int) < (j : Int) := by omega
                  have hse : (xnm.toList == xnm.toList) = true := by simp
                  have hu1 : decide (xu < 1) = false := decide_eq_false (by omega)
                  have huz : (xu == 0) = false := by simp; omega
                  have hqm : q.tmod xu = 0 := by rw [Int.tmod_eq_emod_of_nonneg (by omega)]; exact g9
                  have hqq : decide (xq < q) = false := decide_eq_false (by omega)
                  go_wp2
                  go_quiet (fail)
                  have hkjb : ((k : Int) == (j : Int)) = false := by simp; omega
                  have hq1 : decide (q < 1) = false := decide_eq_false (by omega)
                  go_wp2
                  obtain ⟨W0, hW0⟩ : ∃ W0, wr.drewN (m + nq) = W0 := ⟨_, rfl⟩
                  have hcell : ∀ p : Addr, W0.cell? p = wr.cell? p := fun p => by rw [← hW0]; rfl
                  have hsz0 : W0.heap.size = wr.heap.size := by rw [← hW0]; rfl
                  have d1 := (hcell _).trans E1.out
                  have d5 := (hcell _).trans C5.out
                  have d6 := (hcell _).trans C6.out
                  have p1 : (ae.add (iv * 2)).block < W0.heap.size := by
                    rw [block_of_add, hsz0]
                    exact Nat.lt_trans hae HK.out.lt
                  have p2 : (ad.add (k * 9)).block < W0.heap.size := by rw [block_of_add, hsz0]; omega
                  have HB0 : Hid (Below w.heap.size w W0) := by show Below _ _ _; rw [← hW0]; exact drewN_below HB.out _
                  have HK0 : Hid (Blk W0 w1.heap.size 34 #[.bool b]) := by show Blk _ _ _ _; rw [← hW0]; exact HK.out
                  have HR0 : Hid (Reads W0 w1.heap.size 2 (some ae) n1 (Vl.plCells o1)) := by show Reads _ _ _ _ _ _; rw [← hW0]; exact HR.out
                  clear e0 e1 c0 c2 c3 c8 E0 E1 C5 C6 HCX
                  rw [hW0]
                  clear hW0
                  go_region_held3 (fun W => W.cell? ⟨(ae.add (iv * 2)).block, (ae.add (iv * 2)).off + 1, none⟩ = some (.int .i64 q) ∧ W.cell? ⟨(ad.add (k * 9)).block, (ad.add (k * 9)).off + 5, none⟩ = some (.int .i64 xp) ∧ W.cell? ⟨(ad.add (k * 9)).block, (ad.add (k * 9)).off + 6, none⟩ = some (.int .i64 xc))
                    (first | exact ⟨d1, d5, d6⟩ | exact ⟨(hb2.cell (show (⟨(ae.add (iv * 2)).block, (ae.add (iv * 2)).off + 1, none⟩ : Addr).block < _ from p1)).trans d1, (hb2.cell (show (⟨(ad.add (k * 9)).block, (ad.add (k * 9)).off + 5, none⟩ : Addr).block < _ from p2)).trans d5, (hb2.cell (show (⟨(ad.add (k * 9)).block, (ad.add (k * 9)).off + 6, none⟩ : Addr).block < _ from p2)).trans d6⟩)
                    (first | (go_at_call 9; refine (worth_any q xp xc (by omega) (by omega) f3 f4 f5 f6 _).mono ?_; rintro e w2 ⟨rfl, hb2⟩))
                  have HB2 : Hid (Below w.heap.size w w2) := by show Below _ _ _; exact HB0.out.drew.trans (hb2.mono HB0.out.size)
                  have hlt1 : w1.heap.size < W0.heap.size := HK0.out.lt
                  have HK2 : Hid (Blk w2 w1.heap.size 34 #[.bool b]) := by show Blk _ _ _ _; exact HK0.out.drew.below hb2 hlt1
                  have HR2 : Hid (Reads w2 w1.heap.size 2 (some ae) n1 (Vl.plCells o1)) := by show Reads _ _ _ _ _ _; exact HR0.out.drew.below (hb2.mono (Nat.le_of_lt hlt1))
                  have hz60 : z ≤ 1152921504606846976 := by have := Wo.wV_range q xp xc; omega
                  have hlt2 : w1.heap.size < w2.heap.size := Nat.lt_of_lt_of_le hlt1 hb2.size
                  have HKA : Hid (Blk (w2.alloc (.cells #[.int .i64 sv, .int .i64 z] 3)) w1.heap.size 34 #[.bool b]) := by show Blk _ _ _ _; exact HK2.out.alloc _
                  have HRA : Hid (Reads (w2.alloc (.cells #[.int .i64 sv, .int .i64 z] 3)) w1.heap.size 2 (some ae) n1 (Vl.plCells o1)) := by show Reads _ _ _ _ _ _; exact HR2.out.alloc (Nat.le_of_lt hlt2) _
                  have HBA : Hid (Below w.heap.size w (w2.alloc (.cells #[.int .i64 sv, .int .i64 z] 3))) := by show Below _ _ _; exact HB2.out.alloc HB2.out.size _
                  have hbase : w.heap.size ≤ w1.heap.size := HB1.out.size
                  clear hb2 d1 d5 d6 p1 p2 hcell HB0 HK0 HR0 hsz0 hkj hse hu1 huz hqm hqq hkjb hq1 g11 g12 g9 g10 g8
                  by_cases hsum : sv + z ≤ 1152921504606846976
                  · have HREST2 : Hid (Vl.Rest want l o1 (iv + 1) (k + 1) ((0 + sv + z : Nat) : Int)) := by
                      have h := HREST.out
                      rw [show min ((sv : Int) + (z : Int)) 1152921504606846976 = ((0 + sv + z : Nat) : Int) from by omega] at h
                      exact h
                    clear HREST
                    go_wp2_with fail
                    refine (add_any w1.heap.size [sv, z] _ _ (w2.heap.size + 1) _ (reads_two w2 sv z _) (by show (2 : Nat) ≤ _; decide) ?small).mono ?_
                    case small => show 0 + sv + z ≤ _; omega
                    rintro e w3 ⟨rfl, rfl⟩
                    go_wp2
                    go_round
                    case rel => exact ⟨k + 1, 0 + sv + z, iv + 1, b, by omega, by omega, by go_num, rfl, by go_num, by omega, HREST2.out, HKA.out, HRA.out, HBA.out⟩
                    case measure => simp [intOf]; omega
                  · have HREST2 : Hid (Vl.Rest want l o1 (iv + 1) (k + 1) ((1152921504606846976 : Nat) : Int)) := by
                      have h := HREST.out
                      rw [show min ((sv : Int) + (z : Int)) 1152921504606846976 = ((1152921504606846976 : Nat) : Int) from by omega] at h
                      exact h
                    clear HREST
                    go_wp2_with fail
                    refine (add_over w1.heap.size sv z b _ _ (w2.heap.size + 1) _ (HKA.out.cell 0) (HKA.out.frozen 0) (reads_two w2 sv z _) hsv hz60 (by omega)).mono ?_
                    rintro e w3 ⟨rfl, rfl⟩
                    go_wp2
                    go_round
                    case rel => exact ⟨k + 1, 1152921504606846976, iv + 1, true, by omega, by omega, by go_num, rfl, by go_num, by omega, HREST2.out, (HK2.out.set_ 0 _).alloc _, (HR2.out.setCell (Nat.le_refl _) _).alloc (by simp [World.setCell]; omega) _, (HB2.out.setCell hbase _).alloc (by simp [World.setCell]; omega) _⟩
                    case measure => simp [intOf]; omega
            · have hfin : want ≤ sv := by
                have h := HS.out.end_ h2 (show o1.length ≤ iv by rw [← HN1.out]; omega)
                exact h
              have hge : decide (want ≤ (sv : Int)) = true := decide_eq_true hfin
              go_wp2_with fail
              refine (alive20_any _).mono ?_
              rintro e w2 ⟨rfl, hb2⟩
              have HB2 := Lib.hid (HB.out.trans (hb2.mono HB.out.size))
              clear hb2
              go_wp2
              go_ret
              exact ⟨ret_bool (by simp <;> omega), HB2.out⟩
end Go.Proofs.Ytiekolbkmgdfoaa
