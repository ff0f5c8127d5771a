/-
 The document's data (complineref8) as contracts: AddAccount.
 Conditions: the caller's memory stays.
-/
import Derived.Test.YtnpkplegeddhcaaGreatTk
import Derived.Test.YtnpkplegeddhcaaGreatR8b
import Derived.Deep.DrawnRows
import Derived.Deep.DeepCutAuto
import Derived.Deep.CutBlock
namespace Go.Proofs.YtnpkplegeddhcaaGreat
open Go.RowKit Go.Maps Go.Shelf
attribute [local go_sem ↓] Go.wp_at_zero Go.wp_at_succ
set_option maxRecDepth 100000

def noParty8 (st : R8) (a : Account) : Int := if (findK st.p a.party).isSome = true then 0 else 7
theorem infoA8 : (Tryz.prog.info? 88).map (fun i => (i.zero.map (·.cells.size), i.size, i.bytes)) = some (some 2, 2, 32) := by kernel_rfl
def errA8 (st : R8) (y : Account) : Int := err8 validS 20 (noParty8 st) (fun _ => 0) st.a y
def addA8 (st : R8) (y : Account) : R8 := if errA8 st y = 0 then ⟨st.l, st.p, insK st.a y, st.s⟩ else st
set_option maxHeartbeats 40000000 in
theorem addA8_any (x : Nat) (st : R8) (y : Account) (w : World) (h : R8At x st w) (hlen : st.a.length ≤ 100000) (hlenp : st.p.length ≤ 100000) (hnm : ∀ z ∈ st.a, z.name.size ≤ 9223372036854775807) (hy : y.name.size ≤ 9223372036854775807) :
  Calls Tryz.prog 62 #[.pointer (some ⟨x, 0, none⟩), Kd.val y] w fun e w' => e = .returned (.int .i64 (errA8 st y)) ∧ R8At x (addA8 st y) w' ∧ Mv [x] [x] w w' := by
 obtain ⟨i0, z0, hinf, hz0, hz1, hz2, hz3⟩ := info_all infoA8
 have hxl := h.lt
 obtain ⟨A, c, hcell0, hcap0, hrow0, hout0⟩ := h.atA
 obtain ⟨P, hP⟩ : ∃ P, st.a = P := ⟨_, rfl⟩
 obtain ⟨E, hE⟩ : ∃ E, errA8 st y = E := ⟨_, rfl⟩
 obtain ⟨S', hS⟩ : ∃ S', addA8 st y = S' := ⟨_, rfl⟩
 have HEE : Hid (∀ e, errA8 st y = e → e ≠ 0 → E = e ∧ S' = st) := fun e h1 h2 => ⟨by rw [← hE, h1], by rw [← hS]; unfold addA8; rw [if_neg (by rw [h1]; exact h2)]⟩
 have HE0' : Hid (errA8 st y = 0 → E = 0 ∧ S' = ⟨st.l, st.p, insK st.a y, st.s⟩) := fun h1 => ⟨by rw [← hE, h1], by rw [← hS]; unfold addA8; rw [if_pos h1]⟩
 rw [hE, hS]
 clear hE hS
 obtain ⟨n, hn⟩ : ∃ n, st.a.length = n := ⟨_, rfl⟩
 have HN := Lib.hid hn; have HK := Lib.hid h; have HPP := Lib.hid hP; have HNM := Lib.hid hnm
 rw [hn] at hlen hcell0 hcap0
 obtain ⟨c3, HC3⟩ : ∃ c3, Hid (w.heap.size = c3) := ⟨_, rfl⟩
 obtain ⟨W0, HW0⟩ : ∃ W0, Hid (w.alloc (.cells #[.string y.name, .string y.party] 88) = W0) := ⟨_, rfl⟩
 have HB0 : Hid (Below w.heap.size w W0) := by show Below _ _ _; rw [← HW0.out]; exact (Below.refl _ _).alloc (Nat.le_refl _) _
 have HY0 : Hid (W0.heap[c3]? = some (.cells #[.string y.name, .string y.party] 88 (0, 0))) := by show _ = _; rw [← HW0.out, ← HC3.out]; exact heap_alloc_new _ _
 have hzW0 : c3 < W0.heap.size := by rw [← HW0.out, ← HC3.out]; simp
 have hxc : x < c3 := by rw [← HC3.out]; exact hxl
 clear hn hP h hrow0 hout0 hnm
 show Calls _ _ #[_, .agg #[.string y.name, .string y.party]] w _
 go_enter Tryz.func62, Tryz.ntmps62
 have qW1 := lookP8_any x st y.party W0 (HK.out.below HB0.out) (by omega)
 obtain ⟨zW1, hzW1⟩ : ∃ z, (findK st.p y.party).getD Kd.zero = z := ⟨_, rfl⟩
 obtain ⟨pt, hpt⟩ : ∃ b, (findK st.p y.party).isSome = b := ⟨_, rfl⟩
 rw [hzW1, hpt] at qW1
 have QW1 : Hid (Calls Tryz.prog 28 #[.pointer (some ⟨x, 0, none⟩), .string y.party] W0 fun e w' => e = .returned (.tuple #[.agg #[.string zW1.name, .int .i64 zW1.limit], .bool pt]) ∧ Below W0.heap.size W0 w') := qW1
 have Hpt := Lib.hid hpt
 clear qW1 hzW1 hpt
 have y0 : W0.cell? ⟨c3, 0, none⟩ = some (.string y.name) := by rw [Lib.cell_of_heap HY0.out]; rfl
 have y1 : W0.cell? ⟨c3, 1, none⟩ = some (.string y.party) := by rw [Lib.cell_of_heap HY0.out]; rfl
 go_wp2_with fail
 rw [HW0.out, HC3.out]
 refine QW1.out.mono ?_
 rintro e uW1 ⟨rfl, hbW1⟩
 obtain ⟨W1, HW1⟩ : ∃ W, Hid (uW1.alloc (.cells #[.string zW1.name, .int .i64 zW1.limit] 84) = W) := ⟨_, rfl⟩
 have hbbW1 : Below W0.heap.size W0 W1 := by rw [← HW1.out]; exact hbW1.alloc hbW1.size _
 have HB1 : Hid (Below w.heap.size w W1) := HB0.out.trans (hbbW1.mono HB0.out.size)
 have HY1 := Lib.hid ((hbbW1.block c3 hzW0).trans HY0.out)
 have hzW1 : c3 < W1.heap.size := Nat.lt_of_lt_of_le hzW0 hbbW1.size
 clear hbW1 hbbW1 QW1 y0 y1
 have qW2 := lookA8_any x st y.name W1 (HK.out.below HB1.out) (by rw [HN.out]; omega)
 obtain ⟨zW2, hzW2⟩ : ∃ z, (findK st.a y.name).getD Kd.zero = z := ⟨_, rfl⟩
 obtain ⟨th, hth⟩ : ∃ b, (findK st.a y.name).isSome = b := ⟨_, rfl⟩
 rw [hzW2, hth] at qW2
 have QW2 : Hid (Calls Tryz.prog 30 #[.pointer (some ⟨x, 0, none⟩), .string y.name] W1 fun e w' => e = .returned (.tuple #[.agg #[.string zW2.name, .string zW2.party], .bool th]) ∧ Below W1.heap.size W1 w') := qW2
 have Hth := Lib.hid hth
 clear qW2 hzW2 hth
 have y0 : W1.cell? ⟨c3, 0, none⟩ = some (.string y.name) := by rw [Lib.cell_of_heap HY1.out]; rfl
 have hWo := HW1.out
 go_wp2_with fail
 clear hWo
 refine QW2.out.mono ?_
 rintro e uW2 ⟨rfl, hbW2⟩
 obtain ⟨W2, HW2⟩ : ∃ W, Hid (uW2.alloc (.cells #[.string zW2.name, .string zW2.party] 88) = W) := ⟨_, rfl⟩
 have hbbW2 : Below W1.heap.size W1 W2 := by rw [← HW2.out]; exact hbW2.alloc hbW2.size _
 have HB2 : Hid (Below w.heap.size w W2) := HB1.out.trans (hbbW2.mono HB1.out.size)
 have HY2 := Lib.hid ((hbbW2.block c3 hzW1).trans HY1.out)
 have hzW2 : c3 < W2.heap.size := Nat.lt_of_lt_of_le hzW1 hbbW2.size
 clear hbW2 hbbW2 QW2 y0
 have HRK1 := Lib.hid (HK.out.below HB2.out)
 have HMV1 : Hid (Mv [x] [x] w W2) := mv_of_below HB2.out
 have y0 : W2.cell? ⟨c3, 0, none⟩ = some (.string y.name) := by rw [Lib.cell_of_heap HY2.out]; rfl
 have y1 : W2.cell? ⟨c3, 1, none⟩ = some (.string y.party) := by rw [Lib.cell_of_heap HY2.out]; rfl
 have hWo := HW2.out
 go_wp2_with fail
 clear hWo
 refine (rvalid_any y.name hy _).mono ?_
 rintro e w3 ⟨rfl, rfl⟩
 have hxw : x < W2.heap.size := by omega
 have cx1 : W2.cell? ⟨x, 2, none⟩ = some (.slice A n c) := by
  exact (HB2.out.cell (p := ⟨x, 2, none⟩) (show x < w.heap.size from hxl)).trans hcell0
 cases hv : validS y.name
 ·have HE := Lib.hid (HEE.out 9 (by unfold errA8 err8; exact if_pos hv) (by decide))
  go_wp2
  go_ret
  exact ⟨by rw [HE.out.1]; rfl, by rw [HE.out.2]; exact HRK1.out, HMV1.out⟩
 ·have hkk : Kd.key y = y.name := rfl
  cases pt
  ·have HE := Lib.hid (HEE.out 7 (by unfold errA8 err8; rw [if_neg (by rw [show Kd.key y = y.name from rfl, hv]; decide), if_pos (by unfold noParty8; rw [if_neg (by rw [Hpt.out]; decide)]; decide)]; unfold noParty8; rw [if_neg (by rw [Hpt.out]; decide)]) (by decide))
   go_wp2
   go_ret
   exact ⟨by rw [HE.out.1]; rfl, by rw [HE.out.2]; exact HRK1.out, HMV1.out⟩
  ·cases th
   ·by_cases hm : 20 ≤ n
    ·have hmd : decide ((n : Int) ≥ 20) = true := decide_eq_true (by omega)
     have HE := Lib.hid (HEE.out 10 (by unfold errA8 err8; rw [if_neg (by rw [show Kd.key y = y.name from rfl, hv]; decide), if_neg (by unfold noParty8; rw [if_pos Hpt.out]; decide), if_neg (by rw [show Kd.key y = y.name from rfl, Hth.out]; decide), if_neg (fun h => h rfl), if_pos (by rw [HN.out]; exact hm)]) (by decide))
     go_wp2
     go_ret
     exact ⟨by rw [HE.out.1]; rfl, by rw [HE.out.2]; exact HRK1.out, HMV1.out⟩
    ·have HE0 := Lib.hid (HE0'.out (by unfold errA8 err8; rw [if_neg (by rw [show Kd.key y = y.name from rfl, hv]; decide), if_neg (by unfold noParty8; rw [if_pos Hpt.out]; decide), if_neg (by rw [show Kd.key y = y.name from rfl, Hth.out]; decide), if_neg (fun h => h rfl), if_neg (by rw [HN.out]; exact hm)]))
     have hmd : decide ((n : Int) ≥ 20) = false := decide_eq_false (by omega)
     have HRW : Hid (RowsAt W2 W2.heap.size A 2 P) := by
      obtain ⟨A', c', h1, _, h3, _⟩ := HRK1.out.atA
      rw [cx1] at h1
      injection h1 with h1
      injection h1 with h1 h2 h4
      subst h1
      rw [HPP.out] at h3
      exact h3
     have HLP : Hid (P.length = n) := by show _ = _; rw [← HPP.out]; exact HN.out
     obtain ⟨wo, hwo⟩ : ∃ wo : World, wo = W2 := ⟨_, rfl⟩
     subst hwo
     go_upto_block 1 with (fail)
     go_cut [9] (fun kk wx => ∃ j : Nat, j ≤ n ∧ kk = .int .i64 j ∧ Hid (∀ i z, i < j → P[i]? = some z → (Kd.key z).data.toList < y.name.data.toList) ∧ Hid (∀ z, P[j]? = some z → ¬ (Kd.key z).data.toList < y.name.data.toList) ∧ Hid (∃ q, wx = wo.drewN q))
     case first =>
      go_wp2
      go_loopw [9] (fun i w6 => ∃ j : Nat, j ≤ n ∧ i = .int .i64 j ∧ Hid (∀ i z, i < j → P[i]? = some z → (Kd.key z).data.toList < y.name.data.toList) ∧ Hid (∃ q, w6 = wo.drewN q)) (fun i _ => n - (intOf i).toNat)
      case atStart => exact ⟨0, Nat.zero_le _, rfl, fun i z h => absurd h (by omega), 0, rfl⟩
      case round =>
       obtain ⟨j, hj, rfl, HJ, HQ⟩ := hrel
       obtain ⟨q, hq⟩ := HQ.out
       have cx2 : wr.cell? ⟨x, 2, none⟩ = some (.slice A n c) := by rw [hq]; exact cx1
       have y02 : wr.cell? ⟨c3, 0, none⟩ = some (.string y.name) := by rw [hq]; exact y0
       have HW := Lib.hid hq
       have HRR : Hid (RowsAt wr wr.heap.size A 2 P) := by show RowsAt _ _ _ _ _; rw [HW.out]; exact HRW.out.below (drewN_below (Below.refl _ _) q)
       clear hq HQ cx1 y0 y1
       have b1 : (0 : Int) ≤ (j : Int) := by omega
       have b9 : j ≤ 100000 := by omega
       by_cases hjn : j < n
       ·obtain ⟨ad, a, rfl, hab, hak, ham, hc⟩ := HRR.out.at_ (show j < P.length by rw [HLP.out]; exact hjn)
        have e0 : wr.cell? (ad.add (j * 2)) = some (.string a.name) := by
         have h := hc 0 _ rfl
         rw [show (ad.add (j * 2)).add 0 = ad.add (j * 2) from by rw [add_of_add]; rfl] at h
         exact h
        have HA9 := Lib.hid hak
        have has : a.name.size ≤ 9223372036854775807 := HNM.out a (by rw [HPP.out]; exact ham)
        obtain ⟨cv, HCV⟩ : ∃ cv, Hid (cmpS a.name y.name = cv) := ⟨_, rfl⟩
        have V : Hid (∀ W, Calls Tryz.prog 154 #[.string a.name, .string y.name] W fun e w' => e = .returned (.int .i64 cv) ∧ ∃ q, w' = W.drewN q) := fun W => by
         rw [← HCV.out]
         exact rcompare_any a.name y.name has hy W
        have b2 : (j : Int) < (n : Int) := by omega
        clear hc hak ham
        by_cases hneg : cv < 0
        ·have HL := Lib.hid ((cmp_neg a.name y.name).1 (by rw [HCV.out]; exact hneg))
         go_wp2
         go_quiet (first | (go_at_call 154; exact Calls.quiet_of (V.out _)))
         go_wp2
         go_roundw
         case rel => exact ⟨j + 1, hjn, by go_num, ltk_take HA9.out HJ.out HL.out, by rw [HW.out, World.drewN_drewN]; exact ⟨_, rfl⟩⟩
         case measure => simp [intOf]; omega
        ·have hneg' : decide (cv < 0) = false := decide_eq_false hneg
         have HLT : Hid (∀ z, P[j]? = some z → ¬ (Kd.key z).data.toList < y.name.data.toList) := fun z hz h => by
          rw [HA9.out] at hz
          injection hz with hz
          subst hz
          exact hneg (by rw [← HCV.out]; exact (cmp_neg _ _).2 h)
         clear hneg
         go_wp2
         go_quiet (first | (go_at_call 154; exact Calls.quiet_of (V.out _)))
         go_wp2
         go_meet
         exact ⟨j, hj, rfl, HJ.out, HLT.out, by rw [HW.out, World.drewN_drewN]; exact ⟨_, rfl⟩⟩
       ·have hjm2 : j = n := by omega
        have hd : decide (j < n) = false := decide_eq_false (by omega)
        have HLT : Hid (∀ z, P[j]? = some z → ¬ (Kd.key z).data.toList < y.name.data.toList) := fun z hz h => by
         have := (List.getElem?_eq_some_iff.1 hz).1
         have := HLP.out
         omega
        clear hjm2
        go_wp2
        go_quiet (fail)
        go_wp2
        go_meet
        exact ⟨j, hj, rfl, HJ.out, HLT.out, by rw [HW.out, World.drewN_drewN]; exact ⟨_, rfl⟩⟩
     case rest =>
     obtain ⟨j, hj, rfl, HJ, HLT, HQ⟩ := hcut
     go_wp2
     obtain ⟨X, hXX⟩ : ∃ X, X = wc := ⟨_, rfl⟩
     subst hXX
     obtain ⟨q, hq⟩ := HQ.out
     have HXW : Hid (Below w.heap.size w X) := by show Below _ _ _; rw [hq]; exact drewN_below HB2.out _
     have cX : X.cell? ⟨x, 2, none⟩ = some (.slice A n c) := by rw [hq]; exact cx1
     have h3X : X.heap[c3]? = some (.cells #[.string y.name, .string y.party] 88 (0, 0)) := by rw [hq]; exact HY2.out
     have hzq : X.heap.size = wo.heap.size := by rw [hq]; rfl
     have HRX : Hid (RowsAt X X.heap.size A 2 P) := by show RowsAt _ _ _ _ _; rw [hq]; exact HRW.out.below (drewN_below (Below.refl _ _) q)
     clear hq HQ
     have hxX : x < X.heap.size := by omega
     have hc3X : c3 < X.heap.size := by omega
     have hx3 : c3 ≠ x := by omega
     clear hzq
     have HRK : Hid (R8At x st X) := HK.out.below HXW.out
     have HMX : Hid (Mv [x] [x] w X) := mv_of_below HXW.out
     have HP : Hid (Reads X X.heap.size 2 A j (cellsOf (P.take j))) := by
      have := (HRX.out.take j).reads (fun x _ => csA8 x)
      rw [List.length_take, HLP.out, Nat.min_eq_left hj] at this
      exact this
     have hRd := HRX.out.reads (fun x _ => csA8 x)
     rw [HLP.out] at hRd
     have hRd2 := hRd.cut hj hcap0
     rw [← cellsOf_drop (fun x _ => csA8 x)] at hRd2
     have HD := Lib.hid hRd2
     have HIN : Hid (insK P y = P.take j ++ [y] ++ P.drop j) := insK_at (by rw [HLP.out]; exact hj) HJ.out HLT.out
     have HIL : Hid ((insK P y).length = j + 1 + (n - j)) := by show _ = _; rw [insK_len, HLP.out]; omega
     have HE0 : Hid (E = 0 ∧ S' = ⟨st.l, st.p, insK P y, st.s⟩) := by show _ ∧ _; rw [← HPP.out]; exact HE0.out
     have hjc : j ≤ c := by omega
     have hXd : X.drew.heap.size = X.heap.size := rfl
     have hb0 : Below X.heap.size X X.drew := (Below.refl _ _).drew
     clear cx1 y0 y1 hRd hRd2 HLT HJ HRW
     refine wp_region_held_drew (S := fun X9 => X9.heap[c3]? = some (.cells #[.string y.name, .string y.party] 88 (0, 0))) (by kernel_rfl) (show (X.drew).heap[c3]? = _ from h3X) (fun hHeld => ?_)
     refine tk (i := 0) (v := ?_) rfl (Or.inl ⟨by rfl, ?_⟩) ?_
     rotate_left
     ·intro X9 hSw; (try simp only [sD, sF]); first | (go_simp; done) | (go_simp; with_reducible rfl)
     try simp only [Act.put, sA, sB, sC, sD, sF]
     refine tk (i := 1) (v := ?_) rfl (Or.inl ⟨by rfl, ?_⟩) ?_
     rotate_left
     ·intro X9 hSw; (try simp only [sD, sE, sF]); first | (go_simp; done) | (go_simp; with_reducible rfl)
     try simp only [Act.put, sA, sB, sC, sD, sE, sF]
     refine tk (i := 2) (v := ?_) rfl (Or.inl ⟨by rfl, ?_⟩) ?_
     rotate_left
     ·intro X9 hSw; (try simp only [sD, sE, sF]); first | (go_simp; done) | (go_simp; with_reducible rfl)
     try simp only [Act.put, sA, sB, sC, sD, sE, sF]
     refine tk (i := 3) (v := ?_) rfl (Or.inl ⟨by rfl, ?_⟩) ?_
     rotate_left
     ·intro X9 hSw; (try simp only [sD, sE, sF]); first | (go_simp; done) | (go_simp; with_reducible rfl)
     try simp only [Act.put, sA, sB, sC, sD, sE, sF]
     refine tk (i := 5) (v := ?_) rfl (Or.inl ⟨by rfl, ?_⟩) ?_
     rotate_left
     ·intro X9 hSw; (try simp only [sD, sE, sF]); first | (go_simp; done) | (go_simp; with_reducible rfl)
     try simp only [Act.put, sA, sB, sC, sD, sE, sF]
     refine tk (i := 8) (v := .agg #[.string y.name, .string y.party]) rfl (yields_row8 (by rfl) 88 _ rfl c3 rfl 88 #[.string y.name, .string y.party] _ (fun _ h => h) Tryz.underlying88 rfl sizeA8) ?_
     try simp only [Act.put, sA, sB, sC, sD, sE, sF]
     refine tk (i := 11) (v := ?_) rfl (Or.inl ⟨by rfl, ?_⟩) ?_
     rotate_left
     ·intro X9 hSw; (try simp only [sD, sE, sF]); first | (go_simp; done) | (go_simp; with_reducible rfl)
     try simp only [Act.put, sA, sB, sC, sD, sE, sF]
     refine tk (i := 12) (v := ?_) rfl (Or.inl ⟨by rfl, ?_⟩) ?_
     rotate_left
     ·intro X9 hSw; (try simp only [sD, sE, sF]); first | (go_simp; done) | (go_simp; with_reducible rfl)
     try simp only [Act.put, sA, sB, sC, sD, sE, sF]
     refine tk (i := 13) (v := ?_) rfl (Or.inl ⟨by rfl, ?_⟩) ?_
     rotate_left
     ·intro X9 hSw; (try simp only [sD, sE, sF]); first | (go_simp; done) | (go_simp; with_reducible rfl)
     try simp only [Act.put, sA, sB, sC, sD, sE, sF]
     refine tk (i := 15) (v := ?_) rfl (Or.inl ⟨by rfl, ?_⟩) ?_
     rotate_left
     ·intro X9 hSw; (try simp only [sD, sE, sF]); first | (go_simp; done) | (go_simp; with_reducible rfl)
     try simp only [Act.put, sA, sB, sC, sD, sE, sF]
     refine wpAnyH_ready (rs := [4, 9, 14]) (by kernel_rfl) (by simp) (AllReadyH.cons rfl (fun K hK => ?_) (AllReadyH.cons rfl (fun K hK => ?_) (AllReadyH.cons rfl (fun K hK => ?_) (AllReadyH.nil))))
     ·have cl1 := (hb0.cell (p := ⟨x, 2, none⟩) (show x < X.heap.size from hxX)).trans cX
      try simp only [sD, sE, sF]
      go_simp
      refine hK.out _ _ ((hb0.block c3 hc3X).trans h3X) (fun hHeld => ?_)
      clear hK K
      try simp only [Act.put, sA, sB, sC, sD, sE, sF]
      refine tk (i := 6) (v := ?_) rfl (Or.inl ⟨by rfl, ?_⟩) ?_
      rotate_left
      ·intro X9 hSw; (try simp only [sD, sE, sF]); first | (go_simp; done) | (go_simp; with_reducible rfl)
      try simp only [Act.put, sA, sB, sC, sD, sE, sF]
      refine wpAnyH_ready (rs := [7, 9, 14]) (by kernel_rfl) (by simp) (AllReadyH.cons rfl (fun K hK => ?_) (AllReadyH.cons rfl (fun K hK => ?_) (AllReadyH.cons rfl (fun K hK => ?_) (AllReadyH.nil))))
      ·refine step_append_any (X.drew) rfl (.const (.slice none 0 0)) (.tmp 70) 36 rfl X.heap.size 88 i0 z0 2 32 Tryz.underlying36 hinf hz0 hz1 hz2 hz3 (by decide) (.slice none 0 0) 0 [] (by rfl) (World.ownsRow_nil _ _ _ _) X.heap.size A j _ (cellsOf (P.take j)) (by rfl) (HP.out.below hb0) (cellsOf_one _ oneA8) (by unfold maxLen; omega) (by omega) hb0.size ?_
       intro v2 w2 ho2 hg2 hl2
       rw [Nat.zero_add, List.nil_append] at ho2
       have hb2 := hb0.grown hg2 hb0.size (fun q hq => by simp [Value.ownBlock] at hq)
       have hsz2 := hb2.size
       clear hg2 hl2
       refine hK.out _ _ ((hb2.block c3 hc3X).trans h3X) (fun hHeld => ?_)
       clear hK K
       try simp only [Act.put, sA, sB, sC, sD, sE, sF]
       refine wpAnyH_ready (rs := [9, 14]) (by kernel_rfl) (by simp) (AllReadyH.cons rfl (fun K hK => ?_) (AllReadyH.cons rfl (fun K hK => ?_) (AllReadyH.nil)))
       ·have hb3 := hb2.alloc hb2.size (.cells #[.string y.name, .string y.party] 88)
        try simp only [sD, sE, sF]
        go_simp
        refine hK.out _ _ ((hb3.block c3 hc3X).trans h3X) (fun hHeld => ?_)
        clear hK K
        try simp only [Act.put, sA, sB, sC, sD, sE, sF]
        have hsz3 := hb3.size
        have hn3 : Reads (w2.alloc (.cells #[.string y.name, .string y.party] 88)) (w2.heap.size + 1) 2 (some ⟨w2.heap.size, 0, none⟩) 1 [.string y.name, .string y.party] := reads_newN w2 [.string y.name, .string y.party] 88 #[.string y.name, .string y.party] rfl (N := 2) rfl
        have ho3 := ho2.alloc (.cells #[.string y.name, .string y.party] 88)
        refine wpAnyH_ready (rs := [10, 14]) (by kernel_rfl) (by simp) (AllReadyH.cons rfl (fun K hK => ?_) (AllReadyH.cons rfl (fun K hK => ?_) (AllReadyH.nil)))
        ·refine step_append_any ((w2.alloc (.cells #[.string y.name, .string y.party] 88))) rfl (.tmp 71) (.tmp 73) 36 rfl X.heap.size 88 i0 z0 2 32 Tryz.underlying36 hinf hz0 hz1 hz2 hz3 (by decide) v2 j (cellsOf (P.take j)) (by rfl) ho3 (w2.heap.size + 1) (some ⟨w2.heap.size, 0, none⟩) 1 1 [.string y.name, .string y.party] (by rfl) hn3 (oneA8 y) (by unfold maxLen; omega) (by omega) hb3.size ?_
         intro v4 w4 ho4 hg4 hl4
         have hb4 := hb3.grown hg4 hb3.size (fun q hq => (ho3.lt q hq).1)
         have hsz4 := hb4.size
         clear hg4 hl4
         refine hK.out _ _ ((hb4.block c3 hc3X).trans h3X) (fun hHeld => ?_)
         clear hK K
         try simp only [Act.put, sA, sB, sC, sD, sE, sF]
         refine wpAnyH_ready (rs := [14]) (by kernel_rfl) (by simp) (AllReadyH.cons rfl (fun K hK => ?_) (AllReadyH.nil))
         have cl5 := (hb4.cell (p := ⟨x, 2, none⟩) (show x < X.heap.size from hxX)).trans cX
         try simp only [sD, sE, sF]
         go_simp
         refine hK.out _ _ ((hb4.block c3 hc3X).trans h3X) (fun hHeld => ?_)
         clear hK K
         try simp only [Act.put, sA, sB, sC, sD, sE, sF]
         refine tk (i := 16) (v := ?_) rfl (Or.inl ⟨by rfl, ?_⟩) ?_
         rotate_left
         ·intro X9 hSw; (try simp only [sD, sE, sF]); first | (go_simp; done) | (go_simp; with_reducible rfl)
         try simp only [Act.put, sA, sB, sC, sD, sE, sF]
         refine wpAnyH_ready (rs := [17]) (by kernel_rfl) (by simp) (AllReadyH.cons rfl (fun K hK => ?_) (AllReadyH.nil))
         refine step_append_any (w4) rfl (.tmp 74) (.tmp 80) 36 rfl X.heap.size 88 i0 z0 2 32 Tryz.underlying36 hinf hz0 hz1 hz2 hz3 (by decide) v4 (j + 1) (cellsOf (P.take j) ++ [.string y.name, .string y.party]) (by rfl) ho4 X.heap.size _ (n - j) _ (cellsOf (P.drop j)) (by rfl) (HD.out.below hb4) (cellsOf_one _ oneA8) (by unfold maxLen; omega) (by omega) hb4.size ?_
         intro v6 w6 ho6 hg6 hl6
         have hb6 := hb4.grown hg6 hb4.size (fun q hq => (ho4.lt q hq).1)
         have hsz6 := hb6.size
         obtain ⟨A9, c9, rfl, hc9⟩ := own_form ho6
         clear hg6 hl6
         refine hK.out _ _ ((hb6.block c3 hc3X).trans h3X) (fun hHeld => ?_)
         clear hK K
         try simp only [Act.put, sA, sB, sC, sD, sE, sF]
         refine tk (i := 18) (v := ?_) rfl (Or.inl ⟨by rfl, ?_⟩) ?_
         rotate_left
         ·intro X9 hSw; (try simp only [sD, sE, sF]); first | (go_simp; done) | (go_simp; with_reducible rfl)
         try simp only [Act.put, sA, sB, sC, sD, sE, sF]
         refine tk (i := 19) (v := ?_) rfl (Or.inl ⟨by rfl, ?_⟩) ?_
         rotate_left
         ·intro X9 hSw; (try simp only [sD, sE, sF]); first | (go_simp; done) | (go_simp; with_reducible rfl)
         try simp only [Act.put, sA, sB, sC, sD, sE, sF]
         refine wpAnyH_ready (rs := [20]) (by kernel_rfl) (by simp) (AllReadyH.cons rfl (fun K hK => ?_) (AllReadyH.nil))
         have cl7 := (hb6.cell (p := ⟨x, 2, none⟩) (show x < X.heap.size from hxX)).trans cX
         have fl7 : w6.frozen? ⟨x, 2, none⟩ = false := (HRK.out.below hb6).frozen 2
         try simp only [sD, sE, sF]
         go_simp
         refine hK.out _ _ ((Below.heap_setCell _ ⟨x, 2, none⟩ _ _ hx3).trans ((hb6.block c3 hc3X).trans h3X)) (fun hHeld => ?_)
         clear hK K
         try simp only [Act.put, sA, sB, sC, sD, sE, sF]
         refine wpAnyH_done (by kernel_rfl) ?_ _
         have HROW9 : w6.ownsRow X.heap.size 88 2 (.slice A9 (j + 1 + (n - j)) c9) (j + 1 + (n - j)) (cellsOf (insK P y)) := by
          rw [HIN.out, cellsOf_app, cellsOf_app]
          exact ho6
         have HEND := Lib.hid ((HRK.out.below hb6).putA (slat_of_own (α := Account) (l := insK P y) HROW9 HIL.out (fun x _ => csA8 x) (show x < X.heap.size from hxX)))
         have HMV9 := Lib.hid (HMX.out.trans ((mv_of_below (x := x) hb6).trans (mv_set x 2 (.slice A9 (j + 1 + (n - j)) c9) w6)))
         clear HROW9 ho6 cX h3X
         go_wp2
         all_goals
          go_ret
          exact ⟨by rw [HE0.out.1]; rfl, by rw [HE0.out.2]; exact HEND.out, HMV9.out⟩
        ·have cl4 := (hb3.cell (p := ⟨x, 2, none⟩) (show x < X.heap.size from hxX)).trans cX
         try simp only [sD, sE, sF]
         go_simp
         refine hK.out _ _ ((hb3.block c3 hc3X).trans h3X) (fun hHeld => ?_)
         clear hK K
         try simp only [Act.put, sA, sB, sC, sD, sE, sF]
         refine tk (i := 16) (v := ?_) rfl (Or.inl ⟨by rfl, ?_⟩) ?_
         rotate_left
         ·intro X9 hSw; (try simp only [sD, sE, sF]); first | (go_simp; done) | (go_simp; with_reducible rfl)
         try simp only [Act.put, sA, sB, sC, sD, sE, sF]
         refine wpAnyH_ready (rs := [10]) (by kernel_rfl) (by simp) (AllReadyH.cons rfl (fun K hK => ?_) (AllReadyH.nil))
         refine step_append_any ((w2.alloc (.cells #[.string y.name, .string y.party] 88))) rfl (.tmp 71) (.tmp 73) 36 rfl X.heap.size 88 i0 z0 2 32 Tryz.underlying36 hinf hz0 hz1 hz2 hz3 (by decide) v2 j (cellsOf (P.take j)) (by rfl) ho3 (w2.heap.size + 1) (some ⟨w2.heap.size, 0, none⟩) 1 1 [.string y.name, .string y.party] (by rfl) hn3 (oneA8 y) (by unfold maxLen; omega) (by omega) hb3.size ?_
         intro v5 w5 ho5 hg5 hl5
         have hb5 := hb3.grown hg5 hb3.size (fun q hq => (ho3.lt q hq).1)
         have hsz5 := hb5.size
         clear hg5 hl5
         refine hK.out _ _ ((hb5.block c3 hc3X).trans h3X) (fun hHeld => ?_)
         clear hK K
         try simp only [Act.put, sA, sB, sC, sD, sE, sF]
         refine wpAnyH_ready (rs := [17]) (by kernel_rfl) (by simp) (AllReadyH.cons rfl (fun K hK => ?_) (AllReadyH.nil))
         refine step_append_any (w5) rfl (.tmp 74) (.tmp 80) 36 rfl X.heap.size 88 i0 z0 2 32 Tryz.underlying36 hinf hz0 hz1 hz2 hz3 (by decide) v5 (j + 1) (cellsOf (P.take j) ++ [.string y.name, .string y.party]) (by rfl) ho5 X.heap.size _ (n - j) _ (cellsOf (P.drop j)) (by rfl) (HD.out.below hb5) (cellsOf_one _ oneA8) (by unfold maxLen; omega) (by omega) hb5.size ?_
         intro v6 w6 ho6 hg6 hl6
         have hb6 := hb5.grown hg6 hb5.size (fun q hq => (ho5.lt q hq).1)
         have hsz6 := hb6.size
         obtain ⟨A9, c9, rfl, hc9⟩ := own_form ho6
         clear hg6 hl6
         refine hK.out _ _ ((hb6.block c3 hc3X).trans h3X) (fun hHeld => ?_)
         clear hK K
         try simp only [Act.put, sA, sB, sC, sD, sE, sF]
         refine tk (i := 18) (v := ?_) rfl (Or.inl ⟨by rfl, ?_⟩) ?_
         rotate_left
         ·intro X9 hSw; (try simp only [sD, sE, sF]); first | (go_simp; done) | (go_simp; with_reducible rfl)
         try simp only [Act.put, sA, sB, sC, sD, sE, sF]
         refine tk (i := 19) (v := ?_) rfl (Or.inl ⟨by rfl, ?_⟩) ?_
         rotate_left
         ·intro X9 hSw; (try simp only [sD, sE, sF]); first | (go_simp; done) | (go_simp; with_reducible rfl)
         try simp only [Act.put, sA, sB, sC, sD, sE, sF]
         refine wpAnyH_ready (rs := [20]) (by kernel_rfl) (by simp) (AllReadyH.cons rfl (fun K hK => ?_) (AllReadyH.nil))
         have cl7 := (hb6.cell (p := ⟨x, 2, none⟩) (show x < X.heap.size from hxX)).trans cX
         have fl7 : w6.frozen? ⟨x, 2, none⟩ = false := (HRK.out.below hb6).frozen 2
         try simp only [sD, sE, sF]
         go_simp
         refine hK.out _ _ ((Below.heap_setCell _ ⟨x, 2, none⟩ _ _ hx3).trans ((hb6.block c3 hc3X).trans h3X)) (fun hHeld => ?_)
         clear hK K
         try simp only [Act.put, sA, sB, sC, sD, sE, sF]
         refine wpAnyH_done (by kernel_rfl) ?_ _
         have HROW9 : w6.ownsRow X.heap.size 88 2 (.slice A9 (j + 1 + (n - j)) c9) (j + 1 + (n - j)) (cellsOf (insK P y)) := by
          rw [HIN.out, cellsOf_app, cellsOf_app]
          exact ho6
         have HEND := Lib.hid ((HRK.out.below hb6).putA (slat_of_own (α := Account) (l := insK P y) HROW9 HIL.out (fun x _ => csA8 x) (show x < X.heap.size from hxX)))
         have HMV9 := Lib.hid (HMX.out.trans ((mv_of_below (x := x) hb6).trans (mv_set x 2 (.slice A9 (j + 1 + (n - j)) c9) w6)))
         clear HROW9 ho6 cX h3X
         go_wp2
         all_goals
          go_ret
          exact ⟨by rw [HE0.out.1]; rfl, by rw [HE0.out.2]; exact HEND.out, HMV9.out⟩
       ·have cl3 := (hb2.cell (p := ⟨x, 2, none⟩) (show x < X.heap.size from hxX)).trans cX
        try simp only [sD, sE, sF]
        go_simp
        refine hK.out _ _ ((hb2.block c3 hc3X).trans h3X) (fun hHeld => ?_)
        clear hK K
        try simp only [Act.put, sA, sB, sC, sD, sE, sF]
        refine tk (i := 16) (v := ?_) rfl (Or.inl ⟨by rfl, ?_⟩) ?_
        rotate_left
        ·intro X9 hSw; (try simp only [sD, sE, sF]); first | (go_simp; done) | (go_simp; with_reducible rfl)
        try simp only [Act.put, sA, sB, sC, sD, sE, sF]
        refine wpAnyH_ready (rs := [9]) (by kernel_rfl) (by simp) (AllReadyH.cons rfl (fun K hK => ?_) (AllReadyH.nil))
        have hb4 := hb2.alloc hb2.size (.cells #[.string y.name, .string y.party] 88)
        try simp only [sD, sE, sF]
        go_simp
        refine hK.out _ _ ((hb4.block c3 hc3X).trans h3X) (fun hHeld => ?_)
        clear hK K
        try simp only [Act.put, sA, sB, sC, sD, sE, sF]
        have hsz4 := hb4.size
        have hn4 : Reads (w2.alloc (.cells #[.string y.name, .string y.party] 88)) (w2.heap.size + 1) 2 (some ⟨w2.heap.size, 0, none⟩) 1 [.string y.name, .string y.party] := reads_newN w2 [.string y.name, .string y.party] 88 #[.string y.name, .string y.party] rfl (N := 2) rfl
        have ho4 := ho2.alloc (.cells #[.string y.name, .string y.party] 88)
        refine wpAnyH_ready (rs := [10]) (by kernel_rfl) (by simp) (AllReadyH.cons rfl (fun K hK => ?_) (AllReadyH.nil))
        refine step_append_any ((w2.alloc (.cells #[.string y.name, .string y.party] 88))) rfl (.tmp 71) (.tmp 73) 36 rfl X.heap.size 88 i0 z0 2 32 Tryz.underlying36 hinf hz0 hz1 hz2 hz3 (by decide) v2 j (cellsOf (P.take j)) (by rfl) ho4 (w2.heap.size + 1) (some ⟨w2.heap.size, 0, none⟩) 1 1 [.string y.name, .string y.party] (by rfl) hn4 (oneA8 y) (by unfold maxLen; omega) (by omega) hb4.size ?_
        intro v5 w5 ho5 hg5 hl5
        have hb5 := hb4.grown hg5 hb4.size (fun q hq => (ho4.lt q hq).1)
        have hsz5 := hb5.size
        clear hg5 hl5
        refine hK.out _ _ ((hb5.block c3 hc3X).trans h3X) (fun hHeld => ?_)
        clear hK K
        try simp only [Act.put, sA, sB, sC, sD, sE, sF]
        refine wpAnyH_ready (rs := [17]) (by kernel_rfl) (by simp) (AllReadyH.cons rfl (fun K hK => ?_) (AllReadyH.nil))
        refine step_append_any (w5) rfl (.tmp 74) (.tmp 80) 36 rfl X.heap.size 88 i0 z0 2 32 Tryz.underlying36 hinf hz0 hz1 hz2 hz3 (by decide) v5 (j + 1) (cellsOf (P.take j) ++ [.string y.name, .string y.party]) (by rfl) ho5 X.heap.size _ (n - j) _ (cellsOf (P.drop j)) (by rfl) (HD.out.below hb5) (cellsOf_one _ oneA8) (by unfold maxLen; omega) (by omega) hb5.size ?_
        intro v6 w6 ho6 hg6 hl6
        have hb6 := hb5.grown hg6 hb5.size (fun q hq => (ho5.lt q hq).1)
        have hsz6 := hb6.size
        obtain ⟨A9, c9, rfl, hc9⟩ := own_form ho6
        clear hg6 hl6
        refine hK.out _ _ ((hb6.block c3 hc3X).trans h3X) (fun hHeld => ?_)
        clear hK K
        try simp only [Act.put, sA, sB, sC, sD, sE, sF]
        refine tk (i := 18) (v := ?_) rfl (Or.inl ⟨by rfl, ?_⟩) ?_
        rotate_left
        ·intro X9 hSw; (try simp only [sD, sE, sF]); first | (go_simp; done) | (go_simp; with_reducible rfl)
        try simp only [Act.put, sA, sB, sC, sD, sE, sF]
        refine tk (i := 19) (v := ?_) rfl (Or.inl ⟨by rfl, ?_⟩) ?_
        rotate_left
        ·intro X9 hSw; (try simp only [sD, sE, sF]); first | (go_simp; done) | (go_simp; with_reducible rfl)
        try simp only [Act.put, sA, sB, sC, sD, sE, sF]
        refine wpAnyH_ready (rs := [20]) (by kernel_rfl) (by simp) (AllReadyH.cons rfl (fun K hK => ?_) (AllReadyH.nil))
        have cl7 := (hb6.cell (p := ⟨x, 2, none⟩) (show x < X.heap.size from hxX)).trans cX
        have fl7 : w6.frozen? ⟨x, 2, none⟩ = false := (HRK.out.below hb6).frozen 2
        try simp only [sD, sE, sF]
        go_simp
        refine hK.out _ _ ((Below.heap_setCell _ ⟨x, 2, none⟩ _ _ hx3).trans ((hb6.block c3 hc3X).trans h3X)) (fun hHeld => ?_)
        clear hK K
        try simp only [Act.put, sA, sB, sC, sD, sE, sF]
        refine wpAnyH_done (by kernel_rfl) ?_ _
        have HROW9 : w6.ownsRow X.heap.size 88 2 (.slice A9 (j + 1 + (n - j)) c9) (j + 1 + (n - j)) (cellsOf (insK P y)) := by
         rw [HIN.out, cellsOf_app, cellsOf_app]
         exact ho6
        have HEND := Lib.hid ((HRK.out.below hb6).putA (slat_of_own (α := Account) (l := insK P y) HROW9 HIL.out (fun x _ => csA8 x) (show x < X.heap.size from hxX)))
        have HMV9 := Lib.hid (HMX.out.trans ((mv_of_below (x := x) hb6).trans (mv_set x 2 (.slice A9 (j + 1 + (n - j)) c9) w6)))
        clear HROW9 ho6 cX h3X
        go_wp2
        all_goals
         go_ret
         exact ⟨by rw [HE0.out.1]; rfl, by rw [HE0.out.2]; exact HEND.out, HMV9.out⟩
      ·have hb2 := hb0.alloc hb0.size (.cells #[.string y.name, .string y.party] 88)
       try simp only [sD, sE, sF]
       go_simp
       refine hK.out _ _ ((hb2.block c3 hc3X).trans h3X) (fun hHeld => ?_)
       clear hK K
       try simp only [Act.put, sA, sB, sC, sD, sE, sF]
       have hsz2 := hb2.size
       have hn2 : Reads (X.drew.alloc (.cells #[.string y.name, .string y.party] 88)) (X.heap.size + 1) 2 (some ⟨X.heap.size, 0, none⟩) 1 [.string y.name, .string y.party] := reads_newN X.drew [.string y.name, .string y.party] 88 #[.string y.name, .string y.party] rfl (N := 2) rfl
       refine wpAnyH_ready (rs := [7, 14]) (by kernel_rfl) (by simp) (AllReadyH.cons rfl (fun K hK => ?_) (AllReadyH.cons rfl (fun K hK => ?_) (AllReadyH.nil)))
       ·refine step_append_any ((X.drew.alloc (.cells #[.string y.name, .string y.party] 88))) rfl (.const (.slice none 0 0)) (.tmp 70) 36 rfl X.heap.size 88 i0 z0 2 32 Tryz.underlying36 hinf hz0 hz1 hz2 hz3 (by decide) (.slice none 0 0) 0 [] (by rfl) (World.ownsRow_nil _ _ _ _) X.heap.size A j _ (cellsOf (P.take j)) (by rfl) (HP.out.below hb2) (cellsOf_one _ oneA8) (by unfold maxLen; omega) (by omega) hb2.size ?_
        intro v3 w3 ho3 hg3 hl3
        rw [Nat.zero_add, List.nil_append] at ho3
        have hb3 := hb2.grown hg3 hb2.size (fun q hq => by simp [Value.ownBlock] at hq)
        have hsz3 := hb3.size
        have hn3 := hn2.grown hg3 (by simp) (by simp [Value.ownBlock])
        clear hg3 hl3
        refine hK.out _ _ ((hb3.block c3 hc3X).trans h3X) (fun hHeld => ?_)
        clear hK K
        try simp only [Act.put, sA, sB, sC, sD, sE, sF]
        refine wpAnyH_ready (rs := [10, 14]) (by kernel_rfl) (by simp) (AllReadyH.cons rfl (fun K hK => ?_) (AllReadyH.cons rfl (fun K hK => ?_) (AllReadyH.nil)))
        ·refine step_append_any (w3) rfl (.tmp 71) (.tmp 73) 36 rfl X.heap.size 88 i0 z0 2 32 Tryz.underlying36 hinf hz0 hz1 hz2 hz3 (by decide) v3 j (cellsOf (P.take j)) (by rfl) ho3 (X.heap.size + 1) (some ⟨X.heap.size, 0, none⟩) 1 1 [.string y.name, .string y.party] (by rfl) hn3 (oneA8 y) (by unfold maxLen; omega) (by omega) hb3.size ?_
         intro v4 w4 ho4 hg4 hl4
         have hb4 := hb3.grown hg4 hb3.size (fun q hq => (ho3.lt q hq).1)
         have hsz4 := hb4.size
         clear hg4 hl4
         refine hK.out _ _ ((hb4.block c3 hc3X).trans h3X) (fun hHeld => ?_)
         clear hK K
         try simp only [Act.put, sA, sB, sC, sD, sE, sF]
         refine wpAnyH_ready (rs := [14]) (by kernel_rfl) (by simp) (AllReadyH.cons rfl (fun K hK => ?_) (AllReadyH.nil))
         have cl5 := (hb4.cell (p := ⟨x, 2, none⟩) (show x < X.heap.size from hxX)).trans cX
         try simp only [sD, sE, sF]
         go_simp
         refine hK.out _ _ ((hb4.block c3 hc3X).trans h3X) (fun hHeld => ?_)
         clear hK K
         try simp only [Act.put, sA, sB, sC, sD, sE, sF]
         refine tk (i := 16) (v := ?_) rfl (Or.inl ⟨by rfl, ?_⟩) ?_
         rotate_left
         ·intro X9 hSw; (try simp only [sD, sE, sF]); first | (go_simp; done) | (go_simp; with_reducible rfl)
         try simp only [Act.put, sA, sB, sC, sD, sE, sF]
         refine wpAnyH_ready (rs := [17]) (by kernel_rfl) (by simp) (AllReadyH.cons rfl (fun K hK => ?_) (AllReadyH.nil))
         refine step_append_any (w4) rfl (.tmp 74) (.tmp 80) 36 rfl X.heap.size 88 i0 z0 2 32 Tryz.underlying36 hinf hz0 hz1 hz2 hz3 (by decide) v4 (j + 1) (cellsOf (P.take j) ++ [.string y.name, .string y.party]) (by rfl) ho4 X.heap.size _ (n - j) _ (cellsOf (P.drop j)) (by rfl) (HD.out.below hb4) (cellsOf_one _ oneA8) (by unfold maxLen; omega) (by omega) hb4.size ?_
         intro v6 w6 ho6 hg6 hl6
         have hb6 := hb4.grown hg6 hb4.size (fun q hq => (ho4.lt q hq).1)
         have hsz6 := hb6.size
         obtain ⟨A9, c9, rfl, hc9⟩ := own_form ho6
         clear hg6 hl6
         refine hK.out _ _ ((hb6.block c3 hc3X).trans h3X) (fun hHeld => ?_)
         clear hK K
         try simp only [Act.put, sA, sB, sC, sD, sE, sF]
         refine tk (i := 18) (v := ?_) rfl (Or.inl ⟨by rfl, ?_⟩) ?_
         rotate_left
         ·intro X9 hSw; (try simp only [sD, sE, sF]); first | (go_simp; done) | (go_simp; with_reducible rfl)
         try simp only [Act.put, sA, sB, sC, sD, sE, sF]
         refine tk (i := 19) (v := ?_) rfl (Or.inl ⟨by rfl, ?_⟩) ?_
         rotate_left
         ·intro X9 hSw; (try simp only [sD, sE, sF]); first | (go_simp; done) | (go_simp; with_reducible rfl)
         try simp only [Act.put, sA, sB, sC, sD, sE, sF]
         refine wpAnyH_ready (rs := [20]) (by kernel_rfl) (by simp) (AllReadyH.cons rfl (fun K hK => ?_) (AllReadyH.nil))
         have cl7 := (hb6.cell (p := ⟨x, 2, none⟩) (show x < X.heap.size from hxX)).trans cX
         have fl7 : w6.frozen? ⟨x, 2, none⟩ = false := (HRK.out.below hb6).frozen 2
         try simp only [sD, sE, sF]
         go_simp
         refine hK.out _ _ ((Below.heap_setCell _ ⟨x, 2, none⟩ _ _ hx3).trans ((hb6.block c3 hc3X).trans h3X)) (fun hHeld => ?_)
         clear hK K
         try simp only [Act.put, sA, sB, sC, sD, sE, sF]
         refine wpAnyH_done (by kernel_rfl) ?_ _
         have HROW9 : w6.ownsRow X.heap.size 88 2 (.slice A9 (j + 1 + (n - j)) c9) (j + 1 + (n - j)) (cellsOf (insK P y)) := by
          rw [HIN.out, cellsOf_app, cellsOf_app]
          exact ho6
         have HEND := Lib.hid ((HRK.out.below hb6).putA (slat_of_own (α := Account) (l := insK P y) HROW9 HIL.out (fun x _ => csA8 x) (show x < X.heap.size from hxX)))
         have HMV9 := Lib.hid (HMX.out.trans ((mv_of_below (x := x) hb6).trans (mv_set x 2 (.slice A9 (j + 1 + (n - j)) c9) w6)))
         clear HROW9 ho6 cX h3X
         go_wp2
         all_goals
          go_ret
          exact ⟨by rw [HE0.out.1]; rfl, by rw [HE0.out.2]; exact HEND.out, HMV9.out⟩
        ·have cl4 := (hb3.cell (p := ⟨x, 2, none⟩) (show x < X.heap.size from hxX)).trans cX
         try simp only [sD, sE, sF]
         go_simp
         refine hK.out _ _ ((hb3.block c3 hc3X).trans h3X) (fun hHeld => ?_)
         clear hK K
         try simp only [Act.put, sA, sB, sC, sD, sE, sF]
         refine tk (i := 16) (v := ?_) rfl (Or.inl ⟨by rfl, ?_⟩) ?_
         rotate_left
         ·intro X9 hSw; (try simp only [sD, sE, sF]); first | (go_simp; done) | (go_simp; with_reducible rfl)
         try simp only [Act.put, sA, sB, sC, sD, sE, sF]
         refine wpAnyH_ready (rs := [10]) (by kernel_rfl) (by simp) (AllReadyH.cons rfl (fun K hK => ?_) (AllReadyH.nil))
         refine step_append_any (w3) rfl (.tmp 71) (.tmp 73) 36 rfl X.heap.size 88 i0 z0 2 32 Tryz.underlying36 hinf hz0 hz1 hz2 hz3 (by decide) v3 j (cellsOf (P.take j)) (by rfl) ho3 (X.heap.size + 1) (some ⟨X.heap.size, 0, none⟩) 1 1 [.string y.name, .string y.party] (by rfl) hn3 (oneA8 y) (by unfold maxLen; omega) (by omega) hb3.size ?_
         intro v5 w5 ho5 hg5 hl5
         have hb5 := hb3.grown hg5 hb3.size (fun q hq => (ho3.lt q hq).1)
         have hsz5 := hb5.size
         clear hg5 hl5
         refine hK.out _ _ ((hb5.block c3 hc3X).trans h3X) (fun hHeld => ?_)
         clear hK K
         try simp only [Act.put, sA, sB, sC, sD, sE, sF]
         refine wpAnyH_ready (rs := [17]) (by kernel_rfl) (by simp) (AllReadyH.cons rfl (fun K hK => ?_) (AllReadyH.nil))
         refine step_append_any (w5) rfl (.tmp 74) (.tmp 80) 36 rfl X.heap.size 88 i0 z0 2 32 Tryz.underlying36 hinf hz0 hz1 hz2 hz3 (by decide) v5 (j + 1) (cellsOf (P.take j) ++ [.string y.name, .string y.party]) (by rfl) ho5 X.heap.size _ (n - j) _ (cellsOf (P.drop j)) (by rfl) (HD.out.below hb5) (cellsOf_one _ oneA8) (by unfold maxLen; omega) (by omega) hb5.size ?_
         intro v6 w6 ho6 hg6 hl6
         have hb6 := hb5.grown hg6 hb5.size (fun q hq => (ho5.lt q hq).1)
         have hsz6 := hb6.size
         obtain ⟨A9, c9, rfl, hc9⟩ := own_form ho6
         clear hg6 hl6
         refine hK.out _ _ ((hb6.block c3 hc3X).trans h3X) (fun hHeld => ?_)
         clear hK K
         try simp only [Act.put, sA, sB, sC, sD, sE, sF]
         refine tk (i := 18) (v := ?_) rfl (Or.inl ⟨by rfl, ?_⟩) ?_
         rotate_left
         ·intro X9 hSw; (try simp only [sD, sE, sF]); first | (go_simp; done) | (go_simp; with_reducible rfl)
         try simp only [Act.put, sA, sB, sC, sD, sE, sF]
         refine tk (i := 19) (v := ?_) rfl (Or.inl ⟨by rfl, ?_⟩) ?_
         rotate_left
         ·intro X9 hSw; (try simp only [sD, sE, sF]); first | (go_simp; done) | (go_simp; with_reducible rfl)
         try simp only [Act.put, sA, sB, sC, sD, sE, sF]
         refine wpAnyH_ready (rs := [20]) (by kernel_rfl) (by simp) (AllReadyH.cons rfl (fun K hK => ?_) (AllReadyH.nil))
         have cl7 := (hb6.cell (p := ⟨x, 2, none⟩) (show x < X.heap.size from hxX)).trans cX
         have fl7 : w6.frozen? ⟨x, 2, none⟩ = false := (HRK.out.below hb6).frozen 2
         try simp only [sD, sE, sF]
         go_simp
         refine hK.out _ _ ((Below.heap_setCell _ ⟨x, 2, none⟩ _ _ hx3).trans ((hb6.block c3 hc3X).trans h3X)) (fun hHeld => ?_)
         clear hK K
         try simp only [Act.put, sA, sB, sC, sD, sE, sF]
         refine wpAnyH_done (by kernel_rfl) ?_ _
         have HROW9 : w6.ownsRow X.heap.size 88 2 (.slice A9 (j + 1 + (n - j)) c9) (j + 1 + (n - j)) (cellsOf (insK P y)) := by
          rw [HIN.out, cellsOf_app, cellsOf_app]
          exact ho6
         have HEND := Lib.hid ((HRK.out.below hb6).putA (slat_of_own (α := Account) (l := insK P y) HROW9 HIL.out (fun x _ => csA8 x) (show x < X.heap.size from hxX)))
         have HMV9 := Lib.hid (HMX.out.trans ((mv_of_below (x := x) hb6).trans (mv_set x 2 (.slice A9 (j + 1 + (n - j)) c9) w6)))
         clear HROW9 ho6 cX h3X
         go_wp2
         all_goals
          go_ret
          exact ⟨by rw [HE0.out.1]; rfl, by rw [HE0.out.2]; exact HEND.out, HMV9.out⟩
       ·have cl3 := (hb2.cell (p := ⟨x, 2, none⟩) (show x < X.heap.size from hxX)).trans cX
        try simp only [sD, sE, sF]
        go_simp
        refine hK.out _ _ ((hb2.block c3 hc3X).trans h3X) (fun hHeld => ?_)
        clear hK K
        try simp only [Act.put, sA, sB, sC, sD, sE, sF]
        refine tk (i := 16) (v := ?_) rfl (Or.inl ⟨by rfl, ?_⟩) ?_
        rotate_left
        ·intro X9 hSw; (try simp only [sD, sE, sF]); first | (go_simp; done) | (go_simp; with_reducible rfl)
        try simp only [Act.put, sA, sB, sC, sD, sE, sF]
        refine wpAnyH_ready (rs := [7]) (by kernel_rfl) (by simp) (AllReadyH.cons rfl (fun K hK => ?_) (AllReadyH.nil))
        refine step_append_any ((X.drew.alloc (.cells #[.string y.name, .string y.party] 88))) rfl (.const (.slice none 0 0)) (.tmp 70) 36 rfl X.heap.size 88 i0 z0 2 32 Tryz.underlying36 hinf hz0 hz1 hz2 hz3 (by decide) (.slice none 0 0) 0 [] (by rfl) (World.ownsRow_nil _ _ _ _) X.heap.size A j _ (cellsOf (P.take j)) (by rfl) (HP.out.below hb2) (cellsOf_one _ oneA8) (by unfold maxLen; omega) (by omega) hb2.size ?_
        intro v4 w4 ho4 hg4 hl4
        rw [Nat.zero_add, List.nil_append] at ho4
        have hb4 := hb2.grown hg4 hb2.size (fun q hq => by simp [Value.ownBlock] at hq)
        have hsz4 := hb4.size
        have hn4 := hn2.grown hg4 (by simp) (by simp [Value.ownBlock])
        clear hg4 hl4
        refine hK.out _ _ ((hb4.block c3 hc3X).trans h3X) (fun hHeld => ?_)
        clear hK K
        try simp only [Act.put, sA, sB, sC, sD, sE, sF]
        refine wpAnyH_ready (rs := [10]) (by kernel_rfl) (by simp) (AllReadyH.cons rfl (fun K hK => ?_) (AllReadyH.nil))
        refine step_append_any (w4) rfl (.tmp 71) (.tmp 73) 36 rfl X.heap.size 88 i0 z0 2 32 Tryz.underlying36 hinf hz0 hz1 hz2 hz3 (by decide) v4 j (cellsOf (P.take j)) (by rfl) ho4 (X.heap.size + 1) (some ⟨X.heap.size, 0, none⟩) 1 1 [.string y.name, .string y.party] (by rfl) hn4 (oneA8 y) (by unfold maxLen; omega) (by omega) hb4.size ?_
        intro v5 w5 ho5 hg5 hl5
        have hb5 := hb4.grown hg5 hb4.size (fun q hq => (ho4.lt q hq).1)
        have hsz5 := hb5.size
        clear hg5 hl5
        refine hK.out _ _ ((hb5.block c3 hc3X).trans h3X) (fun hHeld => ?_)
        clear hK K
        try simp only [Act.put, sA, sB, sC, sD, sE, sF]
        refine wpAnyH_ready (rs := [17]) (by kernel_rfl) (by simp) (AllReadyH.cons rfl (fun K hK => ?_) (AllReadyH.nil))
        refine step_append_any (w5) rfl (.tmp 74) (.tmp 80) 36 rfl X.heap.size 88 i0 z0 2 32 Tryz.underlying36 hinf hz0 hz1 hz2 hz3 (by decide) v5 (j + 1) (cellsOf (P.take j) ++ [.string y.name, .string y.party]) (by rfl) ho5 X.heap.size _ (n - j) _ (cellsOf (P.drop j)) (by rfl) (HD.out.below hb5) (cellsOf_one _ oneA8) (by unfold maxLen; omega) (by omega) hb5.size ?_
        intro v6 w6 ho6 hg6 hl6
        have hb6 := hb5.grown hg6 hb5.size (fun q hq => (ho5.lt q hq).1)
        have hsz6 := hb6.size
        obtain ⟨A9, c9, rfl, hc9⟩ := own_form ho6
        clear hg6 hl6
        refine hK.out _ _ ((hb6.block c3 hc3X).trans h3X) (fun hHeld => ?_)
        clear hK K
        try simp only [Act.put, sA, sB, sC, sD, sE, sF]
        refine tk (i := 18) (v := ?_) rfl (Or.inl ⟨by rfl, ?_⟩) ?_
        rotate_left
        ·intro X9 hSw; (try simp only [sD, sE, sF]); first | (go_simp; done) | (go_simp; with_reducible rfl)
        try simp only [Act.put, sA, sB, sC, sD, sE, sF]
        refine tk (i := 19) (v := ?_) rfl (Or.inl ⟨by rfl, ?_⟩) ?_
        rotate_left
        ·intro X9 hSw; (try simp only [sD, sE, sF]); first | (go_simp; done) | (go_simp; with_reducible rfl)
        try simp only [Act.put, sA, sB, sC, sD, sE, sF]
        refine wpAnyH_ready (rs := [20]) (by kernel_rfl) (by simp) (AllReadyH.cons rfl (fun K hK => ?_) (AllReadyH.nil))
        have cl7 := (hb6.cell (p := ⟨x, 2, none⟩) (show x < X.heap.size from hxX)).trans cX
        have fl7 : w6.frozen? ⟨x, 2, none⟩ = false := (HRK.out.below hb6).frozen 2
        try simp only [sD, sE, sF]
        go_simp
        refine hK.out _ _ ((Below.heap_setCell _ ⟨x, 2, none⟩ _ _ hx3).trans ((hb6.block c3 hc3X).trans h3X)) (fun hHeld => ?_)
        clear hK K
        try simp only [Act.put, sA, sB, sC, sD, sE, sF]
        refine wpAnyH_done (by kernel_rfl) ?_ _
        have HROW9 : w6.ownsRow X.heap.size 88 2 (.slice A9 (j + 1 + (n - j)) c9) (j + 1 + (n - j)) (cellsOf (insK P y)) := by
         rw [HIN.out, cellsOf_app, cellsOf_app]
         exact ho6
        have HEND := Lib.hid ((HRK.out.below hb6).putA (slat_of_own (α := Account) (l := insK P y) HROW9 HIL.out (fun x _ => csA8 x) (show x < X.heap.size from hxX)))
        have HMV9 := Lib.hid (HMX.out.trans ((mv_of_below (x := x) hb6).trans (mv_set x 2 (.slice A9 (j + 1 + (n - j)) c9) w6)))
        clear HROW9 ho6 cX h3X
        go_wp2
        all_goals
         go_ret
         exact ⟨by rw [HE0.out.1]; rfl, by rw [HE0.out.2]; exact HEND.out, HMV9.out⟩
      ·have cl2 := (hb0.cell (p := ⟨x, 2, none⟩) (show x < X.heap.size from hxX)).trans cX
       try simp only [sD, sE, sF]
       go_simp
       refine hK.out _ _ ((hb0.block c3 hc3X).trans h3X) (fun hHeld => ?_)
       clear hK K
       try simp only [Act.put, sA, sB, sC, sD, sE, sF]
       refine tk (i := 16) (v := ?_) rfl (Or.inl ⟨by rfl, ?_⟩) ?_
       rotate_left
       ·intro X9 hSw; (try simp only [sD, sE, sF]); first | (go_simp; done) | (go_simp; with_reducible rfl)
       try simp only [Act.put, sA, sB, sC, sD, sE, sF]
       refine wpAnyH_ready (rs := [7, 9]) (by kernel_rfl) (by simp) (AllReadyH.cons rfl (fun K hK => ?_) (AllReadyH.cons rfl (fun K hK => ?_) (AllReadyH.nil)))
       ·refine step_append_any (X.drew) rfl (.const (.slice none 0 0)) (.tmp 70) 36 rfl X.heap.size 88 i0 z0 2 32 Tryz.underlying36 hinf hz0 hz1 hz2 hz3 (by decide) (.slice none 0 0) 0 [] (by rfl) (World.ownsRow_nil _ _ _ _) X.heap.size A j _ (cellsOf (P.take j)) (by rfl) (HP.out.below hb0) (cellsOf_one _ oneA8) (by unfold maxLen; omega) (by omega) hb0.size ?_
        intro v3 w3 ho3 hg3 hl3
        rw [Nat.zero_add, List.nil_append] at ho3
        have hb3 := hb0.grown hg3 hb0.size (fun q hq => by simp [Value.ownBlock] at hq)
        have hsz3 := hb3.size
        clear hg3 hl3
        refine hK.out _ _ ((hb3.block c3 hc3X).trans h3X) (fun hHeld => ?_)
        clear hK K
        try simp only [Act.put, sA, sB, sC, sD, sE, sF]
        refine wpAnyH_ready (rs := [9]) (by kernel_rfl) (by simp) (AllReadyH.cons rfl (fun K hK => ?_) (AllReadyH.nil))
        have hb4 := hb3.alloc hb3.size (.cells #[.string y.name, .string y.party] 88)
        try simp only [sD, sE, sF]
        go_simp
        refine hK.out _ _ ((hb4.block c3 hc3X).trans h3X) (fun hHeld => ?_)
        clear hK K
        try simp only [Act.put, sA, sB, sC, sD, sE, sF]
        have hsz4 := hb4.size
        have hn4 : Reads (w3.alloc (.cells #[.string y.name, .string y.party] 88)) (w3.heap.size + 1) 2 (some ⟨w3.heap.size, 0, none⟩) 1 [.string y.name, .string y.party] := reads_newN w3 [.string y.name, .string y.party] 88 #[.string y.name, .string y.party] rfl (N := 2) rfl
        have ho4 := ho3.alloc (.cells #[.string y.name, .string y.party] 88)
        refine wpAnyH_ready (rs := [10]) (by kernel_rfl) (by simp) (AllReadyH.cons rfl (fun K hK => ?_) (AllReadyH.nil))
        refine step_append_any ((w3.alloc (.cells #[.string y.name, .string y.party] 88))) rfl (.tmp 71) (.tmp 73) 36 rfl X.heap.size 88 i0 z0 2 32 Tryz.underlying36 hinf hz0 hz1 hz2 hz3 (by decide) v3 j (cellsOf (P.take j)) (by rfl) ho4 (w3.heap.size + 1) (some ⟨w3.heap.size, 0, none⟩) 1 1 [.string y.name, .string y.party] (by rfl) hn4 (oneA8 y) (by unfold maxLen; omega) (by omega) hb4.size ?_
        intro v5 w5 ho5 hg5 hl5
        have hb5 := hb4.grown hg5 hb4.size (fun q hq => (ho4.lt q hq).1)
        have hsz5 := hb5.size
        clear hg5 hl5
        refine hK.out _ _ ((hb5.block c3 hc3X).trans h3X) (fun hHeld => ?_)
        clear hK K
        try simp only [Act.put, sA, sB, sC, sD, sE, sF]
        refine wpAnyH_ready (rs := [17]) (by kernel_rfl) (by simp) (AllReadyH.cons rfl (fun K hK => ?_) (AllReadyH.nil))
        refine step_append_any (w5) rfl (.tmp 74) (.tmp 80) 36 rfl X.heap.size 88 i0 z0 2 32 Tryz.underlying36 hinf hz0 hz1 hz2 hz3 (by decide) v5 (j + 1) (cellsOf (P.take j) ++ [.string y.name, .string y.party]) (by rfl) ho5 X.heap.size _ (n - j) _ (cellsOf (P.drop j)) (by rfl) (HD.out.below hb5) (cellsOf_one _ oneA8) (by unfold maxLen; omega) (by omega) hb5.size ?_
        intro v6 w6 ho6 hg6 hl6
        have hb6 := hb5.grown hg6 hb5.size (fun q hq => (ho5.lt q hq).1)
        have hsz6 := hb6.size
        obtain ⟨A9, c9, rfl, hc9⟩ := own_form ho6
        clear hg6 hl6
        refine hK.out _ _ ((hb6.block c3 hc3X).trans h3X) (fun hHeld => ?_)
        clear hK K
        try simp only [Act.put, sA, sB, sC, sD, sE, sF]
        refine tk (i := 18) (v := ?_) rfl (Or.inl ⟨by rfl, ?_⟩) ?_
        rotate_left
        ·intro X9 hSw; (try simp only [sD, sE, sF]); first | (go_simp; done) | (go_simp; with_reducible rfl)
        try simp only [Act.put, sA, sB, sC, sD, sE, sF]
        refine tk (i := 19) (v := ?_) rfl (Or.inl ⟨by rfl, ?_⟩) ?_
        rotate_left
        ·intro X9 hSw; (try simp only [sD, sE, sF]); first | (go_simp; done) | (go_simp; with_reducible rfl)
        try simp only [Act.put, sA, sB, sC, sD, sE, sF]
        refine wpAnyH_ready (rs := [20]) (by kernel_rfl) (by simp) (AllReadyH.cons rfl (fun K hK => ?_) (AllReadyH.nil))
        have cl7 := (hb6.cell (p := ⟨x, 2, none⟩) (show x < X.heap.size from hxX)).trans cX
        have fl7 : w6.frozen? ⟨x, 2, none⟩ = false := (HRK.out.below hb6).frozen 2
        try simp only [sD, sE, sF]
        go_simp
        refine hK.out _ _ ((Below.heap_setCell _ ⟨x, 2, none⟩ _ _ hx3).trans ((hb6.block c3 hc3X).trans h3X)) (fun hHeld => ?_)
        clear hK K
        try simp only [Act.put, sA, sB, sC, sD, sE, sF]
        refine wpAnyH_done (by kernel_rfl) ?_ _
        have HROW9 : w6.ownsRow X.heap.size 88 2 (.slice A9 (j + 1 + (n - j)) c9) (j + 1 + (n - j)) (cellsOf (insK P y)) := by
         rw [HIN.out, cellsOf_app, cellsOf_app]
         exact ho6
        have HEND := Lib.hid ((HRK.out.below hb6).putA (slat_of_own (α := Account) (l := insK P y) HROW9 HIL.out (fun x _ => csA8 x) (show x < X.heap.size from hxX)))
        have HMV9 := Lib.hid (HMX.out.trans ((mv_of_below (x := x) hb6).trans (mv_set x 2 (.slice A9 (j + 1 + (n - j)) c9) w6)))
        clear HROW9 ho6 cX h3X
        go_wp2
        all_goals
         go_ret
         exact ⟨by rw [HE0.out.1]; rfl, by rw [HE0.out.2]; exact HEND.out, HMV9.out⟩
       ·have hb3 := hb0.alloc hb0.size (.cells #[.string y.name, .string y.party] 88)
        try simp only [sD, sE, sF]
        go_simp
        refine hK.out _ _ ((hb3.block c3 hc3X).trans h3X) (fun hHeld => ?_)
        clear hK K
        try simp only [Act.put, sA, sB, sC, sD, sE, sF]
        have hsz3 := hb3.size
        have hn3 : Reads (X.drew.alloc (.cells #[.string y.name, .string y.party] 88)) (X.heap.size + 1) 2 (some ⟨X.heap.size, 0, none⟩) 1 [.string y.name, .string y.party] := reads_newN X.drew [.string y.name, .string y.party] 88 #[.string y.name, .string y.party] rfl (N := 2) rfl
        refine wpAnyH_ready (rs := [7]) (by kernel_rfl) (by simp) (AllReadyH.cons rfl (fun K hK => ?_) (AllReadyH.nil))
        refine step_append_any ((X.drew.alloc (.cells #[.string y.name, .string y.party] 88))) rfl (.const (.slice none 0 0)) (.tmp 70) 36 rfl X.heap.size 88 i0 z0 2 32 Tryz.underlying36 hinf hz0 hz1 hz2 hz3 (by decide) (.slice none 0 0) 0 [] (by rfl) (World.ownsRow_nil _ _ _ _) X.heap.size A j _ (cellsOf (P.take j)) (by rfl) (HP.out.below hb3) (cellsOf_one _ oneA8) (by unfold maxLen; omega) (by omega) hb3.size ?_
        intro v4 w4 ho4 hg4 hl4
        rw [Nat.zero_add, List.nil_append] at ho4
        have hb4 := hb3.grown hg4 hb3.size (fun q hq => by simp [Value.ownBlock] at hq)
        have hsz4 := hb4.size
        have hn4 := hn3.grown hg4 (by simp) (by simp [Value.ownBlock])
        clear hg4 hl4
        refine hK.out _ _ ((hb4.block c3 hc3X).trans h3X) (fun hHeld => ?_)
        clear hK K
        try simp only [Act.put, sA, sB, sC, sD, sE, sF]
        refine wpAnyH_ready (rs := [10]) (by kernel_rfl) (by simp) (AllReadyH.cons rfl (fun K hK => ?_) (AllReadyH.nil))
        refine step_append_any (w4) rfl (.tmp 71) (.tmp 73) 36 rfl X.heap.size 88 i0 z0 2 32 Tryz.underlying36 hinf hz0 hz1 hz2 hz3 (by decide) v4 j (cellsOf (P.take j)) (by rfl) ho4 (X.heap.size + 1) (some ⟨X.heap.size, 0, none⟩) 1 1 [.string y.name, .string y.party] (by rfl) hn4 (oneA8 y) (by unfold maxLen; omega) (by omega) hb4.size ?_
        intro v5 w5 ho5 hg5 hl5
        have hb5 := hb4.grown hg5 hb4.size (fun q hq => (ho4.lt q hq).1)
        have hsz5 := hb5.size
        clear hg5 hl5
        refine hK.out _ _ ((hb5.block c3 hc3X).trans h3X) (fun hHeld => ?_)
        clear hK K
        try simp only [Act.put, sA, sB, sC, sD, sE, sF]
        refine wpAnyH_ready (rs := [17]) (by kernel_rfl) (by simp) (AllReadyH.cons rfl (fun K hK => ?_) (AllReadyH.nil))
        refine step_append_any (w5) rfl (.tmp 74) (.tmp 80) 36 rfl X.heap.size 88 i0 z0 2 32 Tryz.underlying36 hinf hz0 hz1 hz2 hz3 (by decide) v5 (j + 1) (cellsOf (P.take j) ++ [.string y.name, .string y.party]) (by rfl) ho5 X.heap.size _ (n - j) _ (cellsOf (P.drop j)) (by rfl) (HD.out.below hb5) (cellsOf_one _ oneA8) (by unfold maxLen; omega) (by omega) hb5.size ?_
        intro v6 w6 ho6 hg6 hl6
        have hb6 := hb5.grown hg6 hb5.size (fun q hq => (ho5.lt q hq).1)
        have hsz6 := hb6.size
        obtain ⟨A9, c9, rfl, hc9⟩ := own_form ho6
        clear hg6 hl6
        refine hK.out _ _ ((hb6.block c3 hc3X).trans h3X) (fun hHeld => ?_)
        clear hK K
        try simp only [Act.put, sA, sB, sC, sD, sE, sF]
        refine tk (i := 18) (v := ?_) rfl (Or.inl ⟨by rfl, ?_⟩) ?_
        rotate_left
        ·intro X9 hSw; (try simp only [sD, sE, sF]); first | (go_simp; done) | (go_simp; with_reducible rfl)
        try simp only [Act.put, sA, sB, sC, sD, sE, sF]
        refine tk (i := 19) (v := ?_) rfl (Or.inl ⟨by rfl, ?_⟩) ?_
        rotate_left
        ·intro X9 hSw; (try simp only [sD, sE, sF]); first | (go_simp; done) | (go_simp; with_reducible rfl)
        try simp only [Act.put, sA, sB, sC, sD, sE, sF]
        refine wpAnyH_ready (rs := [20]) (by kernel_rfl) (by simp) (AllReadyH.cons rfl (fun K hK => ?_) (AllReadyH.nil))
        have cl7 := (hb6.cell (p := ⟨x, 2, none⟩) (show x < X.heap.size from hxX)).trans cX
        have fl7 : w6.frozen? ⟨x, 2, none⟩ = false := (HRK.out.below hb6).frozen 2
        try simp only [sD, sE, sF]
        go_simp
        refine hK.out _ _ ((Below.heap_setCell _ ⟨x, 2, none⟩ _ _ hx3).trans ((hb6.block c3 hc3X).trans h3X)) (fun hHeld => ?_)
        clear hK K
        try simp only [Act.put, sA, sB, sC, sD, sE, sF]
        refine wpAnyH_done (by kernel_rfl) ?_ _
        have HROW9 : w6.ownsRow X.heap.size 88 2 (.slice A9 (j + 1 + (n - j)) c9) (j + 1 + (n - j)) (cellsOf (insK P y)) := by
         rw [HIN.out, cellsOf_app, cellsOf_app]
         exact ho6
        have HEND := Lib.hid ((HRK.out.below hb6).putA (slat_of_own (α := Account) (l := insK P y) HROW9 HIL.out (fun x _ => csA8 x) (show x < X.heap.size from hxX)))
        have HMV9 := Lib.hid (HMX.out.trans ((mv_of_below (x := x) hb6).trans (mv_set x 2 (.slice A9 (j + 1 + (n - j)) c9) w6)))
        clear HROW9 ho6 cX h3X
        go_wp2
        all_goals
         go_ret
         exact ⟨by rw [HE0.out.1]; rfl, by rw [HE0.out.2]; exact HEND.out, HMV9.out⟩
     ·have hb1 := hb0.alloc hb0.size (.cells #[.string y.name, .string y.party] 88)
      try simp only [sD, sE, sF]
      go_simp
      refine hK.out _ _ ((hb1.block c3 hc3X).trans h3X) (fun hHeld => ?_)
      clear hK K
      try simp only [Act.put, sA, sB, sC, sD, sE, sF]
      have hsz1 := hb1.size
      have hn1 : Reads (X.drew.alloc (.cells #[.string y.name, .string y.party] 88)) (X.heap.size + 1) 2 (some ⟨X.heap.size, 0, none⟩) 1 [.string y.name, .string y.party] := reads_newN X.drew [.string y.name, .string y.party] 88 #[.string y.name, .string y.party] rfl (N := 2) rfl
      refine wpAnyH_ready (rs := [4, 14]) (by kernel_rfl) (by simp) (AllReadyH.cons rfl (fun K hK => ?_) (AllReadyH.cons rfl (fun K hK => ?_) (AllReadyH.nil)))
      ·have cl2 := (hb1.cell (p := ⟨x, 2, none⟩) (show x < X.heap.size from hxX)).trans cX
       try simp only [sD, sE, sF]
       go_simp
       refine hK.out _ _ ((hb1.block c3 hc3X).trans h3X) (fun hHeld => ?_)
       clear hK K
       try simp only [Act.put, sA, sB, sC, sD, sE, sF]
       refine tk (i := 6) (v := ?_) rfl (Or.inl ⟨by rfl, ?_⟩) ?_
       rotate_left
       ·intro X9 hSw; (try simp only [sD, sE, sF]); first | (go_simp; done) | (go_simp; with_reducible rfl)
       try simp only [Act.put, sA, sB, sC, sD, sE, sF]
       refine wpAnyH_ready (rs := [7, 14]) (by kernel_rfl) (by simp) (AllReadyH.cons rfl (fun K hK => ?_) (AllReadyH.cons rfl (fun K hK => ?_) (AllReadyH.nil)))
       ·refine step_append_any ((X.drew.alloc (.cells #[.string y.name, .string y.party] 88))) rfl (.const (.slice none 0 0)) (.tmp 70) 36 rfl X.heap.size 88 i0 z0 2 32 Tryz.underlying36 hinf hz0 hz1 hz2 hz3 (by decide) (.slice none 0 0) 0 [] (by rfl) (World.ownsRow_nil _ _ _ _) X.heap.size A j _ (cellsOf (P.take j)) (by rfl) (HP.out.below hb1) (cellsOf_one _ oneA8) (by unfold maxLen; omega) (by omega) hb1.size ?_
        intro v3 w3 ho3 hg3 hl3
        rw [Nat.zero_add, List.nil_append] at ho3
        have hb3 := hb1.grown hg3 hb1.size (fun q hq => by simp [Value.ownBlock] at hq)
        have hsz3 := hb3.size
        have hn3 := hn1.grown hg3 (by simp) (by simp [Value.ownBlock])
        clear hg3 hl3
        refine hK.out _ _ ((hb3.block c3 hc3X).trans h3X) (fun hHeld => ?_)
        clear hK K
        try simp only [Act.put, sA, sB, sC, sD, sE, sF]
        refine wpAnyH_ready (rs := [10, 14]) (by kernel_rfl) (by simp) (AllReadyH.cons rfl (fun K hK => ?_) (AllReadyH.cons rfl (fun K hK => ?_) (AllReadyH.nil)))
        ·refine step_append_any (w3) rfl (.tmp 71) (.tmp 73) 36 rfl X.heap.size 88 i0 z0 2 32 Tryz.underlying36 hinf hz0 hz1 hz2 hz3 (by decide) v3 j (cellsOf (P.take j)) (by rfl) ho3 (X.heap.size + 1) (some ⟨X.heap.size, 0, none⟩) 1 1 [.string y.name, .string y.party] (by rfl) hn3 (oneA8 y) (by unfold maxLen; omega) (by omega) hb3.size ?_
         intro v4 w4 ho4 hg4 hl4
         have hb4 := hb3.grown hg4 hb3.size (fun q hq => (ho3.lt q hq).1)
         have hsz4 := hb4.size
         clear hg4 hl4
         refine hK.out _ _ ((hb4.block c3 hc3X).trans h3X) (fun hHeld => ?_)
         clear hK K
         try simp only [Act.put, sA, sB, sC, sD, sE, sF]
         refine wpAnyH_ready (rs := [14]) (by kernel_rfl) (by simp) (AllReadyH.cons rfl (fun K hK => ?_) (AllReadyH.nil))
         have cl5 := (hb4.cell (p := ⟨x, 2, none⟩) (show x < X.heap.size from hxX)).trans cX
         try simp only [sD, sE, sF]
         go_simp
         refine hK.out _ _ ((hb4.block c3 hc3X).trans h3X) (fun hHeld => ?_)
         clear hK K
         try simp only [Act.put, sA, sB, sC, sD, sE, sF]
         refine tk (i := 16) (v := ?_) rfl (Or.inl ⟨by rfl, ?_⟩) ?_
         rotate_left
         ·intro X9 hSw; (try simp only [sD, sE, sF]); first | (go_simp; done) | (go_simp; with_reducible rfl)
         try simp only [Act.put, sA, sB, sC, sD, sE, sF]
         refine wpAnyH_ready (rs := [17]) (by kernel_rfl) (by simp) (AllReadyH.cons rfl (fun K hK => ?_) (AllReadyH.nil))
         refine step_append_any (w4) rfl (.tmp 74) (.tmp 80) 36 rfl X.heap.size 88 i0 z0 2 32 Tryz.underlying36 hinf hz0 hz1 hz2 hz3 (by decide) v4 (j + 1) (cellsOf (P.take j) ++ [.string y.name, .string y.party]) (by rfl) ho4 X.heap.size _ (n - j) _ (cellsOf (P.drop j)) (by rfl) (HD.out.below hb4) (cellsOf_one _ oneA8) (by unfold maxLen; omega) (by omega) hb4.size ?_
         intro v6 w6 ho6 hg6 hl6
         have hb6 := hb4.grown hg6 hb4.size (fun q hq => (ho4.lt q hq).1)
         have hsz6 := hb6.size
         obtain ⟨A9, c9, rfl, hc9⟩ := own_form ho6
         clear hg6 hl6
         refine hK.out _ _ ((hb6.block c3 hc3X).trans h3X) (fun hHeld => ?_)
         clear hK K
         try simp only [Act.put, sA, sB, sC, sD, sE, sF]
         refine tk (i := 18) (v := ?_) rfl (Or.inl ⟨by rfl, ?_⟩) ?_
         rotate_left
         ·intro X9 hSw; (try simp only [sD, sE, sF]); first | (go_simp; done) | (go_simp; with_reducible rfl)
         try simp only [Act.put, sA, sB, sC, sD, sE, sF]
         refine tk (i := 19) (v := ?_) rfl (Or.inl ⟨by rfl, ?_⟩) ?_
         rotate_left
         ·intro X9 hSw; (try simp only [sD, sE, sF]); first | (go_simp; done) | (go_simp; with_reducible rfl)
         try simp only [Act.put, sA, sB, sC, sD, sE, sF]
         refine wpAnyH_ready (rs := [20]) (by kernel_rfl) (by simp) (AllReadyH.cons rfl (fun K hK => ?_) (AllReadyH.nil))
         have cl7 := (hb6.cell (p := ⟨x, 2, none⟩) (show x < X.heap.size from hxX)).trans cX
         have fl7 : w6.frozen? ⟨x, 2, none⟩ = false := (HRK.out.below hb6).frozen 2
         try simp only [sD, sE, sF]
         go_simp
         refine hK.out _ _ ((Below.heap_setCell _ ⟨x, 2, none⟩ _ _ hx3).trans ((hb6.block c3 hc3X).trans h3X)) (fun hHeld => ?_)
         clear hK K
         try simp only [Act.put, sA, sB, sC, sD, sE, sF]
         refine wpAnyH_done (by kernel_rfl) ?_ _
         have HROW9 : w6.ownsRow X.heap.size 88 2 (.slice A9 (j + 1 + (n - j)) c9) (j + 1 + (n - j)) (cellsOf (insK P y)) := by
          rw [HIN.out, cellsOf_app, cellsOf_app]
          exact ho6
         have HEND := Lib.hid ((HRK.out.below hb6).putA (slat_of_own (α := Account) (l := insK P y) HROW9 HIL.out (fun x _ => csA8 x) (show x < X.heap.size from hxX)))
         have HMV9 := Lib.hid (HMX.out.trans ((mv_of_below (x := x) hb6).trans (mv_set x 2 (.slice A9 (j + 1 + (n - j)) c9) w6)))
         clear HROW9 ho6 cX h3X
         go_wp2
         all_goals
          go_ret
          exact ⟨by rw [HE0.out.1]; rfl, by rw [HE0.out.2]; exact HEND.out, HMV9.out⟩
        ·have cl4 := (hb3.cell (p := ⟨x, 2, none⟩) (show x < X.heap.size from hxX)).trans cX
         try simp only [sD, sE, sF]
         go_simp
         refine hK.out _ _ ((hb3.block c3 hc3X).trans h3X) (fun hHeld => ?_)
         clear hK K
         try simp only [Act.put, sA, sB, sC, sD, sE, sF]
         refine tk (i := 16) (v := ?_) rfl (Or.inl ⟨by rfl, ?_⟩) ?_
         rotate_left
         ·intro X9 hSw; (try simp only [sD, sE, sF]); first | (go_simp; done) | (go_simp; with_reducible rfl)
         try simp only [Act.put, sA, sB, sC, sD, sE, sF]
         refine wpAnyH_ready (rs := [10]) (by kernel_rfl) (by simp) (AllReadyH.cons rfl (fun K hK => ?_) (AllReadyH.nil))
         refine step_append_any (w3) rfl (.tmp 71) (.tmp 73) 36 rfl X.heap.size 88 i0 z0 2 32 Tryz.underlying36 hinf hz0 hz1 hz2 hz3 (by decide) v3 j (cellsOf (P.take j)) (by rfl) ho3 (X.heap.size + 1) (some ⟨X.heap.size, 0, none⟩) 1 1 [.string y.name, .string y.party] (by rfl) hn3 (oneA8 y) (by unfold maxLen; omega) (by omega) hb3.size ?_
         intro v5 w5 ho5 hg5 hl5
         have hb5 := hb3.grown hg5 hb3.size (fun q hq => (ho3.lt q hq).1)
         have hsz5 := hb5.size
         clear hg5 hl5
         refine hK.out _ _ ((hb5.block c3 hc3X).trans h3X) (fun hHeld => ?_)
         clear hK K
         try simp only [Act.put, sA, sB, sC, sD, sE, sF]
         refine wpAnyH_ready (rs := [17]) (by kernel_rfl) (by simp) (AllReadyH.cons rfl (fun K hK => ?_) (AllReadyH.nil))
         refine step_append_any (w5) rfl (.tmp 74) (.tmp 80) 36 rfl X.heap.size 88 i0 z0 2 32 Tryz.underlying36 hinf hz0 hz1 hz2 hz3 (by decide) v5 (j + 1) (cellsOf (P.take j) ++ [.string y.name, .string y.party]) (by rfl) ho5 X.heap.size _ (n - j) _ (cellsOf (P.drop j)) (by rfl) (HD.out.below hb5) (cellsOf_one _ oneA8) (by unfold maxLen; omega) (by omega) hb5.size ?_
         intro v6 w6 ho6 hg6 hl6
         have hb6 := hb5.grown hg6 hb5.size (fun q hq => (ho5.lt q hq).1)
         have hsz6 := hb6.size
         obtain ⟨A9, c9, rfl, hc9⟩ := own_form ho6
         clear hg6 hl6
         refine hK.out _ _ ((hb6.block c3 hc3X).trans h3X) (fun hHeld => ?_)
         clear hK K
         try simp only [Act.put, sA, sB, sC, sD, sE, sF]
         refine tk (i := 18) (v := ?_) rfl (Or.inl ⟨by rfl, ?_⟩) ?_
         rotate_left
         ·intro X9 hSw; (try simp only [sD, sE, sF]); first | (go_simp; done) | (go_simp; with_reducible rfl)
         try simp only [Act.put, sA, sB, sC, sD, sE, sF]
         refine tk (i := 19) (v := ?_) rfl (Or.inl ⟨by rfl, ?_⟩) ?_
         rotate_left
         ·intro X9 hSw; (try simp only [sD, sE, sF]); first | (go_simp; done) | (go_simp; with_reducible rfl)
         try simp only [Act.put, sA, sB, sC, sD, sE, sF]
         refine wpAnyH_ready (rs := [20]) (by kernel_rfl) (by simp) (AllReadyH.cons rfl (fun K hK => ?_) (AllReadyH.nil))
         have cl7 := (hb6.cell (p := ⟨x, 2, none⟩) (show x < X.heap.size from hxX)).trans cX
         have fl7 : w6.frozen? ⟨x, 2, none⟩ = false := (HRK.out.below hb6).frozen 2
         try simp only [sD, sE, sF]
         go_simp
         refine hK.out _ _ ((Below.heap_setCell _ ⟨x, 2, none⟩ _ _ hx3).trans ((hb6.block c3 hc3X).trans h3X)) (fun hHeld => ?_)
         clear hK K
         try simp only [Act.put, sA, sB, sC, sD, sE, sF]
         refine wpAnyH_done (by kernel_rfl) ?_ _
         have HROW9 : w6.ownsRow X.heap.size 88 2 (.slice A9 (j + 1 + (n - j)) c9) (j + 1 + (n - j)) (cellsOf (insK P y)) := by
          rw [HIN.out, cellsOf_app, cellsOf_app]
          exact ho6
         have HEND := Lib.hid ((HRK.out.below hb6).putA (slat_of_own (α := Account) (l := insK P y) HROW9 HIL.out (fun x _ => csA8 x) (show x < X.heap.size from hxX)))
         have HMV9 := Lib.hid (HMX.out.trans ((mv_of_below (x := x) hb6).trans (mv_set x 2 (.slice A9 (j + 1 + (n - j)) c9) w6)))
         clear HROW9 ho6 cX h3X
         go_wp2
         all_goals
          go_ret
          exact ⟨by rw [HE0.out.1]; rfl, by rw [HE0.out.2]; exact HEND.out, HMV9.out⟩
       ·have cl3 := (hb1.cell (p := ⟨x, 2, none⟩) (show x < X.heap.size from hxX)).trans cX
        try simp only [sD, sE, sF]
        go_simp
        refine hK.out _ _ ((hb1.block c3 hc3X).trans h3X) (fun hHeld => ?_)
        clear hK K
        try simp only [Act.put, sA, sB, sC, sD, sE, sF]
        refine tk (i := 16) (v := ?_) rfl (Or.inl ⟨by rfl, ?_⟩) ?_
        rotate_left
        ·intro X9 hSw; (try simp only [sD, sE, sF]); first | (go_simp; done) | (go_simp; with_reducible rfl)
        try simp only [Act.put, sA, sB, sC, sD, sE, sF]
        refine wpAnyH_ready (rs := [7]) (by kernel_rfl) (by simp) (AllReadyH.cons rfl (fun K hK => ?_) (AllReadyH.nil))
        refine step_append_any ((X.drew.alloc (.cells #[.string y.name, .string y.party] 88))) rfl (.const (.slice none 0 0)) (.tmp 70) 36 rfl X.heap.size 88 i0 z0 2 32 Tryz.underlying36 hinf hz0 hz1 hz2 hz3 (by decide) (.slice none 0 0) 0 [] (by rfl) (World.ownsRow_nil _ _ _ _) X.heap.size A j _ (cellsOf (P.take j)) (by rfl) (HP.out.below hb1) (cellsOf_one _ oneA8) (by unfold maxLen; omega) (by omega) hb1.size ?_
        intro v4 w4 ho4 hg4 hl4
        rw [Nat.zero_add, List.nil_append] at ho4
        have hb4 := hb1.grown hg4 hb1.size (fun q hq => by simp [Value.ownBlock] at hq)
        have hsz4 := hb4.size
        have hn4 := hn1.grown hg4 (by simp) (by simp [Value.ownBlock])
        clear hg4 hl4
        refine hK.out _ _ ((hb4.block c3 hc3X).trans h3X) (fun hHeld => ?_)
        clear hK K
        try simp only [Act.put, sA, sB, sC, sD, sE, sF]
        refine wpAnyH_ready (rs := [10]) (by kernel_rfl) (by simp) (AllReadyH.cons rfl (fun K hK => ?_) (AllReadyH.nil))
        refine step_append_any (w4) rfl (.tmp 71) (.tmp 73) 36 rfl X.heap.size 88 i0 z0 2 32 Tryz.underlying36 hinf hz0 hz1 hz2 hz3 (by decide) v4 j (cellsOf (P.take j)) (by rfl) ho4 (X.heap.size + 1) (some ⟨X.heap.size, 0, none⟩) 1 1 [.string y.name, .string y.party] (by rfl) hn4 (oneA8 y) (by unfold maxLen; omega) (by omega) hb4.size ?_
        intro v5 w5 ho5 hg5 hl5
        have hb5 := hb4.grown hg5 hb4.size (fun q hq => (ho4.lt q hq).1)
        have hsz5 := hb5.size
        clear hg5 hl5
        refine hK.out _ _ ((hb5.block c3 hc3X).trans h3X) (fun hHeld => ?_)
        clear hK K
        try simp only [Act.put, sA, sB, sC, sD, sE, sF]
        refine wpAnyH_ready (rs := [17]) (by kernel_rfl) (by simp) (AllReadyH.cons rfl (fun K hK => ?_) (AllReadyH.nil))
        refine step_append_any (w5) rfl (.tmp 74) (.tmp 80) 36 rfl X.heap.size 88 i0 z0 2 32 Tryz.underlying36 hinf hz0 hz1 hz2 hz3 (by decide) v5 (j + 1) (cellsOf (P.take j) ++ [.string y.name, .string y.party]) (by rfl) ho5 X.heap.size _ (n - j) _ (cellsOf (P.drop j)) (by rfl) (HD.out.below hb5) (cellsOf_one _ oneA8) (by unfold maxLen; omega) (by omega) hb5.size ?_
        intro v6 w6 ho6 hg6 hl6
        have hb6 := hb5.grown hg6 hb5.size (fun q hq => (ho5.lt q hq).1)
        have hsz6 := hb6.size
        obtain ⟨A9, c9, rfl, hc9⟩ := own_form ho6
        clear hg6 hl6
        refine hK.out _ _ ((hb6.block c3 hc3X).trans h3X) (fun hHeld => ?_)
        clear hK K
        try simp only [Act.put, sA, sB, sC, sD, sE, sF]
        refine tk (i := 18) (v := ?_) rfl (Or.inl ⟨by rfl, ?_⟩) ?_
        rotate_left
        ·intro X9 hSw; (try simp only [sD, sE, sF]); first | (go_simp; done) | (go_simp; with_reducible rfl)
        try simp only [Act.put, sA, sB, sC, sD, sE, sF]
        refine tk (i := 19) (v := ?_) rfl (Or.inl ⟨by rfl, ?_⟩) ?_
        rotate_left
        ·intro X9 hSw; (try simp only [sD, sE, sF]); first | (go_simp; done) | (go_simp; with_reducible rfl)
        try simp only [Act.put, sA, sB, sC, sD, sE, sF]
        refine wpAnyH_ready (rs := [20]) (by kernel_rfl) (by simp) (AllReadyH.cons rfl (fun K hK => ?_) (AllReadyH.nil))
        have cl7 := (hb6.cell (p := ⟨x, 2, none⟩) (show x < X.heap.size from hxX)).trans cX
        have fl7 : w6.frozen? ⟨x, 2, none⟩ = false := (HRK.out.below hb6).frozen 2
        try simp only [sD, sE, sF]
        go_simp
        refine hK.out _ _ ((Below.heap_setCell _ ⟨x, 2, none⟩ _ _ hx3).trans ((hb6.block c3 hc3X).trans h3X)) (fun hHeld => ?_)
        clear hK K
        try simp only [Act.put, sA, sB, sC, sD, sE, sF]
        refine wpAnyH_done (by kernel_rfl) ?_ _
        have HROW9 : w6.ownsRow X.heap.size 88 2 (.slice A9 (j + 1 + (n - j)) c9) (j + 1 + (n - j)) (cellsOf (insK P y)) := by
         rw [HIN.out, cellsOf_app, cellsOf_app]
         exact ho6
        have HEND := Lib.hid ((HRK.out.below hb6).putA (slat_of_own (α := Account) (l := insK P y) HROW9 HIL.out (fun x _ => csA8 x) (show x < X.heap.size from hxX)))
        have HMV9 := Lib.hid (HMX.out.trans ((mv_of_below (x := x) hb6).trans (mv_set x 2 (.slice A9 (j + 1 + (n - j)) c9) w6)))
        clear HROW9 ho6 cX h3X
        go_wp2
        all_goals
         go_ret
         exact ⟨by rw [HE0.out.1]; rfl, by rw [HE0.out.2]; exact HEND.out, HMV9.out⟩
      ·have cl2 := (hb1.cell (p := ⟨x, 2, none⟩) (show x < X.heap.size from hxX)).trans cX
       try simp only [sD, sE, sF]
       go_simp
       refine hK.out _ _ ((hb1.block c3 hc3X).trans h3X) (fun hHeld => ?_)
       clear hK K
       try simp only [Act.put, sA, sB, sC, sD, sE, sF]
       refine tk (i := 16) (v := ?_) rfl (Or.inl ⟨by rfl, ?_⟩) ?_
       rotate_left
       ·intro X9 hSw; (try simp only [sD, sE, sF]); first | (go_simp; done) | (go_simp; with_reducible rfl)
       try simp only [Act.put, sA, sB, sC, sD, sE, sF]
       refine wpAnyH_ready (rs := [4]) (by kernel_rfl) (by simp) (AllReadyH.cons rfl (fun K hK => ?_) (AllReadyH.nil))
       have cl3 := (hb1.cell (p := ⟨x, 2, none⟩) (show x < X.heap.size from hxX)).trans cX
       try simp only [sD, sE, sF]
       go_simp
       refine hK.out _ _ ((hb1.block c3 hc3X).trans h3X) (fun hHeld => ?_)
       clear hK K
       try simp only [Act.put, sA, sB, sC, sD, sE, sF]
       refine tk (i := 6) (v := ?_) rfl (Or.inl ⟨by rfl, ?_⟩) ?_
       rotate_left
       ·intro X9 hSw; (try simp only [sD, sE, sF]); first | (go_simp; done) | (go_simp; with_reducible rfl)
       try simp only [Act.put, sA, sB, sC, sD, sE, sF]
       refine wpAnyH_ready (rs := [7]) (by kernel_rfl) (by simp) (AllReadyH.cons rfl (fun K hK => ?_) (AllReadyH.nil))
       refine step_append_any ((X.drew.alloc (.cells #[.string y.name, .string y.party] 88))) rfl (.const (.slice none 0 0)) (.tmp 70) 36 rfl X.heap.size 88 i0 z0 2 32 Tryz.underlying36 hinf hz0 hz1 hz2 hz3 (by decide) (.slice none 0 0) 0 [] (by rfl) (World.ownsRow_nil _ _ _ _) X.heap.size A j _ (cellsOf (P.take j)) (by rfl) (HP.out.below hb1) (cellsOf_one _ oneA8) (by unfold maxLen; omega) (by omega) hb1.size ?_
       intro v4 w4 ho4 hg4 hl4
       rw [Nat.zero_add, List.nil_append] at ho4
       have hb4 := hb1.grown hg4 hb1.size (fun q hq => by simp [Value.ownBlock] at hq)
       have hsz4 := hb4.size
       have hn4 := hn1.grown hg4 (by simp) (by simp [Value.ownBlock])
       clear hg4 hl4
       refine hK.out _ _ ((hb4.block c3 hc3X).trans h3X) (fun hHeld => ?_)
       clear hK K
       try simp only [Act.put, sA, sB, sC, sD, sE, sF]
       refine wpAnyH_ready (rs := [10]) (by kernel_rfl) (by simp) (AllReadyH.cons rfl (fun K hK => ?_) (AllReadyH.nil))
       refine step_append_any (w4) rfl (.tmp 71) (.tmp 73) 36 rfl X.heap.size 88 i0 z0 2 32 Tryz.underlying36 hinf hz0 hz1 hz2 hz3 (by decide) v4 j (cellsOf (P.take j)) (by rfl) ho4 (X.heap.size + 1) (some ⟨X.heap.size, 0, none⟩) 1 1 [.string y.name, .string y.party] (by rfl) hn4 (oneA8 y) (by unfold maxLen; omega) (by omega) hb4.size ?_
       intro v5 w5 ho5 hg5 hl5
       have hb5 := hb4.grown hg5 hb4.size (fun q hq => (ho4.lt q hq).1)
       have hsz5 := hb5.size
       clear hg5 hl5
       refine hK.out _ _ ((hb5.block c3 hc3X).trans h3X) (fun hHeld => ?_)
       clear hK K
       try simp only [Act.put, sA, sB, sC, sD, sE, sF]
       refine wpAnyH_ready (rs := [17]) (by kernel_rfl) (by simp) (AllReadyH.cons rfl (fun K hK => ?_) (AllReadyH.nil))
       refine step_append_any (w5) rfl (.tmp 74) (.tmp 80) 36 rfl X.heap.size 88 i0 z0 2 32 Tryz.underlying36 hinf hz0 hz1 hz2 hz3 (by decide) v5 (j + 1) (cellsOf (P.take j) ++ [.string y.name, .string y.party]) (by rfl) ho5 X.heap.size _ (n - j) _ (cellsOf (P.drop j)) (by rfl) (HD.out.below hb5) (cellsOf_one _ oneA8) (by unfold maxLen; omega) (by omega) hb5.size ?_
       intro v6 w6 ho6 hg6 hl6
       have hb6 := hb5.grown hg6 hb5.size (fun q hq => (ho5.lt q hq).1)
       have hsz6 := hb6.size
       obtain ⟨A9, c9, rfl, hc9⟩ := own_form ho6
       clear hg6 hl6
       refine hK.out _ _ ((hb6.block c3 hc3X).trans h3X) (fun hHeld => ?_)
       clear hK K
       try simp only [Act.put, sA, sB, sC, sD, sE, sF]
       refine tk (i := 18) (v := ?_) rfl (Or.inl ⟨by rfl, ?_⟩) ?_
       rotate_left
       ·intro X9 hSw; (try simp only [sD, sE, sF]); first | (go_simp; done) | (go_simp; with_reducible rfl)
       try simp only [Act.put, sA, sB, sC, sD, sE, sF]
       refine tk (i := 19) (v := ?_) rfl (Or.inl ⟨by rfl, ?_⟩) ?_
       rotate_left
       ·intro X9 hSw; (try simp only [sD, sE, sF]); first | (go_simp; done) | (go_simp; with_reducible rfl)
       try simp only [Act.put, sA, sB, sC, sD, sE, sF]
       refine wpAnyH_ready (rs := [20]) (by kernel_rfl) (by simp) (AllReadyH.cons rfl (fun K hK => ?_) (AllReadyH.nil))
       have cl7 := (hb6.cell (p := ⟨x, 2, none⟩) (show x < X.heap.size from hxX)).trans cX
       have fl7 : w6.frozen? ⟨x, 2, none⟩ = false := (HRK.out.below hb6).frozen 2
       try simp only [sD, sE, sF]
       go_simp
       refine hK.out _ _ ((Below.heap_setCell _ ⟨x, 2, none⟩ _ _ hx3).trans ((hb6.block c3 hc3X).trans h3X)) (fun hHeld => ?_)
       clear hK K
       try simp only [Act.put, sA, sB, sC, sD, sE, sF]
       refine wpAnyH_done (by kernel_rfl) ?_ _
       have HROW9 : w6.ownsRow X.heap.size 88 2 (.slice A9 (j + 1 + (n - j)) c9) (j + 1 + (n - j)) (cellsOf (insK P y)) := by
        rw [HIN.out, cellsOf_app, cellsOf_app]
        exact ho6
       have HEND := Lib.hid ((HRK.out.below hb6).putA (slat_of_own (α := Account) (l := insK P y) HROW9 HIL.out (fun x _ => csA8 x) (show x < X.heap.size from hxX)))
       have HMV9 := Lib.hid (HMX.out.trans ((mv_of_below (x := x) hb6).trans (mv_set x 2 (.slice A9 (j + 1 + (n - j)) c9) w6)))
       clear HROW9 ho6 cX h3X
       go_wp2
       all_goals
        go_ret
        exact ⟨by rw [HE0.out.1]; rfl, by rw [HE0.out.2]; exact HEND.out, HMV9.out⟩
     ·have cl1 := (hb0.cell (p := ⟨x, 2, none⟩) (show x < X.heap.size from hxX)).trans cX
      try simp only [sD, sE, sF]
      go_simp
      refine hK.out _ _ ((hb0.block c3 hc3X).trans h3X) (fun hHeld => ?_)
      clear hK K
      try simp only [Act.put, sA, sB, sC, sD, sE, sF]
      refine tk (i := 16) (v := ?_) rfl (Or.inl ⟨by rfl, ?_⟩) ?_
      rotate_left
      ·intro X9 hSw; (try simp only [sD, sE, sF]); first | (go_simp; done) | (go_simp; with_reducible rfl)
      try simp only [Act.put, sA, sB, sC, sD, sE, sF]
      refine wpAnyH_ready (rs := [4, 9]) (by kernel_rfl) (by simp) (AllReadyH.cons rfl (fun K hK => ?_) (AllReadyH.cons rfl (fun K hK => ?_) (AllReadyH.nil)))
      ·have cl2 := (hb0.cell (p := ⟨x, 2, none⟩) (show x < X.heap.size from hxX)).trans cX
       try simp only [sD, sE, sF]
       go_simp
       refine hK.out _ _ ((hb0.block c3 hc3X).trans h3X) (fun hHeld => ?_)
       clear hK K
       try simp only [Act.put, sA, sB, sC, sD, sE, sF]
       refine tk (i := 6) (v := ?_) rfl (Or.inl ⟨by rfl, ?_⟩) ?_
       rotate_left
       ·intro X9 hSw; (try simp only [sD, sE, sF]); first | (go_simp; done) | (go_simp; with_reducible rfl)
       try simp only [Act.put, sA, sB, sC, sD, sE, sF]
       refine wpAnyH_ready (rs := [7, 9]) (by kernel_rfl) (by simp) (AllReadyH.cons rfl (fun K hK => ?_) (AllReadyH.cons rfl (fun K hK => ?_) (AllReadyH.nil)))
       ·refine step_append_any (X.drew) rfl (.const (.slice none 0 0)) (.tmp 70) 36 rfl X.heap.size 88 i0 z0 2 32 Tryz.underlying36 hinf hz0 hz1 hz2 hz3 (by decide) (.slice none 0 0) 0 [] (by rfl) (World.ownsRow_nil _ _ _ _) X.heap.size A j _ (cellsOf (P.take j)) (by rfl) (HP.out.below hb0) (cellsOf_one _ oneA8) (by unfold maxLen; omega) (by omega) hb0.size ?_
        intro v3 w3 ho3 hg3 hl3
        rw [Nat.zero_add, List.nil_append] at ho3
        have hb3 := hb0.grown hg3 hb0.size (fun q hq => by simp [Value.ownBlock] at hq)
        have hsz3 := hb3.size
        clear hg3 hl3
        refine hK.out _ _ ((hb3.block c3 hc3X).trans h3X) (fun hHeld => ?_)
        clear hK K
        try simp only [Act.put, sA, sB, sC, sD, sE, sF]
        refine wpAnyH_ready (rs := [9]) (by kernel_rfl) (by simp) (AllReadyH.cons rfl (fun K hK => ?_) (AllReadyH.nil))
        have hb4 := hb3.alloc hb3.size (.cells #[.string y.name, .string y.party] 88)
        try simp only [sD, sE, sF]
        go_simp
        refine hK.out _ _ ((hb4.block c3 hc3X).trans h3X) (fun hHeld => ?_)
        clear hK K
        try simp only [Act.put, sA, sB, sC, sD, sE, sF]
        have hsz4 := hb4.size
        have hn4 : Reads (w3.alloc (.cells #[.string y.name, .string y.party] 88)) (w3.heap.size + 1) 2 (some ⟨w3.heap.size, 0, none⟩) 1 [.string y.name, .string y.party] := reads_newN w3 [.string y.name, .string y.party] 88 #[.string y.name, .string y.party] rfl (N := 2) rfl
        have ho4 := ho3.alloc (.cells #[.string y.name, .string y.party] 88)
        refine wpAnyH_ready (rs := [10]) (by kernel_rfl) (by simp) (AllReadyH.cons rfl (fun K hK => ?_) (AllReadyH.nil))
        refine step_append_any ((w3.alloc (.cells #[.string y.name, .string y.party] 88))) rfl (.tmp 71) (.tmp 73) 36 rfl X.heap.size 88 i0 z0 2 32 Tryz.underlying36 hinf hz0 hz1 hz2 hz3 (by decide) v3 j (cellsOf (P.take j)) (by rfl) ho4 (w3.heap.size + 1) (some ⟨w3.heap.size, 0, none⟩) 1 1 [.string y.name, .string y.party] (by rfl) hn4 (oneA8 y) (by unfold maxLen; omega) (by omega) hb4.size ?_
        intro v5 w5 ho5 hg5 hl5
        have hb5 := hb4.grown hg5 hb4.size (fun q hq => (ho4.lt q hq).1)
        have hsz5 := hb5.size
        clear hg5 hl5
        refine hK.out _ _ ((hb5.block c3 hc3X).trans h3X) (fun hHeld => ?_)
        clear hK K
        try simp only [Act.put, sA, sB, sC, sD, sE, sF]
        refine wpAnyH_ready (rs := [17]) (by kernel_rfl) (by simp) (AllReadyH.cons rfl (fun K hK => ?_) (AllReadyH.nil))
        refine step_append_any (w5) rfl (.tmp 74) (.tmp 80) 36 rfl X.heap.size 88 i0 z0 2 32 Tryz.underlying36 hinf hz0 hz1 hz2 hz3 (by decide) v5 (j + 1) (cellsOf (P.take j) ++ [.string y.name, .string y.party]) (by rfl) ho5 X.heap.size _ (n - j) _ (cellsOf (P.drop j)) (by rfl) (HD.out.below hb5) (cellsOf_one _ oneA8) (by unfold maxLen; omega) (by omega) hb5.size ?_
        intro v6 w6 ho6 hg6 hl6
        have hb6 := hb5.grown hg6 hb5.size (fun q hq => (ho5.lt q hq).1)
        have hsz6 := hb6.size
        obtain ⟨A9, c9, rfl, hc9⟩ := own_form ho6
        clear hg6 hl6
        refine hK.out _ _ ((hb6.block c3 hc3X).trans h3X) (fun hHeld => ?_)
        clear hK K
        try simp only [Act.put, sA, sB, sC, sD, sE, sF]
        refine tk (i := 18) (v := ?_) rfl (Or.inl ⟨by rfl, ?_⟩) ?_
        rotate_left
        ·intro X9 hSw; (try simp only [sD, sE, sF]); first | (go_simp; done) | (go_simp; with_reducible rfl)
        try simp only [Act.put, sA, sB, sC, sD, sE, sF]
        refine tk (i := 19) (v := ?_) rfl (Or.inl ⟨by rfl, ?_⟩) ?_
        rotate_left
        ·intro X9 hSw; (try simp only [sD, sE, sF]); first | (go_simp; done) | (go_simp; with_reducible rfl)
        try simp only [Act.put, sA, sB, sC, sD, sE, sF]
        refine wpAnyH_ready (rs := [20]) (by kernel_rfl) (by simp) (AllReadyH.cons rfl (fun K hK => ?_) (AllReadyH.nil))
        have cl7 := (hb6.cell (p := ⟨x, 2, none⟩) (show x < X.heap.size from hxX)).trans cX
        have fl7 : w6.frozen? ⟨x, 2, none⟩ = false := (HRK.out.below hb6).frozen 2
        try simp only [sD, sE, sF]
        go_simp
        refine hK.out _ _ ((Below.heap_setCell _ ⟨x, 2, none⟩ _ _ hx3).trans ((hb6.block c3 hc3X).trans h3X)) (fun hHeld => ?_)
        clear hK K
        try simp only [Act.put, sA, sB, sC, sD, sE, sF]
        refine wpAnyH_done (by kernel_rfl) ?_ _
        have HROW9 : w6.ownsRow X.heap.size 88 2 (.slice A9 (j + 1 + (n - j)) c9) (j + 1 + (n - j)) (cellsOf (insK P y)) := by
         rw [HIN.out, cellsOf_app, cellsOf_app]
         exact ho6
        have HEND := Lib.hid ((HRK.out.below hb6).putA (slat_of_own (α := Account) (l := insK P y) HROW9 HIL.out (fun x _ => csA8 x) (show x < X.heap.size from hxX)))
        have HMV9 := Lib.hid (HMX.out.trans ((mv_of_below (x := x) hb6).trans (mv_set x 2 (.slice A9 (j + 1 + (n - j)) c9) w6)))
        clear HROW9 ho6 cX h3X
        go_wp2
        all_goals
         go_ret
         exact ⟨by rw [HE0.out.1]; rfl, by rw [HE0.out.2]; exact HEND.out, HMV9.out⟩
       ·have hb3 := hb0.alloc hb0.size (.cells #[.string y.name, .string y.party] 88)
        try simp only [sD, sE, sF]
        go_simp
        refine hK.out _ _ ((hb3.block c3 hc3X).trans h3X) (fun hHeld => ?_)
        clear hK K
        try simp only [Act.put, sA, sB, sC, sD, sE, sF]
        have hsz3 := hb3.size
        have hn3 : Reads (X.drew.alloc (.cells #[.string y.name, .string y.party] 88)) (X.heap.size + 1) 2 (some ⟨X.heap.size, 0, none⟩) 1 [.string y.name, .string y.party] := reads_newN X.drew [.string y.name, .string y.party] 88 #[.string y.name, .string y.party] rfl (N := 2) rfl
        refine wpAnyH_ready (rs := [7]) (by kernel_rfl) (by simp) (AllReadyH.cons rfl (fun K hK => ?_) (AllReadyH.nil))
        refine step_append_any ((X.drew.alloc (.cells #[.string y.name, .string y.party] 88))) rfl (.const (.slice none 0 0)) (.tmp 70) 36 rfl X.heap.size 88 i0 z0 2 32 Tryz.underlying36 hinf hz0 hz1 hz2 hz3 (by decide) (.slice none 0 0) 0 [] (by rfl) (World.ownsRow_nil _ _ _ _) X.heap.size A j _ (cellsOf (P.take j)) (by rfl) (HP.out.below hb3) (cellsOf_one _ oneA8) (by unfold maxLen; omega) (by omega) hb3.size ?_
        intro v4 w4 ho4 hg4 hl4
        rw [Nat.zero_add, List.nil_append] at ho4
        have hb4 := hb3.grown hg4 hb3.size (fun q hq => by simp [Value.ownBlock] at hq)
        have hsz4 := hb4.size
        have hn4 := hn3.grown hg4 (by simp) (by simp [Value.ownBlock])
        clear hg4 hl4
        refine hK.out _ _ ((hb4.block c3 hc3X).trans h3X) (fun hHeld => ?_)
        clear hK K
        try simp only [Act.put, sA, sB, sC, sD, sE, sF]
        refine wpAnyH_ready (rs := [10]) (by kernel_rfl) (by simp) (AllReadyH.cons rfl (fun K hK => ?_) (AllReadyH.nil))
        refine step_append_any (w4) rfl (.tmp 71) (.tmp 73) 36 rfl X.heap.size 88 i0 z0 2 32 Tryz.underlying36 hinf hz0 hz1 hz2 hz3 (by decide) v4 j (cellsOf (P.take j)) (by rfl) ho4 (X.heap.size + 1) (some ⟨X.heap.size, 0, none⟩) 1 1 [.string y.name, .string y.party] (by rfl) hn4 (oneA8 y) (by unfold maxLen; omega) (by omega) hb4.size ?_
        intro v5 w5 ho5 hg5 hl5
        have hb5 := hb4.grown hg5 hb4.size (fun q hq => (ho4.lt q hq).1)
        have hsz5 := hb5.size
        clear hg5 hl5
        refine hK.out _ _ ((hb5.block c3 hc3X).trans h3X) (fun hHeld => ?_)
        clear hK K
        try simp only [Act.put, sA, sB, sC, sD, sE, sF]
        refine wpAnyH_ready (rs := [17]) (by kernel_rfl) (by simp) (AllReadyH.cons rfl (fun K hK => ?_) (AllReadyH.nil))
        refine step_append_any (w5) rfl (.tmp 74) (.tmp 80) 36 rfl X.heap.size 88 i0 z0 2 32 Tryz.underlying36 hinf hz0 hz1 hz2 hz3 (by decide) v5 (j + 1) (cellsOf (P.take j) ++ [.string y.name, .string y.party]) (by rfl) ho5 X.heap.size _ (n - j) _ (cellsOf (P.drop j)) (by rfl) (HD.out.below hb5) (cellsOf_one _ oneA8) (by unfold maxLen; omega) (by omega) hb5.size ?_
        intro v6 w6 ho6 hg6 hl6
        have hb6 := hb5.grown hg6 hb5.size (fun q hq => (ho5.lt q hq).1)
        have hsz6 := hb6.size
        obtain ⟨A9, c9, rfl, hc9⟩ := own_form ho6
        clear hg6 hl6
        refine hK.out _ _ ((hb6.block c3 hc3X).trans h3X) (fun hHeld => ?_)
        clear hK K
        try simp only [Act.put, sA, sB, sC, sD, sE, sF]
        refine tk (i := 18) (v := ?_) rfl (Or.inl ⟨by rfl, ?_⟩) ?_
        rotate_left
        ·intro X9 hSw; (try simp only [sD, sE, sF]); first | (go_simp; done) | (go_simp; with_reducible rfl)
        try simp only [Act.put, sA, sB, sC, sD, sE, sF]
        refine tk (i := 19) (v := ?_) rfl (Or.inl ⟨by rfl, ?_⟩) ?_
        rotate_left
        ·intro X9 hSw; (try simp only [sD, sE, sF]); first | (go_simp; done) | (go_simp; with_reducible rfl)
        try simp only [Act.put, sA, sB, sC, sD, sE, sF]
        refine wpAnyH_ready (rs := [20]) (by kernel_rfl) (by simp) (AllReadyH.cons rfl (fun K hK => ?_) (AllReadyH.nil))
        have cl7 := (hb6.cell (p := ⟨x, 2, none⟩) (show x < X.heap.size from hxX)).trans cX
        have fl7 : w6.frozen? ⟨x, 2, none⟩ = false := (HRK.out.below hb6).frozen 2
        try simp only [sD, sE, sF]
        go_simp
        refine hK.out _ _ ((Below.heap_setCell _ ⟨x, 2, none⟩ _ _ hx3).trans ((hb6.block c3 hc3X).trans h3X)) (fun hHeld => ?_)
        clear hK K
        try simp only [Act.put, sA, sB, sC, sD, sE, sF]
        refine wpAnyH_done (by kernel_rfl) ?_ _
        have HROW9 : w6.ownsRow X.heap.size 88 2 (.slice A9 (j + 1 + (n - j)) c9) (j + 1 + (n - j)) (cellsOf (insK P y)) := by
         rw [HIN.out, cellsOf_app, cellsOf_app]
         exact ho6
        have HEND := Lib.hid ((HRK.out.below hb6).putA (slat_of_own (α := Account) (l := insK P y) HROW9 HIL.out (fun x _ => csA8 x) (show x < X.heap.size from hxX)))
        have HMV9 := Lib.hid (HMX.out.trans ((mv_of_below (x := x) hb6).trans (mv_set x 2 (.slice A9 (j + 1 + (n - j)) c9) w6)))
        clear HROW9 ho6 cX h3X
        go_wp2
        all_goals
         go_ret
         exact ⟨by rw [HE0.out.1]; rfl, by rw [HE0.out.2]; exact HEND.out, HMV9.out⟩
      ·have hb2 := hb0.alloc hb0.size (.cells #[.string y.name, .string y.party] 88)
       try simp only [sD, sE, sF]
       go_simp
       refine hK.out _ _ ((hb2.block c3 hc3X).trans h3X) (fun hHeld => ?_)
       clear hK K
       try simp only [Act.put, sA, sB, sC, sD, sE, sF]
       have hsz2 := hb2.size
       have hn2 : Reads (X.drew.alloc (.cells #[.string y.name, .string y.party] 88)) (X.heap.size + 1) 2 (some ⟨X.heap.size, 0, none⟩) 1 [.string y.name, .string y.party] := reads_newN X.drew [.string y.name, .string y.party] 88 #[.string y.name, .string y.party] rfl (N := 2) rfl
       refine wpAnyH_ready (rs := [4]) (by kernel_rfl) (by simp) (AllReadyH.cons rfl (fun K hK => ?_) (AllReadyH.nil))
       have cl3 := (hb2.cell (p := ⟨x, 2, none⟩) (show x < X.heap.size from hxX)).trans cX
       try simp only [sD, sE, sF]
       go_simp
       refine hK.out _ _ ((hb2.block c3 hc3X).trans h3X) (fun hHeld => ?_)
       clear hK K
       try simp only [Act.put, sA, sB, sC, sD, sE, sF]
       refine tk (i := 6) (v := ?_) rfl (Or.inl ⟨by rfl, ?_⟩) ?_
       rotate_left
       ·intro X9 hSw; (try simp only [sD, sE, sF]); first | (go_simp; done) | (go_simp; with_reducible rfl)
       try simp only [Act.put, sA, sB, sC, sD, sE, sF]
       refine wpAnyH_ready (rs := [7]) (by kernel_rfl) (by simp) (AllReadyH.cons rfl (fun K hK => ?_) (AllReadyH.nil))
       refine step_append_any ((X.drew.alloc (.cells #[.string y.name, .string y.party] 88))) rfl (.const (.slice none 0 0)) (.tmp 70) 36 rfl X.heap.size 88 i0 z0 2 32 Tryz.underlying36 hinf hz0 hz1 hz2 hz3 (by decide) (.slice none 0 0) 0 [] (by rfl) (World.ownsRow_nil _ _ _ _) X.heap.size A j _ (cellsOf (P.take j)) (by rfl) (HP.out.below hb2) (cellsOf_one _ oneA8) (by unfold maxLen; omega) (by omega) hb2.size ?_
       intro v4 w4 ho4 hg4 hl4
       rw [Nat.zero_add, List.nil_append] at ho4
       have hb4 := hb2.grown hg4 hb2.size (fun q hq => by simp [Value.ownBlock] at hq)
       have hsz4 := hb4.size
       have hn4 := hn2.grown hg4 (by simp) (by simp [Value.ownBlock])
       clear hg4 hl4
       refine hK.out _ _ ((hb4.block c3 hc3X).trans h3X) (fun hHeld => ?_)
       clear hK K
       try simp only [Act.put, sA, sB, sC, sD, sE, sF]
       refine wpAnyH_ready (rs := [10]) (by kernel_rfl) (by simp) (AllReadyH.cons rfl (fun K hK => ?_) (AllReadyH.nil))
       refine step_append_any (w4) rfl (.tmp 71) (.tmp 73) 36 rfl X.heap.size 88 i0 z0 2 32 Tryz.underlying36 hinf hz0 hz1 hz2 hz3 (by decide) v4 j (cellsOf (P.take j)) (by rfl) ho4 (X.heap.size + 1) (some ⟨X.heap.size, 0, none⟩) 1 1 [.string y.name, .string y.party] (by rfl) hn4 (oneA8 y) (by unfold maxLen; omega) (by omega) hb4.size ?_
       intro v5 w5 ho5 hg5 hl5
       have hb5 := hb4.grown hg5 hb4.size (fun q hq => (ho4.lt q hq).1)
       have hsz5 := hb5.size
       clear hg5 hl5
       refine hK.out _ _ ((hb5.block c3 hc3X).trans h3X) (fun hHeld => ?_)
       clear hK K
       try simp only [Act.put, sA, sB, sC, sD, sE, sF]
       refine wpAnyH_ready (rs := [17]) (by kernel_rfl) (by simp) (AllReadyH.cons rfl (fun K hK => ?_) (AllReadyH.nil))
       refine step_append_any (w5) rfl (.tmp 74) (.tmp 80) 36 rfl X.heap.size 88 i0 z0 2 32 Tryz.underlying36 hinf hz0 hz1 hz2 hz3 (by decide) v5 (j + 1) (cellsOf (P.take j) ++ [.string y.name, .string y.party]) (by rfl) ho5 X.heap.size _ (n - j) _ (cellsOf (P.drop j)) (by rfl) (HD.out.below hb5) (cellsOf_one _ oneA8) (by unfold maxLen; omega) (by omega) hb5.size ?_
       intro v6 w6 ho6 hg6 hl6
       have hb6 := hb5.grown hg6 hb5.size (fun q hq => (ho5.lt q hq).1)
       have hsz6 := hb6.size
       obtain ⟨A9, c9, rfl, hc9⟩ := own_form ho6
       clear hg6 hl6
       refine hK.out _ _ ((hb6.block c3 hc3X).trans h3X) (fun hHeld => ?_)
       clear hK K
       try simp only [Act.put, sA, sB, sC, sD, sE, sF]
       refine tk (i := 18) (v := ?_) rfl (Or.inl ⟨by rfl, ?_⟩) ?_
       rotate_left
       ·intro X9 hSw; (try simp only [sD, sE, sF]); first | (go_simp; done) | (go_simp; with_reducible rfl)
       try simp only [Act.put, sA, sB, sC, sD, sE, sF]
       refine tk (i := 19) (v := ?_) rfl (Or.inl ⟨by rfl, ?_⟩) ?_
       rotate_left
       ·intro X9 hSw; (try simp only [sD, sE, sF]); first | (go_simp; done) | (go_simp; with_reducible rfl)
       try simp only [Act.put, sA, sB, sC, sD, sE, sF]
       refine wpAnyH_ready (rs := [20]) (by kernel_rfl) (by simp) (AllReadyH.cons rfl (fun K hK => ?_) (AllReadyH.nil))
       have cl7 := (hb6.cell (p := ⟨x, 2, none⟩) (show x < X.heap.size from hxX)).trans cX
       have fl7 : w6.frozen? ⟨x, 2, none⟩ = false := (HRK.out.below hb6).frozen 2
       try simp only [sD, sE, sF]
       go_simp
       refine hK.out _ _ ((Below.heap_setCell _ ⟨x, 2, none⟩ _ _ hx3).trans ((hb6.block c3 hc3X).trans h3X)) (fun hHeld => ?_)
       clear hK K
       try simp only [Act.put, sA, sB, sC, sD, sE, sF]
       refine wpAnyH_done (by kernel_rfl) ?_ _
       have HROW9 : w6.ownsRow X.heap.size 88 2 (.slice A9 (j + 1 + (n - j)) c9) (j + 1 + (n - j)) (cellsOf (insK P y)) := by
        rw [HIN.out, cellsOf_app, cellsOf_app]
        exact ho6
       have HEND := Lib.hid ((HRK.out.below hb6).putA (slat_of_own (α := Account) (l := insK P y) HROW9 HIL.out (fun x _ => csA8 x) (show x < X.heap.size from hxX)))
       have HMV9 := Lib.hid (HMX.out.trans ((mv_of_below (x := x) hb6).trans (mv_set x 2 (.slice A9 (j + 1 + (n - j)) c9) w6)))
       clear HROW9 ho6 cX h3X
       go_wp2
       all_goals
        go_ret
        exact ⟨by rw [HE0.out.1]; rfl, by rw [HE0.out.2]; exact HEND.out, HMV9.out⟩
   ·have HE := Lib.hid (HEE.out 8 (by unfold errA8 err8; rw [if_neg (by rw [show Kd.key y = y.name from rfl, hv]; decide), if_neg (by unfold noParty8; rw [if_pos Hpt.out]; decide), if_pos (show (findK st.a (Kd.key y)).isSome = true from Hth.out)]) (by decide))
    go_wp2
    go_ret
    exact ⟨by rw [HE.out.1]; rfl, by rw [HE.out.2]; exact HRK1.out, HMV1.out⟩
end Go.Proofs.YtnpkplegeddhcaaGreat
