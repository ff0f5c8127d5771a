/-
  Package disk as contracts: Crash.
  Conditions: disks that the call has made; ints in a list that the call reads.
-/
import Derived.Test.YtfmbadinfhpihaaGreatDisk10
import Derived.Test.YtfmbadinfhpihaaGreatMemLst
namespace Go.Proofs.YtfmbadinfhpihaaGreat
open Go.RowKit Go.Maps Go.Sort
set_option maxRecDepth 100000

/-- How many of the bytes that were not synced stay, of n - 1. -/
def kOf (keep : List Int) (i : Nat) (n : Int) : Int :=
  match keep[i]? with
  | some v => if Int.tmod v n < 0 then Int.tmod v n + n else Int.tmod v n
  | none => 0
theorem kOf_range (keep : List Int) (i : Nat) {n : Int} (hn : 0 < n) : 0 ≤ kOf keep i n ∧ kOf keep i n < n := by
  unfold kOf
  split
  · rename_i v _
    have h1 := Int.tmod_lt_of_pos v hn
    have h2 : -n < Int.tmod v n := by
      have := Int.lt_tmod_of_pos v hn
      omega
    split <;> omega
  · omega
/-- A file of which some bytes are gone. -/
def cutOf (keep : List Int) (i : Nat) (y : ByteArray × Int) : ByteArray := y.1.extract 0 ((y.2 + kOf keep i ((y.1.size : Int) - y.2 + 1)).toNat)
def crashF (keep : List Int) (l : List ByteArray) (D : DataW Unit) : Nat → DataW Unit
  | 0 => D
  | i + 1 => match l[i]? with
    | some s => putF (crashF keep l D i) s (cutOf keep i (fileAt (crashF keep l D i) s)) ((cutOf keep i (fileAt (crashF keep l D i) s)).size : Nat)
    | none => crashF keep l D i
theorem crashF_step {keep : List Int} {l : List ByteArray} {D : DataW Unit} {i : Nat} {s : ByteArray} (h : l[i]? = some s) : crashF keep l D (i + 1) = putF (crashF keep l D i) s (cutOf keep i (fileAt (crashF keep l D i) s)) ((cutOf keep i (fileAt (crashF keep l D i) s)).size : Nat) := by
  show (match l[i]? with | some s => _ | none => _) = _
  rw [h]
theorem extract_le (x : ByteArray) (k : Nat) : (x.extract 0 k).size ≤ x.size := by rw [ByteArray.size_extract]; omega
theorem crash_ok {keep : List Int} {D : DataW Unit} (hg : GoodF D) {l : List ByteArray} (hl : ∀ s ∈ l, hasS D s = true) : ∀ i, GoodF (crashF keep l D i) ∧ (∀ s, hasS (crashF keep l D i) s = true ↔ hasS D s = true) ∧ Maps.size (crashF keep l D i) = Maps.size D ∧ totF (crashF keep l D i) ≤ totF D
  | 0 => ⟨hg, fun _ => Iff.rfl, rfl, Nat.le_refl _⟩
  | i + 1 => by
    obtain ⟨h1, h2, h3, h4⟩ := crash_ok (keep := keep) hg hl i
    cases hs : l[i]? with
    | none =>
      have e : crashF keep l D (i + 1) = crashF keep l D i := by
        show (match l[i]? with | some s => _ | none => _) = _
        rw [hs]
      rw [e]
      exact ⟨h1, h2, h3, h4⟩
    | some s =>
      rw [crashF_step hs]
      have hh : hasS (crashF keep l D i) s = true := (h2 s).2 (hl s (List.mem_of_getElem? hs))
      obtain ⟨E, hE⟩ : ∃ E, crashF keep l D i = E := ⟨_, rfl⟩
      rw [hE] at h1 h2 h3 h4 hh ⊢
      have hle : (cutOf keep i (fileAt E s)).size ≤ (fileAt E s).1.size := extract_le _ _
      have hdel := totF_del h1 s
      have hput := totF_put h1 s (cutOf keep i (fileAt E s)) ((cutOf keep i (fileAt E s)).size : Nat)
      refine ⟨h1.put s _ (by omega) (Int.le_refl _), fun t => ?_, ?_, by omega⟩
      · rw [hasF_put h1]
        constructor
        · rintro (rfl | h)
          · exact (h2 t).1 hh
          · exact (h2 t).1 h
        · exact fun h => .inr ((h2 t).2 h)
      · rw [sizeF_put h1, if_pos hh]
        exact h3
def crashD (st : Dk) (keep : List Int) : Dk := ⟨false, false, st.left, st.ops, crashF keep (lstS st.fs) st.fs (lstS st.fs).length⟩
theorem crashD_ok {st : Dk} (h : st.Ok) (keep : List Int) : (crashD st keep).Ok := by
  obtain ⟨h1, _, h3, h4⟩ := crash_ok (keep := keep) h.good (l := lstS st.fs) (fun s hs => (mem_lstS h.good.keys s).1 hs) (lstS st.fs).length
  exact ⟨h1, h.ops0, h.ops1, h.left0, h.left1, by show Maps.size (crashF _ _ _ _) ≤ _; rw [h3]; exact h.few, Nat.le_trans h4 h.tot⟩

/-- A name that a map has is no longer than a string can be. -/
theorem own_key {w : World} {b n : Nat} {D : DataW Unit} (h : w.ownsMap Tryz.prog 9 fileE b n D) {s : ByteArray} (hh : hasS D s = true) : s.size ≤ 9223372036854775807 := by
  obtain ⟨es, clock, _, F, _, rfl⟩ := h
  unfold hasS at hh
  rw [has_eq, List.any_eq_true] at hh
  obtain ⟨p, hp, hps⟩ := hh
  obtain ⟨v, hv⟩ := fit_keys F p (mem_sorted.1 hp)
  rw [WideAt.sameKey_eq hps] at hv
  cases v <;> simp [keyOf, Tryz.underlying9, mapKey, kS] at hv
  obtain ⟨h1, h2⟩ := hv
  unfold maxLen at h1
  have e := congrArg Array.size h2
  have e2 : ∀ x : ByteArray, x.data.size = x.size := fun _ => rfl
  rw [e2, e2] at e
  omega
theorem cut_size {x : ByteArray} {k : Nat} (h : k ≤ x.size) : (x.extract 0 k).size = k := by rw [ByteArray.size_extract]; omega

set_option maxHeartbeats 4000000 in
set_option maxRecDepth 10000 in
theorem crash_any (c b : Nat) (st : Dk) (hok : st.Ok) (keep : List Int) (A : Option Addr) (cp : Nat) (w : World) (h : DkAt c b st w) (hr : Reads w w.heap.size 1 A keep.length (ints keep)) (hA : 0 < keep.length → ∀ ad, A = some ad → ad.block ≠ c ∧ ad.block ≠ b ∧ ad.block < w.heap.size)
    (hv : ∀ v ∈ keep, -9223372036854775808 ≤ v ∧ v ≤ 9223372036854775807) (hl : keep.length ≤ 9223372036854775807) :
    Calls Tryz.prog 23 #[.pointer (some ⟨c, 0, none⟩), .slice A keep.length cp] w fun e w' => e = .returned (.tuple #[]) ∧ DkAt c b (crashD st keep) w' ∧ Mv [c, b] [c, b] w w' := by
  have c0 := h.cell0; have c1 := h.cell1
  have f0 := h.frozen 0; have f1 := h.frozen 1
  obtain ⟨n, hn⟩ : ∃ n, keep.length = n := ⟨_, rfl⟩
  rw [hn] at hr hA hl ⊢
  have hk0 := (h.set0 false).set1 false
  have hkok : Dk.Ok ⟨false, false, st.left, st.ops, st.fs⟩ := ⟨hok.good, hok.ops0, hok.ops1, hok.left0, hok.left1, hok.few, hok.tot⟩
  have HF := Lib.hid (files_any c b _ hkok _ hk0)
  have hmem : ∀ s ∈ lstS st.fs, hasS st.fs s = true := fun s hs => (mem_lstS hok.good.keys s).1 hs
  have hll := lstS_len hok.good.keys
  have hlf : (lstS st.fs).length ≤ 1000000 := by rw [hll]; exact hok.few
  have hlm := fun i => crash_ok (keep := keep) hok.good hmem i
  have hszd := hok.tot
  have hfew := hok.few
  unfold crashD
  obtain ⟨l, hl9⟩ : ∃ l, lstS st.fs = l := ⟨_, rfl⟩
  simp only [hl9] at HF hmem hlf hlm ⊢
  obtain ⟨m, hm⟩ : ∃ m, l.length = m := ⟨_, rfl⟩
  simp only [hm] at HF hlf ⊢
  have HMEM := Lib.hid hmem; have HM := Lib.hid hm; have HN := Lib.hid hn; have HR := Lib.hid hr; have HA := Lib.hid hA; have HV := Lib.hid hv; have HLM := Lib.hid hlm; have HK := Lib.hid h
  clear hm hn hr hA hv hlm h hl9 hll hk0 hkok hmem
  go_enter Tryz.func23, Tryz.ntmps23
  go_wp2_with fail
  refine HF.out.mono ?_
  rintro e w1 ⟨A1, cp1, rfl, hr1, hA1, hb1⟩
  have HR1 := Lib.hid hr1; have HA1 := Lib.hid hA1
  have hk1 := ((HK.out.set0 false).set1 false).below hb1 (by simpa using HK.out.lt) (by simpa using HK.out.ltb)
  have HK1 := Lib.hid hk1
  have hb1' := hb1.size
  have HM1 := Lib.hid ((((mv_cell (c := c) (w := w) 0 (.bool false)).trans (mv_cell 1 (.bool false))).then_below hb1).wide (T := [c, b]) (by simp))
  clear hr1 hA1 hb1 hk1 HF
  go_wp2
  go_loopw [23] (fun i wr => ∃ k : Nat, k ≤ m ∧ i = .int .i64 k ∧ Hid (DkAt c b ⟨false, false, st.left, st.ops, crashF keep l st.fs k⟩ wr) ∧ Hid (Mv [c, b] [c, b] w1 wr)) (fun i _ => m - (intOf i).toNat)
  case atStart => exact ⟨0, Nat.zero_le _, rfl, HK1.out, Mv.refl _ _⟩
  case round =>
    obtain ⟨k, hk, rfl, HKk, HMk⟩ := hrel
    by_cases hlt : k < m
    · obtain ⟨ad, s, rfl, hab, hsk, hc⟩ := str_at (HR1.out.apart (fun ad e => ⟨by have h1 := (HA1.out ad e).1; have h2 := HK.out.lt; have h3 := HK.out.ltb; simp at h1 ⊢; omega, (HA1.out ad e).2⟩) HMk.out HMk.out.size) hlt
      obtain ⟨hgk, hhk, hzk, htk⟩ := HLM.out k
      have hst := crashF_step (keep := keep) (D := st.fs) hsk
      have hin : hasS (crashF keep l st.fs k) s = true := (hhk s).2 (by have := (HLM.out 0).2.1; exact HMEM.out s (List.mem_of_getElem? hsk))
      have hs9 := own_key HKk.out.2.1 hin
      obtain ⟨D, hD⟩ : ∃ D, crashF keep l st.fs k = D := ⟨_, rfl⟩
      rw [hD] at HKk hgk hzk htk hst
      have hrun := run_look HKk.out.2.1 hgk hs9
      obtain ⟨_, hy0, hy1⟩ := fileAt_form hgk s
      have hyl := fileAt_le hgk s
      obtain ⟨y, hy⟩ : ∃ y, fileAt D s = y := ⟨_, rfl⟩
      rw [hy] at hst hrun hy0 hy1 hyl
      have hq := kOf_range keep k (n := (y.1.size : Int) - y.2 + 1) (by omega)
      obtain ⟨q, hq9⟩ : ∃ q, kOf keep k ((y.1.size : Int) - y.2 + 1) = q := ⟨_, rfl⟩
      unfold cutOf at hst
      rw [hq9] at hst hq
      have c4 := HKk.out.cell4
      have hclt := HKk.out.lt
      have hblt := HKk.out.ltb
      have hcb := HKk.out.2.2
      have hlim : (y.1.extract 0 (y.2 + q).toNat).size ≤ 281474976710656 := by have := extract_le y.1 (y.2 + q).toNat; omega
      have i1 : 0 ≤ y.2 + q := by omega
      have i2 : y.2 + q ≤ (y.1.size : Int) := by omega
      obtain ⟨x, hx⟩ : ∃ x, y.1.extract 0 (y.2 + q).toNat = x := ⟨_, rfl⟩
      rw [hx] at hst hlim
      have HX := Lib.hid hx
      clear hx
      have HST : Hid (crashF keep l st.fs (k + 1) = putF D s x (x.size : Nat)) := hst
      clear hst hin hhk hD hy hgk hsk hab
      by_cases hkn : k < n
      · obtain ⟨ad2, v, rfl, hab2, hvk, hc2⟩ := int_at (HR.out.apart (fun ad e => by have h1 := HA.out (by omega) ad e; exact ⟨by simp; exact ⟨h1.1, h1.2.1⟩, h1.2.2⟩) (HM1.out.trans HMk.out) (HM1.out.trans HMk.out).size) hkn
        have hvr := HV.out v (List.mem_of_getElem? hvk)
        have hq8 : (if Int.tmod v ((y.1.size : Int) - y.2 + 1) < 0 then Int.tmod v ((y.1.size : Int) - y.2 + 1) + ((y.1.size : Int) - y.2 + 1) else Int.tmod v ((y.1.size : Int) - y.2 + 1)) = q := by
          rw [← hq9]
          unfold kOf
          rw [hvk]
        have hc3 : (wr.alloc (.cells #[.string y.1, .int .i64 y.2] 108)).cell? (ad2.add k) = some (.int .i64 v) := (World.cell?_alloc_lt _ _ _ (by rw [block_of_add]; exact hab2)).trans hc2
        clear hq9 hvk hab2 hc2
        have hn0 : (((y.1.size : Int) - y.2 + 1) == 0) = false := by simp; omega
        by_cases hneg : Int.tmod v ((y.1.size : Int) - y.2 + 1) < 0
        · rw [if_pos hneg] at hq8
          have hr1 := Int.lt_tmod_of_pos v (show 0 < (y.1.size : Int) - y.2 + 1 by omega)
          obtain ⟨r, hr⟩ : ∃ r, Int.tmod v ((y.1.size : Int) - y.2 + 1) = r := ⟨_, rfl⟩
          rw [hr] at hneg hq8 hr1
          go_wp2_with fail
          rw [HX.out]
          refine (clone_any _ _ hlim).mono ?_
          rintro e w4 ⟨rfl, hb4⟩
          obtain ⟨w5, hrun5, hown5, hgrow5⟩ := (own_keep HKk.out.2.1 ((hb4.block b (by simp; omega)).trans (Below.heap_alloc wr _ b hblt))).update keyT Tryz.underlying45 (by unfold maxLen; show Maps.size D < _; omega) (key_str hs9) (fileE_mk x (x.size : Nat))
          have c44 : w4.cell? ⟨c, 4, none⟩ = some (.map (some b)) := (hb4.cell (show (⟨c, 4, none⟩ : Addr).block < _ by show c < _; simp; omega)).trans ((World.cell?_alloc_lt _ _ _ hclt).trans c4)
          have hz4 := hb4.size
          have hz4' : wr.heap.size ≤ w4.heap.size := by simp at hz4; omega
          have HK5 : Hid (DkAt c b ⟨false, false, st.left, st.ops, crashF keep l st.fs (k + 1)⟩ w5) := by
            show DkAt _ _ _ _
            rw [HST.out]
            refine HKk.out.turned ?_ hown5
            rw [hgrow5.block c (by omega) (fun e => hcb (by injection e)), hb4.block c (by simp; omega)]
            exact Below.heap_alloc wr _ c hclt
          have HM5 : Hid (Mv [c, b] [c, b] w1 w5) := by
            show Mv _ _ _ _
            exact ((HMk.out.alloc _).then_below hb4).trans ((Mv.of_grown hgrow5).wide (by simp))
          clear hown5 hgrow5 hb4 HKk HMk HST
          go_wp2
          go_roundw
          case rel => exact ⟨k + 1, hlt, by go_num, HK5.out, HM5.out⟩
          case measure => simp [intOf]; omega
        · rw [if_neg hneg] at hq8
          obtain ⟨r, hr⟩ : ∃ r, Int.tmod v ((y.1.size : Int) - y.2 + 1) = r := ⟨_, rfl⟩
          rw [hr] at hneg hq8
          subst hq8
          go_wp2_with fail
          rw [HX.out]
          refine (clone_any _ _ hlim).mono ?_
          rintro e w4 ⟨rfl, hb4⟩
          obtain ⟨w5, hrun5, hown5, hgrow5⟩ := (own_keep HKk.out.2.1 ((hb4.block b (by simp; omega)).trans (Below.heap_alloc wr _ b hblt))).update keyT Tryz.underlying45 (by unfold maxLen; show Maps.size D < _; omega) (key_str hs9) (fileE_mk x (x.size : Nat))
          have c44 : w4.cell? ⟨c, 4, none⟩ = some (.map (some b)) := (hb4.cell (show (⟨c, 4, none⟩ : Addr).block < _ by show c < _; simp; omega)).trans ((World.cell?_alloc_lt _ _ _ hclt).trans c4)
          have hz4 := hb4.size
          have hz4' : wr.heap.size ≤ w4.heap.size := by simp at hz4; omega
          have HK5 : Hid (DkAt c b ⟨false, false, st.left, st.ops, crashF keep l st.fs (k + 1)⟩ w5) := by
            show DkAt _ _ _ _
            rw [HST.out]
            refine HKk.out.turned ?_ hown5
            rw [hgrow5.block c (by omega) (fun e => hcb (by injection e)), hb4.block c (by simp; omega)]
            exact Below.heap_alloc wr _ c hclt
          have HM5 : Hid (Mv [c, b] [c, b] w1 w5) := by
            show Mv _ _ _ _
            exact ((HMk.out.alloc _).then_below hb4).trans ((Mv.of_grown hgrow5).wide (by simp))
          clear hown5 hgrow5 hb4 HKk HMk HST
          go_wp2
          go_roundw
          case rel => exact ⟨k + 1, hlt, by go_num, HK5.out, HM5.out⟩
          case measure => simp [intOf]; omega
      · have hq0 : q = 0 := by
          rw [← hq9]
          unfold kOf
          rw [List.getElem?_eq_none (by have := HN.out; omega)]
        subst hq0
        clear hq9
        have HX0 : Hid (y.1.extract 0 y.2.toNat = x) := by
          have h := HX.out
          rw [Int.add_zero] at h
          exact h
        go_wp2_with fail
        rw [HX0.out]
        refine (clone_any _ _ hlim).mono ?_
        rintro e w4 ⟨rfl, hb4⟩
        obtain ⟨w5, hrun5, hown5, hgrow5⟩ := (own_keep HKk.out.2.1 ((hb4.block b (by simp; omega)).trans (Below.heap_alloc wr _ b hblt))).update keyT Tryz.underlying45 (by unfold maxLen; show Maps.size D < _; omega) (key_str hs9) (fileE_mk x (x.size : Nat))
        have c44 : w4.cell? ⟨c, 4, none⟩ = some (.map (some b)) := (hb4.cell (show (⟨c, 4, none⟩ : Addr).block < _ by show c < _; simp; omega)).trans ((World.cell?_alloc_lt _ _ _ hclt).trans c4)
        have hz4 := hb4.size
        have hz4' : wr.heap.size ≤ w4.heap.size := by simp at hz4; omega
        have HK5 : Hid (DkAt c b ⟨false, false, st.left, st.ops, crashF keep l st.fs (k + 1)⟩ w5) := by
          show DkAt _ _ _ _
          rw [HST.out]
          refine HKk.out.turned ?_ hown5
          rw [hgrow5.block c (by omega) (fun e => hcb (by injection e)), hb4.block c (by simp; omega)]
          exact Below.heap_alloc wr _ c hclt
        have HM5 : Hid (Mv [c, b] [c, b] w1 w5) := by
          show Mv _ _ _ _
          exact ((HMk.out.alloc _).then_below hb4).trans ((Mv.of_grown hgrow5).wide (by simp))
        clear hown5 hgrow5 hb4 HKk HMk HST
        go_wp2
        go_roundw
        case rel => exact ⟨k + 1, hlt, by go_num, HK5.out, HM5.out⟩
        case measure => simp [intOf]; omega
    · obtain rfl : k = m := by omega
      have hk9 : k ≤ k := Nat.le_refl _
      go_wp2
      go_end0
      exact ⟨rfl, HKk.out, HM1.out.trans HMk.out⟩
end Go.Proofs.YtfmbadinfhpihaaGreat
