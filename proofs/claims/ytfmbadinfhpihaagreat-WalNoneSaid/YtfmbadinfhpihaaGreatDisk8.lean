/-
  Package disk as contracts: Append.
  Conditions: disks that the call has made; texts that are in memory.
-/
import Derived.Test.YtfmbadinfhpihaaGreatDisk7
namespace Go.Proofs.YtfmbadinfhpihaaGreat
open Go.RowKit Go.Maps
set_option maxRecDepth 100000

def appendW (st : Dk) (s x : ByteArray) : Int := if hasS st.fs s = true then (if 400000 < totF st.fs + x.size then 10 else 0) else 7
def putsD (st : Dk) (s x : ByteArray) : Dk := st.with (putF st.fs s ((fileAt st.fs s).1 ++ x) (fileAt st.fs s).2)
def appendD (st : Dk) (s x : ByteArray) : Int × Dk :=
  if st.on = true then (if (opD st).2 = true then 14 else appendW (opD st).1 s x, if appendW (opD st).1 s x = 0 then putsD (opD st).1 s x else (opD st).1) else (14, st)

set_option maxHeartbeats 2000000 in
set_option maxRecDepth 10000 in
theorem append_any (c b : Nat) (st : Dk) (hok : st.Ok) (s x : ByteArray) (hs : s.size ≤ 9223372036854775807) (hx : x.size ≤ 9223372036854775807) (w : World) (h : DkAt c b st w) :
    Calls Tryz.prog 17 #[.pointer (some ⟨c, 0, none⟩), .string s, .string x] w fun e w' => e = .returned (.int .i64 (appendD st s x).1) ∧ DkAt c b (appendD st s x).2 w' ∧ Mv [c, b] [c, b] w w' := by
  have hcb := h.2.2
  have H1 := Lib.hid (off_any c b st w h)
  have H2 := Lib.hid (op_any c b st hok w h)
  have HK := Lib.hid h
  have hok1 := opD_ok hok
  have hmv : ∀ w1 w2, Mv [c] [c] w w1 → Below w1.heap.size w1 w2 → Mv [c, b] [c, b] w w2 := fun w1 w2 hm hb => (hm.then_below hb).wide (by simp)
  have hmk : ∀ w1 w2, Mv [c, b] [c, b] w w1 → Mv [b] [b] w1 w2 → Mv [c, b] [c, b] w w2 := fun w1 w2 hm hb => hm.trans (hb.wide (by simp))
  obtain ⟨on, hon⟩ : ∃ x, st.on = x := ⟨_, rfl⟩
  obtain ⟨st1, hs1⟩ : ∃ st1, (opD st).1 = st1 := ⟨_, rfl⟩
  obtain ⟨fl, hy⟩ : ∃ y, (opD st).2 = y := ⟨_, rfl⟩
  unfold appendD
  rw [hs1] at H2 hok1 ⊢
  rw [hy] at H2 ⊢
  rw [hon] at H1 ⊢
  have htot := hok1.tot
  have hfew := hok1.few
  have hyl : (fileAt st1.fs s).1.size ≤ totF st1.fs := fileAt_le hok1.good s
  have HLk := fun w h => Lib.hid (lacks_any c b st1 hok1.good s hs w h)
  have HSz := fun w h => Lib.hid (size_any c b st1 hok1 w h)
  have HRun := Lib.hid (fun (w1 : World) (h1 : DkAt c b st1 w1) => run_look h1.2.1 hok1.good hs)
  have HM := Lib.hid hmv
  have HMK := Lib.hid hmk
  clear h hok hmv hmk hs1 hy hon hok1
  cases on
  · rw [if_neg (show ¬ (false = true) by decide)]
    go_enter Tryz.func17, Tryz.ntmps17
    go_wp2_with fail
    refine H1.out.mono ?_
    rintro e w1 ⟨rfl, rfl⟩
    go_wp2
    go_ret
    exact ⟨rfl, HK.out, Mv.refl _ _⟩
  · rw [if_pos rfl]
    obtain ⟨hb, hhb⟩ : ∃ hb, hasS st1.fs s = hb := ⟨_, rfl⟩
    unfold appendW
    rw [hhb]
    unfold lacksD at HLk
    rw [hhb] at HLk
    clear hhb
    cases hb
    · rw [if_neg (show ¬ (false = true) by decide), if_neg (show ¬ ((7 : Int) = 0) by decide)]
      rw [if_neg (show ¬ (false = true) by decide)] at HLk
      cases fl
      all_goals
        first | rw [if_neg (show ¬ (false = true) by decide)] | rw [if_pos rfl]
        go_enter Tryz.func17, Tryz.ntmps17
        go_wp2_with fail
        refine H1.out.mono ?_
        rintro e w1 ⟨rfl, rfl⟩
        go_wp2_with fail
        refine H2.out.mono ?_
        rintro e w1 ⟨rfl, h1, hm1⟩
        have HL1 := HLk w1 h1
        have HK1 := Lib.hid h1
        have HM1 := Lib.hid hm1
        clear h1 hm1
        go_wp2_with fail
        refine HL1.out.mono ?_
        rintro e w2 ⟨rfl, hb2⟩
        have HK2 := Lib.hid (HK1.out.below hb2 HK1.out.lt HK1.out.ltb)
        have HM2 := Lib.hid (HM.out _ _ HM1.out hb2)
        clear hb2
        go_wp2
        go_ret
        exact ⟨rfl, HK2.out, HM2.out⟩
    · rw [if_pos rfl]
      rw [if_pos rfl] at HLk
      by_cases hfull : 400000 < totF st1.fs + x.size
      · rw [if_pos hfull, if_neg (show ¬ ((10 : Int) = 0) by decide)]
        cases fl
        all_goals
          first | rw [if_neg (show ¬ (false = true) by decide)] | rw [if_pos rfl]
          go_enter Tryz.func17, Tryz.ntmps17
          go_wp2_with fail
          refine H1.out.mono ?_
          rintro e w1 ⟨rfl, rfl⟩
          go_wp2_with fail
          refine H2.out.mono ?_
          rintro e w1 ⟨rfl, h1, hm1⟩
          have HL1 := HLk w1 h1
          have HK1 := Lib.hid h1
          have HM1 := Lib.hid hm1
          clear h1 hm1
          go_wp2_with fail
          refine HL1.out.mono ?_
          rintro e w2 ⟨rfl, hb2⟩
          have hk2 := HK1.out.below hb2 HK1.out.lt HK1.out.ltb
          have HS2 := HSz w2 hk2
          have HK2 := Lib.hid hk2
          have HM2 := Lib.hid (HM1.out.then_below hb2)
          clear hb2 hk2
          go_wp2_with fail
          refine HS2.out.mono ?_
          rintro e w3 ⟨rfl, hb3⟩
          have HK3 := Lib.hid (HK2.out.below hb3 HK2.out.lt HK2.out.ltb)
          have HM3 := Lib.hid (HM.out _ _ HM2.out hb3)
          clear hb3
          go_wp2
          go_ret
          exact ⟨rfl, HK3.out, HM3.out⟩
      · rw [if_neg hfull, if_pos rfl]
        have hxs : x.size ≤ 400000 := by omega
        have htot4 : totF st1.fs ≤ 400000 := by omega
        have hadd : (fileAt st1.fs s).1.size + x.size ≤ 9223372036854775807 := by omega
        unfold putsD
        obtain ⟨y, hy⟩ : ∃ y, fileAt st1.fs s = y := ⟨_, rfl⟩
        rw [hy] at HRun hadd hyl ⊢
        clear hy
        cases fl
        all_goals
          first | rw [if_neg (show ¬ (false = true) by decide)] | rw [if_pos rfl]
          go_enter Tryz.func17, Tryz.ntmps17
          go_wp2_with fail
          refine H1.out.mono ?_
          rintro e w1 ⟨rfl, rfl⟩
          go_wp2_with fail
          refine H2.out.mono ?_
          rintro e w1 ⟨rfl, h1, hm1⟩
          have HL1 := HLk w1 h1
          have HK1 := Lib.hid h1
          have HM1 := Lib.hid hm1
          clear h1 hm1
          go_wp2_with fail
          refine HL1.out.mono ?_
          rintro e w2 ⟨rfl, hb2⟩
          have hk2 := HK1.out.below hb2 HK1.out.lt HK1.out.ltb
          have HS2 := HSz w2 hk2
          have HK2 := Lib.hid hk2
          have HM2 := Lib.hid (HM1.out.then_below hb2)
          clear hb2 hk2
          go_wp2_with fail
          refine HS2.out.mono ?_
          rintro e w3 ⟨rfl, hb3⟩
          have hk3 := HK2.out.below hb3 HK2.out.lt HK2.out.ltb
          have HM3 := Lib.hid (HM.out _ _ HM2.out hb3)
          have hrun := HRun.out w3 hk3
          have c43 := hk3.cell4
          have HK3 := Lib.hid hk3
          clear hb3 hk3
          go_wp2
          obtain ⟨W2, HW2⟩ : ∃ W2, Hid (w3.alloc (.cells #[.string (y.1 ++ x), .int .i64 y.2] 108) = W2) := ⟨_, rfl⟩
          have hclt := HK3.out.lt
          have c42 : W2.cell? ⟨c, 4, none⟩ = some (.map (some b)) := by rw [← HW2.out]; exact (World.cell?_alloc_lt _ _ _ hclt).trans c43
          have cf0 : W2.cell? ⟨w3.heap.size, 0, none⟩ = some (.string (y.1 ++ x)) := by rw [← HW2.out, Lib.cell_of_heap (heap_alloc_new w3 _)]; rfl
          have cf1 : W2.cell? ⟨w3.heap.size, 1, none⟩ = some (.int .i64 y.2) := by rw [← HW2.out, Lib.cell_of_heap (heap_alloc_new w3 _)]; rfl
          have hsz2 : W2.heap.size = w3.heap.size + 1 := by rw [← HW2.out]; simp
          have hblt := HK3.out.ltb
          have HK4 : Hid (DkAt c b st1 W2) := by show DkAt _ _ _ _; rw [← HW2.out]; exact HK3.out.alloc _
          have HM4 : Hid (Mv [c, b] [c, b] w W2) := by show Mv _ _ _ _; rw [← HW2.out]; exact HM3.out.alloc _
          rw [HW2.out]
          clear hrun c43 HK3 HM3 HW2 HK2 HM2 HS2 HK1 HM1 HL1 HLk HSz HM H1 H2 HRun HK
          obtain ⟨w4, hrun4, hown4, hgrow4⟩ := (show (W2.drew).ownsMap Tryz.prog 9 fileE b (Maps.size st1.fs) st1.fs from HK4.out.2.1).update keyT Tryz.underlying45 (by unfold maxLen; omega) (key_str hs) (fileE_mk (y.1 ++ x) y.2)
          have k4 : ∀ (k i : Nat) (v : Value), k < W2.heap.size → k ≠ b → W2.cell? ⟨k, i, none⟩ = some v → w4.cell? ⟨k, i, none⟩ = some v := fun k i v h1 h2 h3 => (World.cell?_of_block (a := ⟨k, i, none⟩) (hgrow4.block k h1 (fun e => h2 (by injection e)))).trans h3
          go_region_held3 (fun W => W.cell? ⟨c, 4, none⟩ = some (.map (some b)) ∧ W.cell? ⟨w3.heap.size, 0, none⟩ = some (.string (y.1 ++ x)) ∧ W.cell? ⟨w3.heap.size, 1, none⟩ = some (.int .i64 y.2))
            (first | exact ⟨c42, cf0, cf1⟩ | exact ⟨k4 _ _ _ (by omega) hcb c42, k4 _ _ _ (by omega) (by omega) cf0, k4 _ _ _ (by omega) (by omega) cf1⟩)
            (fail)
          have HK5 := Lib.hid (HK4.out.turned (hgrow4.block c (by show c < W2.heap.size; omega) (fun e => hcb (by injection e))) hown4)
          have HM5 := Lib.hid (HMK.out _ _ (HM4.out.drewN 1) (Mv.of_grown hgrow4))
          clear hrun4 hown4 hgrow4 k4 HK4 HM4
          go_wp2
          go_ret
          exact ⟨rfl, HK5.out, HM5.out⟩
end Go.Proofs.YtfmbadinfhpihaaGreat
