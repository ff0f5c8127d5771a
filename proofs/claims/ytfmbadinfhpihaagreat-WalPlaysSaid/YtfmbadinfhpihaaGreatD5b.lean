/-
  The document's disk (complineref5.Disk): put and cut as contracts.
  Conditions: at most 100000 files.
-/
import Derived.Test.YtfmbadinfhpihaaGreatD5a
set_option linter.unusedVariables false
set_option linter.unusedSimpArgs false
namespace Go.Proofs.YtfmbadinfhpihaaGreat
open Go.RowKit Go.Maps
attribute [local go_sem ↓] Go.wp_at_zero Go.wp_at_succ
set_option maxRecDepth 100000

set_option maxHeartbeats 40000000 in
theorem put5_any (x : Nat) (S : List Nat) (r : D5) (y : Fl) (w : World) (h : D5At x S r w) (hlen : r.l.length ≤ 100000) (hnm : ∀ z ∈ r.l, z.name.size ≤ 9223372036854775807) (hy : y.name.size ≤ 9223372036854775807) :
    Calls Tryz.prog 65 #[.pointer (some ⟨x, 0, none⟩), Kd.val y] w fun e w' => ∃ S', e = .returned (.tuple #[]) ∧ D5At x S' (r.with (insK r.l y)) w' ∧ Mv S S' w w' := by
  obtain ⟨i0, z0, hinf, hz0, hz1, hz2, hz3⟩ := info_all infoF
  have hxl := h.lt
  have HXS := Lib.hid h.own
  obtain ⟨A, c, hcell0, hcap0, hrow0⟩ := h.row
  obtain ⟨P, hP⟩ : ∃ P, r.l = P := ⟨_, rfl⟩
  rw [hP] at hcell0 hcap0 hrow0 hlen hnm ⊢
  obtain ⟨n, hn⟩ : ∃ n, P.length = n := ⟨_, rfl⟩
  rw [hn] at hcell0 hcap0 hlen
  have HLP := Lib.hid hn; have HK := Lib.hid h; have HNM := Lib.hid hnm; have HRO := Lib.hid hrow0
  obtain ⟨c3, HC3⟩ : ∃ c3, Hid (w.heap.size = c3) := ⟨_, rfl⟩
  obtain ⟨wo, HW0⟩ : ∃ wo, Hid (w.alloc (.cells #[.string y.name, .string y.data, .int .i64 y.safe] 121) = wo) := ⟨_, rfl⟩
  have HB0 : Hid (Below w.heap.size w wo) := by show Below _ _ _; rw [← HW0.out]; exact (Below.refl _ _).alloc (Nat.le_refl _) _
  have HY0 : Hid (wo.heap[c3]? = some (.cells #[.string y.name, .string y.data, .int .i64 y.safe] 121 (0, 0))) := by show _ = _; rw [← HW0.out, ← HC3.out]; exact heap_alloc_new _ _
  have hzW0 : c3 < wo.heap.size := by rw [← HW0.out, ← HC3.out]; simp
  have hxc : x < c3 := by rw [← HC3.out]; exact hxl
  have cx1 : wo.cell? ⟨x, 1, none⟩ = some (.slice A n c) := (HB0.out.cell (p := ⟨x, 1, none⟩) hxl).trans hcell0
  have y0 : wo.cell? ⟨c3, 0, none⟩ = some (.string y.name) := by rw [Lib.cell_of_heap HY0.out]; rfl
  have HRW : Hid (RowsAt wo wo.heap.size A 3 P) := HRO.out.below HB0.out
  clear hn hP h hrow0 hnm hcell0
  show Calls _ _ #[_, .agg #[.string y.name, .string y.data, .int .i64 y.safe]] w _
  go_enter Tryz.func65, Tryz.ntmps65
  go_upto_block 0 with (fail)
  rw [HW0.out, HC3.out]
  go_cut [4] (fun kk wx => ∃ j : Nat, j ≤ n ∧ kk = .int .i64 j ∧ Hid (∀ i z, i < j → P[i]? = some z → (Kd.key z).data.toList < y.name.data.toList) ∧ Hid (∀ z, P[j]? = some z → ¬ (Kd.key z).data.toList < y.name.data.toList) ∧ Hid (∃ q, wx = wo.drewN q))
  case first =>
    go_wp2
    go_loopw [4] (fun i w6 => ∃ j : Nat, j ≤ n ∧ i = .int .i64 j ∧ Hid (∀ i z, i < j → P[i]? = some z → (Kd.key z).data.toList < y.name.data.toList) ∧ Hid (∃ q, w6 = wo.drewN q)) (fun i _ => n - (intOf i).toNat)
    case atStart => exact ⟨0, Nat.zero_le _, rfl, fun i z h => absurd h (by omega), 0, rfl⟩
    case round =>
      obtain ⟨j, hj, rfl, HJ, HQ⟩ := hrel
      obtain ⟨q, hq⟩ := HQ.out
      have cx2 : wr.cell? ⟨x, 1, none⟩ = some (.slice A n c) := by rw [hq]; exact cx1
      have y02 : wr.cell? ⟨c3, 0, none⟩ = some (.string y.name) := by rw [hq]; exact y0
      have HW := Lib.hid hq
      have HRR : Hid (RowsAt wr wr.heap.size A 3 P) := by show RowsAt _ _ _ _ _; rw [HW.out]; exact HRW.out.below (drewN_below (Below.refl _ _) q)
      clear hq HQ cx1 y0
      have b1 : (0 : Int) ≤ (j : Int) := by omega
      have b9 : j ≤ 100000 := by omega
      by_cases hjn : j < n
      · obtain ⟨ad, a, rfl, hab, hak, ham, hc⟩ := HRR.out.at_ (show j < P.length by rw [HLP.out]; exact hjn)
        have e0 : wr.cell? (ad.add (j * 3)) = some (.string a.name) := by
          have h := hc 0 _ rfl
          rw [show (ad.add (j * 3)).add 0 = ad.add (j * 3) from by rw [add_of_add]; rfl] at h
          exact h
        have HA9 := Lib.hid hak
        have has : a.name.size ≤ 9223372036854775807 := HNM.out a ham
        obtain ⟨cv, HCV⟩ : ∃ cv, Hid (cmpS a.name y.name = cv) := ⟨_, rfl⟩
        have V : Hid (∀ W, Calls Tryz.prog 164 #[.string a.name, .string y.name] W fun e w' => e = .returned (.int .i64 cv) ∧ ∃ q, w' = W.drewN q) := fun W => by
          rw [← HCV.out]
          exact rcompare_any a.name y.name has hy W
        have b2 : (j : Int) < (n : Int) := by omega
        clear hc hak ham
        by_cases hneg : cv < 0
        · have HL := Lib.hid ((cmp_neg a.name y.name).1 (by rw [HCV.out]; exact hneg))
          go_wp2
          go_quiet (first | (go_at_call 164; exact Calls.quiet_of (V.out _)))
          go_wp2
          go_roundw
          case rel => exact ⟨j + 1, hjn, by go_num, ltk_take HA9.out HJ.out HL.out, by rw [HW.out, World.drewN_drewN]; exact ⟨_, rfl⟩⟩
          case measure => simp [intOf]; omega
        · have hneg' : decide (cv < 0) = false := decide_eq_false hneg
          have HLT : Hid (∀ z, P[j]? = some z → ¬ (Kd.key z).data.toList < y.name.data.toList) := fun z hz h => by
            rw [HA9.out] at hz
            injection hz with hz
            subst hz
            exact hneg (by rw [← HCV.out]; exact (cmp_neg _ _).2 h)
          clear hneg
          go_wp2
          go_quiet (first | (go_at_call 164; exact Calls.quiet_of (V.out _)))
          go_wp2
          go_meet
          exact ⟨j, hj, rfl, HJ.out, HLT.out, by rw [HW.out, World.drewN_drewN]; exact ⟨_, rfl⟩⟩
      · have hjm2 : j = n := by omega
        have hd : decide (j < n) = false := decide_eq_false (by omega)
        have HLT : Hid (∀ z, P[j]? = some z → ¬ (Kd.key z).data.toList < y.name.data.toList) := fun z hz h => by
          have := (List.getElem?_eq_some_iff.1 hz).1
          have := HLP.out
          omega
        clear hjm2
        go_wp2
        go_quiet (fail)
        go_wp2
        go_meet
        exact ⟨j, hj, rfl, HJ.out, HLT.out, by rw [HW.out, World.drewN_drewN]; exact ⟨_, rfl⟩⟩
  case rest =>
  obtain ⟨j, hj, rfl, HJ, HLT, HQ⟩ := hcut
  go_wp2
  obtain ⟨X, hXX⟩ : ∃ X, X = wc := ⟨_, rfl⟩
  subst hXX
  obtain ⟨q, hq⟩ := HQ.out
  have HXW : Hid (Below w.heap.size w X) := by show Below _ _ _; rw [hq]; exact drewN_below HB0.out _
  have cX : X.cell? ⟨x, 1, none⟩ = some (.slice A n c) := by rw [hq]; exact cx1
  have h3X : X.heap[c3]? = some (.cells #[.string y.name, .string y.data, .int .i64 y.safe] 121 (0, 0)) := by rw [hq]; exact HY0.out
  have hzq : X.heap.size = wo.heap.size := by rw [hq]; rfl
  have HRX : Hid (RowsAt X X.heap.size A 3 P) := by show RowsAt _ _ _ _ _; rw [hq]; exact HRW.out.below (drewN_below (Below.refl _ _) q)
  clear hq HQ
  have hxX : x < X.heap.size := by omega
  have hc3X : c3 < X.heap.size := by omega
  have hx3 : c3 ≠ x := by omega
  clear hzq
  have HRK : Hid (D5At x S r X) := HK.out.below HXW.out
  have HP : Hid (Reads X X.heap.size 3 A j (cellsOf (P.take j))) := by
    have := (HRX.out.take j).reads (fun x _ => csF x)
    rw [List.length_take, HLP.out, Nat.min_eq_left hj] at this
    exact this
  have hRd := HRX.out.reads (fun x _ => csF x)
  rw [HLP.out] at hRd
  have hRd2 := hRd.cut hj hcap0
  rw [← cellsOf_drop (fun x _ => csF x)] at hRd2
  have HD := Lib.hid hRd2
  have HIN : Hid (insK P y = P.take j ++ [y] ++ P.drop j) := insK_at (by rw [HLP.out]; exact hj) HJ.out HLT.out
  have HIL : Hid ((insK P y).length = j + 1 + (n - j)) := by show _ = _; rw [insK_len, HLP.out]; omega
  have hjc : j ≤ c := by omega
  have hXd : X.drew.heap.size = X.heap.size := rfl
  have hb0 : Below X.heap.size X X.drew := (Below.refl _ _).drew
  clear cx1 y0 hRd hRd2 HLT HJ HRW
  refine wp_region_held_drew (S := fun X9 => X9.heap[c3]? = some (.cells #[.string y.name, .string y.data, .int .i64 y.safe] 121 (0, 0))) (by kernel_rfl) (show (X.drew).heap[c3]? = _ from h3X) (fun hHeld => ?_)
  refine wpAnyH_take (i := 0) (v := ?_) rfl (by kernel_rfl) (by kernel_rfl) (by kernel_rfl) (fun _ _ _ h => h) (Or.inl ⟨by rfl, ?_⟩) (by assumption) ?_
  rotate_left
  · intro X9 hSw; (try dsimp only at hSw); (try simp only [List.getElem_toArray, List.getElem_cons_zero]); first | (go_simp; done) | (go_simp; with_reducible rfl)
  try simp only [Act.put, List.setIfInBounds_toArray, List.set_cons_zero, List.set_cons_succ, List.getElem_toArray, List.getElem_cons_zero]
  refine wpAnyH_take (i := 1) (v := ?_) rfl (by kernel_rfl) (by kernel_rfl) (by kernel_rfl) (fun _ _ _ h => h) (Or.inl ⟨by rfl, ?_⟩) (by assumption) ?_
  rotate_left
  · intro X9 hSw; (try dsimp only at hSw); (try simp only [List.getElem_toArray, List.getElem_cons_succ, List.getElem_cons_zero]); first | (go_simp; done) | (go_simp; with_reducible rfl)
  try simp only [Act.put, List.setIfInBounds_toArray, List.set_cons_zero, List.set_cons_succ, List.getElem_toArray, List.getElem_cons_succ, List.getElem_cons_zero]
  refine wpAnyH_take (i := 2) (v := ?_) rfl (by kernel_rfl) (by kernel_rfl) (by kernel_rfl) (fun _ _ _ h => h) (Or.inl ⟨by rfl, ?_⟩) (by assumption) ?_
  rotate_left
  · intro X9 hSw; (try dsimp only at hSw); (try simp only [List.getElem_toArray, List.getElem_cons_succ, List.getElem_cons_zero]); first | (go_simp; done) | (go_simp; with_reducible rfl)
  try simp only [Act.put, List.setIfInBounds_toArray, List.set_cons_zero, List.set_cons_succ, List.getElem_toArray, List.getElem_cons_succ, List.getElem_cons_zero]
  refine wpAnyH_take (i := 3) (v := ?_) rfl (by kernel_rfl) (by kernel_rfl) (by kernel_rfl) (fun _ _ _ h => h) (Or.inl ⟨by rfl, ?_⟩) (by assumption) ?_
  rotate_left
  · intro X9 hSw; (try dsimp only at hSw); (try simp only [List.getElem_toArray, List.getElem_cons_succ, List.getElem_cons_zero]); first | (go_simp; done) | (go_simp; with_reducible rfl)
  try simp only [Act.put, List.setIfInBounds_toArray, List.set_cons_zero, List.set_cons_succ, List.getElem_toArray, List.getElem_cons_succ, List.getElem_cons_zero]
  refine wpAnyH_take (i := 5) (v := ?_) rfl (by kernel_rfl) (by kernel_rfl) (by kernel_rfl) (fun _ _ _ h => h) (Or.inl ⟨by rfl, ?_⟩) (by assumption) ?_
  rotate_left
  · intro X9 hSw; (try dsimp only at hSw); (try simp only [List.getElem_toArray, List.getElem_cons_succ, List.getElem_cons_zero]); first | (go_simp; done) | (go_simp; with_reducible rfl)
  try simp only [Act.put, List.setIfInBounds_toArray, List.set_cons_zero, List.set_cons_succ, List.getElem_toArray, List.getElem_cons_succ, List.getElem_cons_zero]
  refine wpAnyH_take (i := 8) (v := .agg #[.string y.name, .string y.data, .int .i64 y.safe]) rfl (by kernel_rfl) (by kernel_rfl) (by kernel_rfl) (fun _ _ _ h => h) (yields_row8 (by rfl) 121 _ rfl c3 rfl 121 #[.string y.name, .string y.data, .int .i64 y.safe] _ (fun _ h => h) Tryz.underlying121 rfl sizeF5) (by assumption) ?_
  try simp only [Act.put, List.setIfInBounds_toArray, List.set_cons_zero, List.set_cons_succ, List.getElem_toArray, List.getElem_cons_succ, List.getElem_cons_zero]
  refine wpAnyH_take (i := 11) (v := ?_) rfl (by kernel_rfl) (by kernel_rfl) (by kernel_rfl) (fun _ _ _ h => h) (Or.inl ⟨by rfl, ?_⟩) (by assumption) ?_
  rotate_left
  · intro X9 hSw; (try dsimp only at hSw); (try simp only [List.getElem_toArray, List.getElem_cons_succ, List.getElem_cons_zero]); first | (go_simp; done) | (go_simp; with_reducible rfl)
  try simp only [Act.put, List.setIfInBounds_toArray, List.set_cons_zero, List.set_cons_succ, List.getElem_toArray, List.getElem_cons_succ, List.getElem_cons_zero]
  refine wpAnyH_take (i := 12) (v := ?_) rfl (by kernel_rfl) (by kernel_rfl) (by kernel_rfl) (fun _ _ _ h => h) (Or.inl ⟨by rfl, ?_⟩) (by assumption) ?_
  rotate_left
  · intro X9 hSw; (try dsimp only at hSw); (try simp only [List.getElem_toArray, List.getElem_cons_succ, List.getElem_cons_zero]); first | (go_simp; done) | (go_simp; with_reducible rfl)
  try simp only [Act.put, List.setIfInBounds_toArray, List.set_cons_zero, List.set_cons_succ, List.getElem_toArray, List.getElem_cons_succ, List.getElem_cons_zero]
  refine wpAnyH_take (i := 13) (v := ?_) rfl (by kernel_rfl) (by kernel_rfl) (by kernel_rfl) (fun _ _ _ h => h) (Or.inl ⟨by rfl, ?_⟩) (by assumption) ?_
  rotate_left
  · intro X9 hSw; (try dsimp only at hSw); (try simp only [List.getElem_toArray, List.getElem_cons_succ, List.getElem_cons_zero]); first | (go_simp; done) | (go_simp; with_reducible rfl)
  try simp only [Act.put, List.setIfInBounds_toArray, List.set_cons_zero, List.set_cons_succ, List.getElem_toArray, List.getElem_cons_succ, List.getElem_cons_zero]
  refine wpAnyH_take (i := 15) (v := ?_) rfl (by kernel_rfl) (by kernel_rfl) (by kernel_rfl) (fun _ _ _ h => h) (Or.inl ⟨by rfl, ?_⟩) (by assumption) ?_
  rotate_left
  · intro X9 hSw; (try dsimp only at hSw); (try simp only [List.getElem_toArray, List.getElem_cons_succ, List.getElem_cons_zero]); first | (go_simp; done) | (go_simp; with_reducible rfl)
  try simp only [Act.put, List.setIfInBounds_toArray, List.set_cons_zero, List.set_cons_succ, List.getElem_toArray, List.getElem_cons_succ, List.getElem_cons_zero]
  refine wpAnyH_ready (rs := [4, 9, 14]) (by kernel_rfl) (by simp) (AllReadyH.cons rfl (fun K hK => ?_) (AllReadyH.cons rfl (fun K hK => ?_) (AllReadyH.cons rfl (fun K hK => ?_) (AllReadyH.nil))))
  · have cl1 := (hb0.cell (p := ⟨x, 1, none⟩) (show x < X.heap.size from hxX)).trans cX
    try simp only [List.getElem_toArray, List.getElem_cons_succ, List.getElem_cons_zero]
    go_simp
    refine hK.out _ _ ((hb0.block c3 hc3X).trans h3X) (fun hHeld => ?_)
    clear hK K
    try simp only [Act.put, List.setIfInBounds_toArray, List.set_cons_zero, List.set_cons_succ, List.getElem_toArray, List.getElem_cons_succ, List.getElem_cons_zero]
    refine wpAnyH_take (i := 6) (v := ?_) rfl (by kernel_rfl) (by kernel_rfl) (by kernel_rfl) (fun _ _ _ h => h) (Or.inl ⟨by rfl, ?_⟩) (by assumption) ?_
    rotate_left
    · intro X9 hSw; (try dsimp only at hSw); (try simp only [List.getElem_toArray, List.getElem_cons_succ, List.getElem_cons_zero]); first | (go_simp; done) | (go_simp; with_reducible rfl)
    try simp only [Act.put, List.setIfInBounds_toArray, List.set_cons_zero, List.set_cons_succ, List.getElem_toArray, List.getElem_cons_succ, List.getElem_cons_zero]
    refine wpAnyH_ready (rs := [7, 9, 14]) (by kernel_rfl) (by simp) (AllReadyH.cons rfl (fun K hK => ?_) (AllReadyH.cons rfl (fun K hK => ?_) (AllReadyH.cons rfl (fun K hK => ?_) (AllReadyH.nil))))
    · refine step_append_any (X.drew) rfl (.const (.slice none 0 0)) (.tmp 34) 89 rfl X.heap.size 121 i0 z0 3 40 Tryz.underlying89 hinf hz0 hz1 hz2 hz3 (by decide) (.slice none 0 0) 0 [] (by rfl) (World.ownsRow_nil _ _ _ _) X.heap.size A j _ (cellsOf (P.take j)) (by rfl) (HP.out.below hb0) (cellsOf_one _ oneF5) (by unfold maxLen; omega) (by omega) hb0.size ?_
      intro v2 w2 ho2 hg2 hl2
      rw [Nat.zero_add, List.nil_append] at ho2
      have hb2 := hb0.grown hg2 hb0.size (fun q hq => by simp [Value.ownBlock] at hq)
      have hsz2 := hb2.size
      clear hg2 hl2
      refine hK.out _ _ ((hb2.block c3 hc3X).trans h3X) (fun hHeld => ?_)
      clear hK K
      try simp only [Act.put, List.setIfInBounds_toArray, List.set_cons_zero, List.set_cons_succ, List.getElem_toArray, List.getElem_cons_succ, List.getElem_cons_zero]
      refine wpAnyH_ready (rs := [9, 14]) (by kernel_rfl) (by simp) (AllReadyH.cons rfl (fun K hK => ?_) (AllReadyH.cons rfl (fun K hK => ?_) (AllReadyH.nil)))
      · have hb3 := hb2.alloc hb2.size (.cells #[.string y.name, .string y.data, .int .i64 y.safe] 121)
        try simp only [List.getElem_toArray, List.getElem_cons_succ, List.getElem_cons_zero]
        go_simp
        refine hK.out _ _ ((hb3.block c3 hc3X).trans h3X) (fun hHeld => ?_)
        clear hK K
        try simp only [Act.put, List.setIfInBounds_toArray, List.set_cons_zero, List.set_cons_succ, List.getElem_toArray, List.getElem_cons_succ, List.getElem_cons_zero]
        have hsz3 := hb3.size
        have hn3 : Reads (w2.alloc (.cells #[.string y.name, .string y.data, .int .i64 y.safe] 121)) (w2.heap.size + 1) 3 (some ⟨w2.heap.size, 0, none⟩) 1 [.string y.name, .string y.data, .int .i64 y.safe] := reads_newN w2 [.string y.name, .string y.data, .int .i64 y.safe] 121 #[.string y.name, .string y.data, .int .i64 y.safe] rfl (N := 3) rfl
        have ho3 := ho2.alloc (.cells #[.string y.name, .string y.data, .int .i64 y.safe] 121)
        refine wpAnyH_ready (rs := [10, 14]) (by kernel_rfl) (by simp) (AllReadyH.cons rfl (fun K hK => ?_) (AllReadyH.cons rfl (fun K hK => ?_) (AllReadyH.nil)))
        · refine step_append_any ((w2.alloc (.cells #[.string y.name, .string y.data, .int .i64 y.safe] 121))) rfl (.tmp 35) (.tmp 37) 89 rfl X.heap.size 121 i0 z0 3 40 Tryz.underlying89 hinf hz0 hz1 hz2 hz3 (by decide) v2 j (cellsOf (P.take j)) (by rfl) ho3 (w2.heap.size + 1) (some ⟨w2.heap.size, 0, none⟩) 1 1 [.string y.name, .string y.data, .int .i64 y.safe] (by rfl) hn3 (oneF5 y) (by unfold maxLen; omega) (by omega) hb3.size ?_
          intro v4 w4 ho4 hg4 hl4
          have hb4 := hb3.grown hg4 hb3.size (fun q hq => (ho3.lt q hq).1)
          have hsz4 := hb4.size
          clear hg4 hl4
          refine hK.out _ _ ((hb4.block c3 hc3X).trans h3X) (fun hHeld => ?_)
          clear hK K
          try simp only [Act.put, List.setIfInBounds_toArray, List.set_cons_zero, List.set_cons_succ, List.getElem_toArray, List.getElem_cons_succ, List.getElem_cons_zero]
          refine wpAnyH_ready (rs := [14]) (by kernel_rfl) (by simp) (AllReadyH.cons rfl (fun K hK => ?_) (AllReadyH.nil))
          have cl5 := (hb4.cell (p := ⟨x, 1, none⟩) (show x < X.heap.size from hxX)).trans cX
          try simp only [List.getElem_toArray, List.getElem_cons_succ, List.getElem_cons_zero]
          go_simp
          refine hK.out _ _ ((hb4.block c3 hc3X).trans h3X) (fun hHeld => ?_)
          clear hK K
          try simp only [Act.put, List.setIfInBounds_toArray, List.set_cons_zero, List.set_cons_succ, List.getElem_toArray, List.getElem_cons_succ, List.getElem_cons_zero]
          refine wpAnyH_take (i := 16) (v := ?_) rfl (by kernel_rfl) (by kernel_rfl) (by kernel_rfl) (fun _ _ _ h => h) (Or.inl ⟨by rfl, ?_⟩) (by assumption) ?_
          rotate_left
          · intro X9 hSw; (try dsimp only at hSw); (try simp only [List.getElem_toArray, List.getElem_cons_succ, List.getElem_cons_zero]); first | (go_simp; done) | (go_simp; with_reducible rfl)
          try simp only [Act.put, List.setIfInBounds_toArray, List.set_cons_zero, List.set_cons_succ, List.getElem_toArray, List.getElem_cons_succ, List.getElem_cons_zero]
          refine wpAnyH_ready (rs := [17]) (by kernel_rfl) (by simp) (AllReadyH.cons rfl (fun K hK => ?_) (AllReadyH.nil))
          refine step_append_any (w4) rfl (.tmp 38) (.tmp 44) 89 rfl X.heap.size 121 i0 z0 3 40 Tryz.underlying89 hinf hz0 hz1 hz2 hz3 (by decide) v4 (j + 1) (cellsOf (P.take j) ++ [.string y.name, .string y.data, .int .i64 y.safe]) (by rfl) ho4 X.heap.size _ (n - j) _ (cellsOf (P.drop j)) (by rfl) (HD.out.below hb4) (cellsOf_one _ oneF5) (by unfold maxLen; omega) (by omega) hb4.size ?_
          intro v6 w6 ho6 hg6 hl6
          have hb6 := hb4.grown hg6 hb4.size (fun q hq => (ho4.lt q hq).1)
          have hsz6 := hb6.size
          obtain ⟨A9, c9, rfl, hc9⟩ := own_form ho6
          clear hg6 hl6
          refine hK.out _ _ ((hb6.block c3 hc3X).trans h3X) (fun hHeld => ?_)
          clear hK K
          try simp only [Act.put, List.setIfInBounds_toArray, List.set_cons_zero, List.set_cons_succ, List.getElem_toArray, List.getElem_cons_succ, List.getElem_cons_zero]
          refine wpAnyH_take (i := 18) (v := ?_) rfl (by kernel_rfl) (by kernel_rfl) (by kernel_rfl) (fun _ _ _ h => h) (Or.inl ⟨by rfl, ?_⟩) (by assumption) ?_
          rotate_left
          · intro X9 hSw; (try dsimp only at hSw); (try simp only [List.getElem_toArray, List.getElem_cons_succ, List.getElem_cons_zero]); first | (go_simp; done) | (go_simp; with_reducible rfl)
          try simp only [Act.put, List.setIfInBounds_toArray, List.set_cons_zero, List.set_cons_succ, List.getElem_toArray, List.getElem_cons_succ, List.getElem_cons_zero]
          refine wpAnyH_take (i := 19) (v := ?_) rfl (by kernel_rfl) (by kernel_rfl) (by kernel_rfl) (fun _ _ _ h => h) (Or.inl ⟨by rfl, ?_⟩) (by assumption) ?_
          rotate_left
          · intro X9 hSw; (try dsimp only at hSw); (try simp only [List.getElem_toArray, List.getElem_cons_succ, List.getElem_cons_zero]); first | (go_simp; done) | (go_simp; with_reducible rfl)
          try simp only [Act.put, List.setIfInBounds_toArray, List.set_cons_zero, List.set_cons_succ, List.getElem_toArray, List.getElem_cons_succ, List.getElem_cons_zero]
          refine wpAnyH_ready (rs := [20]) (by kernel_rfl) (by simp) (AllReadyH.cons rfl (fun K hK => ?_) (AllReadyH.nil))
          have cl7 := (hb6.cell (p := ⟨x, 1, none⟩) (show x < X.heap.size from hxX)).trans cX
          have fl7 : w6.frozen? ⟨x, 1, none⟩ = false := (HRK.out.below hb6).frozen 1
          try simp only [List.getElem_toArray, List.getElem_cons_succ, List.getElem_cons_zero]
          go_simp
          refine hK.out _ _ ((Below.heap_setCell _ ⟨x, 1, none⟩ _ _ hx3).trans ((hb6.block c3 hc3X).trans h3X)) (fun hHeld => ?_)
          clear hK K
          try simp only [Act.put, List.setIfInBounds_toArray, List.set_cons_zero, List.set_cons_succ, List.getElem_toArray, List.getElem_cons_succ, List.getElem_cons_zero]
          refine wpAnyH_done (by kernel_rfl) ?_ _
          have HROW9 : w6.ownsRow X.heap.size 121 3 (.slice A9 (j + 1 + (n - j)) c9) (j + 1 + (n - j)) (cellsOf (insK P y)) := by
            rw [HIN.out, cellsOf_app, cellsOf_app]
            exact ho6
          have HEND := Lib.hid ((HRK.out.below hb6).setL HROW9 HIL.out (show x < X.heap.size from hxX))
          have HMV9 := Lib.hid (mv_row (x := x) (S := S) HXS.out (HXW.out.trans (hb6.mono HXW.out.size)) (fun k hk => Nat.le_trans HXW.out.size (HROW9.lt k hk).1) 1)
          clear HROW9 ho6 cX h3X
          go_wp2
          all_goals
            go_end0
            first | exact ⟨rfl, _, HEND.out, HMV9.out⟩ | exact ⟨_, rfl, HEND.out, HMV9.out⟩
        · have cl4 := (hb3.cell (p := ⟨x, 1, none⟩) (show x < X.heap.size from hxX)).trans cX
          try simp only [List.getElem_toArray, List.getElem_cons_succ, List.getElem_cons_zero]
          go_simp
          refine hK.out _ _ ((hb3.block c3 hc3X).trans h3X) (fun hHeld => ?_)
          clear hK K
          try simp only [Act.put, List.setIfInBounds_toArray, List.set_cons_zero, List.set_cons_succ, List.getElem_toArray, List.getElem_cons_succ, List.getElem_cons_zero]
          refine wpAnyH_take (i := 16) (v := ?_) rfl (by kernel_rfl) (by kernel_rfl) (by kernel_rfl) (fun _ _ _ h => h) (Or.inl ⟨by rfl, ?_⟩) (by assumption) ?_
          rotate_left
          · intro X9 hSw; (try dsimp only at hSw); (try simp only [List.getElem_toArray, List.getElem_cons_succ, List.getElem_cons_zero]); first | (go_simp; done) | (go_simp; with_reducible rfl)
          try simp only [Act.put, List.setIfInBounds_toArray, List.set_cons_zero, List.set_cons_succ, List.getElem_toArray, List.getElem_cons_succ, List.getElem_cons_zero]
          refine wpAnyH_ready (rs := [10]) (by kernel_rfl) (by simp) (AllReadyH.cons rfl (fun K hK => ?_) (AllReadyH.nil))
          refine step_append_any ((w2.alloc (.cells #[.string y.name, .string y.data, .int .i64 y.safe] 121))) rfl (.tmp 35) (.tmp 37) 89 rfl X.heap.size 121 i0 z0 3 40 Tryz.underlying89 hinf hz0 hz1 hz2 hz3 (by decide) v2 j (cellsOf (P.take j)) (by rfl) ho3 (w2.heap.size + 1) (some ⟨w2.heap.size, 0, none⟩) 1 1 [.string y.name, .string y.data, .int .i64 y.safe] (by rfl) hn3 (oneF5 y) (by unfold maxLen; omega) (by omega) hb3.size ?_
          intro v5 w5 ho5 hg5 hl5
          have hb5 := hb3.grown hg5 hb3.size (fun q hq => (ho3.lt q hq).1)
          have hsz5 := hb5.size
          clear hg5 hl5
          refine hK.out _ _ ((hb5.block c3 hc3X).trans h3X) (fun hHeld => ?_)
          clear hK K
          try simp only [Act.put, List.setIfInBounds_toArray, List.set_cons_zero, List.set_cons_succ, List.getElem_toArray, List.getElem_cons_succ, List.getElem_cons_zero]
          refine wpAnyH_ready (rs := [17]) (by kernel_rfl) (by simp) (AllReadyH.cons rfl (fun K hK => ?_) (AllReadyH.nil))
          refine step_append_any (w5) rfl (.tmp 38) (.tmp 44) 89 rfl X.heap.size 121 i0 z0 3 40 Tryz.underlying89 hinf hz0 hz1 hz2 hz3 (by decide) v5 (j + 1) (cellsOf (P.take j) ++ [.string y.name, .string y.data, .int .i64 y.safe]) (by rfl) ho5 X.heap.size _ (n - j) _ (cellsOf (P.drop j)) (by rfl) (HD.out.below hb5) (cellsOf_one _ oneF5) (by unfold maxLen; omega) (by omega) hb5.size ?_
          intro v6 w6 ho6 hg6 hl6
          have hb6 := hb5.grown hg6 hb5.size (fun q hq => (ho5.lt q hq).1)
          have hsz6 := hb6.size
          obtain ⟨A9, c9, rfl, hc9⟩ := own_form ho6
          clear hg6 hl6
          refine hK.out _ _ ((hb6.block c3 hc3X).trans h3X) (fun hHeld => ?_)
          clear hK K
          try simp only [Act.put, List.setIfInBounds_toArray, List.set_cons_zero, List.set_cons_succ, List.getElem_toArray, List.getElem_cons_succ, List.getElem_cons_zero]
          refine wpAnyH_take (i := 18) (v := ?_) rfl (by kernel_rfl) (by kernel_rfl) (by kernel_rfl) (fun _ _ _ h => h) (Or.inl ⟨by rfl, ?_⟩) (by assumption) ?_
          rotate_left
          · intro X9 hSw; (try dsimp only at hSw); (try simp only [List.getElem_toArray, List.getElem_cons_succ, List.getElem_cons_zero]); first | (go_simp; done) | (go_simp; with_reducible rfl)
          try simp only [Act.put, List.setIfInBounds_toArray, List.set_cons_zero, List.set_cons_succ, List.getElem_toArray, List.getElem_cons_succ, List.getElem_cons_zero]
          refine wpAnyH_take (i := 19) (v := ?_) rfl (by kernel_rfl) (by kernel_rfl) (by kernel_rfl) (fun _ _ _ h => h) (Or.inl ⟨by rfl, ?_⟩) (by assumption) ?_
          rotate_left
          · intro X9 hSw; (try dsimp only at hSw); (try simp only [List.getElem_toArray, List.getElem_cons_succ, List.getElem_cons_zero]); first | (go_simp; done) | (go_simp; with_reducible rfl)
          try simp only [Act.put, List.setIfInBounds_toArray, List.set_cons_zero, List.set_cons_succ, List.getElem_toArray, List.getElem_cons_succ, List.getElem_cons_zero]
          refine wpAnyH_ready (rs := [20]) (by kernel_rfl) (by simp) (AllReadyH.cons rfl (fun K hK => ?_) (AllReadyH.nil))
          have cl7 := (hb6.cell (p := ⟨x, 1, none⟩) (show x < X.heap.size from hxX)).trans cX
          have fl7 : w6.frozen? ⟨x, 1, none⟩ = false := (HRK.out.below hb6).frozen 1
          try simp only [List.getElem_toArray, List.getElem_cons_succ, List.getElem_cons_zero]
          go_simp
          refine hK.out _ _ ((Below.heap_setCell _ ⟨x, 1, none⟩ _ _ hx3).trans ((hb6.block c3 hc3X).trans h3X)) (fun hHeld => ?_)
          clear hK K
          try simp only [Act.put, List.setIfInBounds_toArray, List.set_cons_zero, List.set_cons_succ, List.getElem_toArray, List.getElem_cons_succ, List.getElem_cons_zero]
          refine wpAnyH_done (by kernel_rfl) ?_ _
          have HROW9 : w6.ownsRow X.heap.size 121 3 (.slice A9 (j + 1 + (n - j)) c9) (j + 1 + (n - j)) (cellsOf (insK P y)) := by
            rw [HIN.out, cellsOf_app, cellsOf_app]
            exact ho6
          have HEND := Lib.hid ((HRK.out.below hb6).setL HROW9 HIL.out (show x < X.heap.size from hxX))
          have HMV9 := Lib.hid (mv_row (x := x) (S := S) HXS.out (HXW.out.trans (hb6.mono HXW.out.size)) (fun k hk => Nat.le_trans HXW.out.size (HROW9.lt k hk).1) 1)
          clear HROW9 ho6 cX h3X
          go_wp2
          all_goals
            go_end0
            first | exact ⟨rfl, _, HEND.out, HMV9.out⟩ | exact ⟨_, rfl, HEND.out, HMV9.out⟩
      · have cl3 := (hb2.cell (p := ⟨x, 1, none⟩) (show x < X.heap.size from hxX)).trans cX
        try simp only [List.getElem_toArray, List.getElem_cons_succ, List.getElem_cons_zero]
        go_simp
        refine hK.out _ _ ((hb2.block c3 hc3X).trans h3X) (fun hHeld => ?_)
        clear hK K
        try simp only [Act.put, List.setIfInBounds_toArray, List.set_cons_zero, List.set_cons_succ, List.getElem_toArray, List.getElem_cons_succ, List.getElem_cons_zero]
        refine wpAnyH_take (i := 16) (v := ?_) rfl (by kernel_rfl) (by kernel_rfl) (by kernel_rfl) (fun _ _ _ h => h) (Or.inl ⟨by rfl, ?_⟩) (by assumption) ?_
        rotate_left
        · intro X9 hSw; (try dsimp only at hSw); (try simp only [List.getElem_toArray, List.getElem_cons_succ, List.getElem_cons_zero]); first | (go_simp; done) | (go_simp; with_reducible rfl)
        try simp only [Act.put, List.setIfInBounds_toArray, List.set_cons_zero, List.set_cons_succ, List.getElem_toArray, List.getElem_cons_succ, List.getElem_cons_zero]
        refine wpAnyH_ready (rs := [9]) (by kernel_rfl) (by simp) (AllReadyH.cons rfl (fun K hK => ?_) (AllReadyH.nil))
        have hb4 := hb2.alloc hb2.size (.cells #[.string y.name, .string y.data, .int .i64 y.safe] 121)
        try simp only [List.getElem_toArray, List.getElem_cons_succ, List.getElem_cons_zero]
        go_simp
        refine hK.out _ _ ((hb4.block c3 hc3X).trans h3X) (fun hHeld => ?_)
        clear hK K
        try simp only [Act.put, List.setIfInBounds_toArray, List.set_cons_zero, List.set_cons_succ, List.getElem_toArray, List.getElem_cons_succ, List.getElem_cons_zero]
        have hsz4 := hb4.size
        have hn4 : Reads (w2.alloc (.cells #[.string y.name, .string y.data, .int .i64 y.safe] 121)) (w2.heap.size + 1) 3 (some ⟨w2.heap.size, 0, none⟩) 1 [.string y.name, .string y.data, .int .i64 y.safe] := reads_newN w2 [.string y.name, .string y.data, .int .i64 y.safe] 121 #[.string y.name, .string y.data, .int .i64 y.safe] rfl (N := 3) rfl
        have ho4 := ho2.alloc (.cells #[.string y.name, .string y.data, .int .i64 y.safe] 121)
        refine wpAnyH_ready (rs := [10]) (by kernel_rfl) (by simp) (AllReadyH.cons rfl (fun K hK => ?_) (AllReadyH.nil))
        refine step_append_any ((w2.alloc (.cells #[.string y.name, .string y.data, .int .i64 y.safe] 121))) rfl (.tmp 35) (.tmp 37) 89 rfl X.heap.size 121 i0 z0 3 40 Tryz.underlying89 hinf hz0 hz1 hz2 hz3 (by decide) v2 j (cellsOf (P.take j)) (by rfl) ho4 (w2.heap.size + 1) (some ⟨w2.heap.size, 0, none⟩) 1 1 [.string y.name, .string y.data, .int .i64 y.safe] (by rfl) hn4 (oneF5 y) (by unfold maxLen; omega) (by omega) hb4.size ?_
        intro v5 w5 ho5 hg5 hl5
        have hb5 := hb4.grown hg5 hb4.size (fun q hq => (ho4.lt q hq).1)
        have hsz5 := hb5.size
        clear hg5 hl5
        refine hK.out _ _ ((hb5.block c3 hc3X).trans h3X) (fun hHeld => ?_)
        clear hK K
        try simp only [Act.put, List.setIfInBounds_toArray, List.set_cons_zero, List.set_cons_succ, List.getElem_toArray, List.getElem_cons_succ, List.getElem_cons_zero]
        refine wpAnyH_ready (rs := [17]) (by kernel_rfl) (by simp) (AllReadyH.cons rfl (fun K hK => ?_) (AllReadyH.nil))
        refine step_append_any (w5) rfl (.tmp 38) (.tmp 44) 89 rfl X.heap.size 121 i0 z0 3 40 Tryz.underlying89 hinf hz0 hz1 hz2 hz3 (by decide) v5 (j + 1) (cellsOf (P.take j) ++ [.string y.name, .string y.data, .int .i64 y.safe]) (by rfl) ho5 X.heap.size _ (n - j) _ (cellsOf (P.drop j)) (by rfl) (HD.out.below hb5) (cellsOf_one _ oneF5) (by unfold maxLen; omega) (by omega) hb5.size ?_
        intro v6 w6 ho6 hg6 hl6
        have hb6 := hb5.grown hg6 hb5.size (fun q hq => (ho5.lt q hq).1)
        have hsz6 := hb6.size
        obtain ⟨A9, c9, rfl, hc9⟩ := own_form ho6
        clear hg6 hl6
        refine hK.out _ _ ((hb6.block c3 hc3X).trans h3X) (fun hHeld => ?_)
        clear hK K
        try simp only [Act.put, List.setIfInBounds_toArray, List.set_cons_zero, List.set_cons_succ, List.getElem_toArray, List.getElem_cons_succ, List.getElem_cons_zero]
        refine wpAnyH_take (i := 18) (v := ?_) rfl (by kernel_rfl) (by kernel_rfl) (by kernel_rfl) (fun _ _ _ h => h) (Or.inl ⟨by rfl, ?_⟩) (by assumption) ?_
        rotate_left
        · intro X9 hSw; (try dsimp only at hSw); (try simp only [List.getElem_toArray, List.getElem_cons_succ, List.getElem_cons_zero]); first | (go_simp; done) | (go_simp; with_reducible rfl)
        try simp only [Act.put, List.setIfInBounds_toArray, List.set_cons_zero, List.set_cons_succ, List.getElem_toArray, List.getElem_cons_succ, List.getElem_cons_zero]
        refine wpAnyH_take (i := 19) (v := ?_) rfl (by kernel_rfl) (by kernel_rfl) (by kernel_rfl) (fun _ _ _ h => h) (Or.inl ⟨by rfl, ?_⟩) (by assumption) ?_
        rotate_left
        · intro X9 hSw; (try dsimp only at hSw); (try simp only [List.getElem_toArray, List.getElem_cons_succ, List.getElem_cons_zero]); first | (go_simp; done) | (go_simp; with_reducible rfl)
        try simp only [Act.put, List.setIfInBounds_toArray, List.set_cons_zero, List.set_cons_succ, List.getElem_toArray, List.getElem_cons_succ, List.getElem_cons_zero]
        refine wpAnyH_ready (rs := [20]) (by kernel_rfl) (by simp) (AllReadyH.cons rfl (fun K hK => ?_) (AllReadyH.nil))
        have cl7 := (hb6.cell (p := ⟨x, 1, none⟩) (show x < X.heap.size from hxX)).trans cX
        have fl7 : w6.frozen? ⟨x, 1, none⟩ = false := (HRK.out.below hb6).frozen 1
        try simp only [List.getElem_toArray, List.getElem_cons_succ, List.getElem_cons_zero]
        go_simp
        refine hK.out _ _ ((Below.heap_setCell _ ⟨x, 1, none⟩ _ _ hx3).trans ((hb6.block c3 hc3X).trans h3X)) (fun hHeld => ?_)
        clear hK K
        try simp only [Act.put, List.setIfInBounds_toArray, List.set_cons_zero, List.set_cons_succ, List.getElem_toArray, List.getElem_cons_succ, List.getElem_cons_zero]
        refine wpAnyH_done (by kernel_rfl) ?_ _
        have HROW9 : w6.ownsRow X.heap.size 121 3 (.slice A9 (j + 1 + (n - j)) c9) (j + 1 + (n - j)) (cellsOf (insK P y)) := by
          rw [HIN.out, cellsOf_app, cellsOf_app]
          exact ho6
        have HEND := Lib.hid ((HRK.out.below hb6).setL HROW9 HIL.out (show x < X.heap.size from hxX))
        have HMV9 := Lib.hid (mv_row (x := x) (S := S) HXS.out (HXW.out.trans (hb6.mono HXW.out.size)) (fun k hk => Nat.le_trans HXW.out.size (HROW9.lt k hk).1) 1)
        clear HROW9 ho6 cX h3X
        go_wp2
        all_goals
          go_end0
          first | exact ⟨rfl, _, HEND.out, HMV9.out⟩ | exact ⟨_, rfl, HEND.out, HMV9.out⟩
    · have hb2 := hb0.alloc hb0.size (.cells #[.string y.name, .string y.data, .int .i64 y.safe] 121)
      try simp only [List.getElem_toArray, List.getElem_cons_succ, List.getElem_cons_zero]
      go_simp
      refine hK.out _ _ ((hb2.block c3 hc3X).trans h3X) (fun hHeld => ?_)
      clear hK K
      try simp only [Act.put, List.setIfInBounds_toArray, List.set_cons_zero, List.set_cons_succ, List.getElem_toArray, List.getElem_cons_succ, List.getElem_cons_zero]
      have hsz2 := hb2.size
      have hn2 : Reads (X.drew.alloc (.cells #[.string y.name, .string y.data, .int .i64 y.safe] 121)) (X.heap.size + 1) 3 (some ⟨X.heap.size, 0, none⟩) 1 [.string y.name, .string y.data, .int .i64 y.safe] := reads_newN X.drew [.string y.name, .string y.data, .int .i64 y.safe] 121 #[.string y.name, .string y.data, .int .i64 y.safe] rfl (N := 3) rfl
      refine wpAnyH_ready (rs := [7, 14]) (by kernel_rfl) (by simp) (AllReadyH.cons rfl (fun K hK => ?_) (AllReadyH.cons rfl (fun K hK => ?_) (AllReadyH.nil)))
      · refine step_append_any ((X.drew.alloc (.cells #[.string y.name, .string y.data, .int .i64 y.safe] 121))) rfl (.const (.slice none 0 0)) (.tmp 34) 89 rfl X.heap.size 121 i0 z0 3 40 Tryz.underlying89 hinf hz0 hz1 hz2 hz3 (by decide) (.slice none 0 0) 0 [] (by rfl) (World.ownsRow_nil _ _ _ _) X.heap.size A j _ (cellsOf (P.take j)) (by rfl) (HP.out.below hb2) (cellsOf_one _ oneF5) (by unfold maxLen; omega) (by omega) hb2.size ?_
        intro v3 w3 ho3 hg3 hl3
        rw [Nat.zero_add, List.nil_append] at ho3
        have hb3 := hb2.grown hg3 hb2.size (fun q hq => by simp [Value.ownBlock] at hq)
        have hsz3 := hb3.size
        have hn3 := hn2.grown hg3 (by simp) (by simp [Value.ownBlock])
        clear hg3 hl3
        refine hK.out _ _ ((hb3.block c3 hc3X).trans h3X) (fun hHeld => ?_)
        clear hK K
        try simp only [Act.put, List.setIfInBounds_toArray, List.set_cons_zero, List.set_cons_succ, List.getElem_toArray, List.getElem_cons_succ, List.getElem_cons_zero]
        refine wpAnyH_ready (rs := [10, 14]) (by kernel_rfl) (by simp) (AllReadyH.cons rfl (fun K hK => ?_) (AllReadyH.cons rfl (fun K hK => ?_) (AllReadyH.nil)))
        · refine step_append_any (w3) rfl (.tmp 35) (.tmp 37) 89 rfl X.heap.size 121 i0 z0 3 40 Tryz.underlying89 hinf hz0 hz1 hz2 hz3 (by decide) v3 j (cellsOf (P.take j)) (by rfl) ho3 (X.heap.size + 1) (some ⟨X.heap.size, 0, none⟩) 1 1 [.string y.name, .string y.data, .int .i64 y.safe] (by rfl) hn3 (oneF5 y) (by unfold maxLen; omega) (by omega) hb3.size ?_
          intro v4 w4 ho4 hg4 hl4
          have hb4 := hb3.grown hg4 hb3.size (fun q hq => (ho3.lt q hq).1)
          have hsz4 := hb4.size
          clear hg4 hl4
          refine hK.out _ _ ((hb4.block c3 hc3X).trans h3X) (fun hHeld => ?_)
          clear hK K
          try simp only [Act.put, List.setIfInBounds_toArray, List.set_cons_zero, List.set_cons_succ, List.getElem_toArray, List.getElem_cons_succ, List.getElem_cons_zero]
          refine wpAnyH_ready (rs := [14]) (by kernel_rfl) (by simp) (AllReadyH.cons rfl (fun K hK => ?_) (AllReadyH.nil))
          have cl5 := (hb4.cell (p := ⟨x, 1, none⟩) (show x < X.heap.size from hxX)).trans cX
          try simp only [List.getElem_toArray, List.getElem_cons_succ, List.getElem_cons_zero]
          go_simp
          refine hK.out _ _ ((hb4.block c3 hc3X).trans h3X) (fun hHeld => ?_)
          clear hK K
          try simp only [Act.put, List.setIfInBounds_toArray, List.set_cons_zero, List.set_cons_succ, List.getElem_toArray, List.getElem_cons_succ, List.getElem_cons_zero]
          refine wpAnyH_take (i := 16) (v := ?_) rfl (by kernel_rfl) (by kernel_rfl) (by kernel_rfl) (fun _ _ _ h => h) (Or.inl ⟨by rfl, ?_⟩) (by assumption) ?_
          rotate_left
          · intro X9 hSw; (try dsimp only at hSw); (try simp only [List.getElem_toArray, List.getElem_cons_succ, List.getElem_cons_zero]); first | (go_simp; done) | (go_simp; with_reducible rfl)
          try simp only [Act.put, List.setIfInBounds_toArray, List.set_cons_zero, List.set_cons_succ, List.getElem_toArray, List.getElem_cons_succ, List.getElem_cons_zero]
          refine wpAnyH_ready (rs := [17]) (by kernel_rfl) (by simp) (AllReadyH.cons rfl (fun K hK => ?_) (AllReadyH.nil))
          refine step_append_any (w4) rfl (.tmp 38) (.tmp 44) 89 rfl X.heap.size 121 i0 z0 3 40 Tryz.underlying89 hinf hz0 hz1 hz2 hz3 (by decide) v4 (j + 1) (cellsOf (P.take j) ++ [.string y.name, .string y.data, .int .i64 y.safe]) (by rfl) ho4 X.heap.size _ (n - j) _ (cellsOf (P.drop j)) (by rfl) (HD.out.below hb4) (cellsOf_one _ oneF5) (by unfold maxLen; omega) (by omega) hb4.size ?_
          intro v6 w6 ho6 hg6 hl6
          have hb6 := hb4.grown hg6 hb4.size (fun q hq => (ho4.lt q hq).1)
          have hsz6 := hb6.size
          obtain ⟨A9, c9, rfl, hc9⟩ := own_form ho6
          clear hg6 hl6
          refine hK.out _ _ ((hb6.block c3 hc3X).trans h3X) (fun hHeld => ?_)
          clear hK K
          try simp only [Act.put, List.setIfInBounds_toArray, List.set_cons_zero, List.set_cons_succ, List.getElem_toArray, List.getElem_cons_succ, List.getElem_cons_zero]
          refine wpAnyH_take (i := 18) (v := ?_) rfl (by kernel_rfl) (by kernel_rfl) (by kernel_rfl) (fun _ _ _ h => h) (Or.inl ⟨by rfl, ?_⟩) (by assumption) ?_
          rotate_left
          · intro X9 hSw; (try dsimp only at hSw); (try simp only [List.getElem_toArray, List.getElem_cons_succ, List.getElem_cons_zero]); first | (go_simp; done) | (go_simp; with_reducible rfl)
          try simp only [Act.put, List.setIfInBounds_toArray, List.set_cons_zero, List.set_cons_succ, List.getElem_toArray, List.getElem_cons_succ, List.getElem_cons_zero]
          refine wpAnyH_take (i := 19) (v := ?_) rfl (by kernel_rfl) (by kernel_rfl) (by kernel_rfl) (fun _ _ _ h => h) (Or.inl ⟨by rfl, ?_⟩) (by assumption) ?_
          rotate_left
          · intro X9 hSw; (try dsimp only at hSw); (try simp only [List.getElem_toArray, List.getElem_cons_succ, List.getElem_cons_zero]); first | (go_simp; done) | (go_simp; with_reducible rfl)
          try simp only [Act.put, List.setIfInBounds_toArray, List.set_cons_zero, List.set_cons_succ, List.getElem_toArray, List.getElem_cons_succ, List.getElem_cons_zero]
          refine wpAnyH_ready (rs := [20]) (by kernel_rfl) (by simp) (AllReadyH.cons rfl (fun K hK => ?_) (AllReadyH.nil))
          have cl7 := (hb6.cell (p := ⟨x, 1, none⟩) (show x < X.heap.size from hxX)).trans cX
          have fl7 : w6.frozen? ⟨x, 1, none⟩ = false := (HRK.out.below hb6).frozen 1
          try simp only [List.getElem_toArray, List.getElem_cons_succ, List.getElem_cons_zero]
          go_simp
          refine hK.out _ _ ((Below.heap_setCell _ ⟨x, 1, none⟩ _ _ hx3).trans ((hb6.block c3 hc3X).trans h3X)) (fun hHeld => ?_)
          clear hK K
          try simp only [Act.put, List.setIfInBounds_toArray, List.set_cons_zero, List.set_cons_succ, List.getElem_toArray, List.getElem_cons_succ, List.getElem_cons_zero]
          refine wpAnyH_done (by kernel_rfl) ?_ _
          have HROW9 : w6.ownsRow X.heap.size 121 3 (.slice A9 (j + 1 + (n - j)) c9) (j + 1 + (n - j)) (cellsOf (insK P y)) := by
            rw [HIN.out, cellsOf_app, cellsOf_app]
            exact ho6
          have HEND := Lib.hid ((HRK.out.below hb6).setL HROW9 HIL.out (show x < X.heap.size from hxX))
          have HMV9 := Lib.hid (mv_row (x := x) (S := S) HXS.out (HXW.out.trans (hb6.mono HXW.out.size)) (fun k hk => Nat.le_trans HXW.out.size (HROW9.lt k hk).1) 1)
          clear HROW9 ho6 cX h3X
          go_wp2
          all_goals
            go_end0
            first | exact ⟨rfl, _, HEND.out, HMV9.out⟩ | exact ⟨_, rfl, HEND.out, HMV9.out⟩
        · have cl4 := (hb3.cell (p := ⟨x, 1, none⟩) (show x < X.heap.size from hxX)).trans cX
          try simp only [List.getElem_toArray, List.getElem_cons_succ, List.getElem_cons_zero]
          go_simp
          refine hK.out _ _ ((hb3.block c3 hc3X).trans h3X) (fun hHeld => ?_)
          clear hK K
          try simp only [Act.put, List.setIfInBounds_toArray, List.set_cons_zero, List.set_cons_succ, List.getElem_toArray, List.getElem_cons_succ, List.getElem_cons_zero]
          refine wpAnyH_take (i := 16) (v := ?_) rfl (by kernel_rfl) (by kernel_rfl) (by kernel_rfl) (fun _ _ _ h => h) (Or.inl ⟨by rfl, ?_⟩) (by assumption) ?_
          rotate_left
          · intro X9 hSw; (try dsimp only at hSw); (try simp only [List.getElem_toArray, List.getElem_cons_succ, List.getElem_cons_zero]); first | (go_simp; done) | (go_simp; with_reducible rfl)
          try simp only [Act.put, List.setIfInBounds_toArray, List.set_cons_zero, List.set_cons_succ, List.getElem_toArray, List.getElem_cons_succ, List.getElem_cons_zero]
          refine wpAnyH_ready (rs := [10]) (by kernel_rfl) (by simp) (AllReadyH.cons rfl (fun K hK => ?_) (AllReadyH.nil))
          refine step_append_any (w3) rfl (.tmp 35) (.tmp 37) 89 rfl X.heap.size 121 i0 z0 3 40 Tryz.underlying89 hinf hz0 hz1 hz2 hz3 (by decide) v3 j (cellsOf (P.take j)) (by rfl) ho3 (X.heap.size + 1) (some ⟨X.heap.size, 0, none⟩) 1 1 [.string y.name, .string y.data, .int .i64 y.safe] (by rfl) hn3 (oneF5 y) (by unfold maxLen; omega) (by omega) hb3.size ?_
          intro v5 w5 ho5 hg5 hl5
          have hb5 := hb3.grown hg5 hb3.size (fun q hq => (ho3.lt q hq).1)
          have hsz5 := hb5.size
          clear hg5 hl5
          refine hK.out _ _ ((hb5.block c3 hc3X).trans h3X) (fun hHeld => ?_)
          clear hK K
          try simp only [Act.put, List.setIfInBounds_toArray, List.set_cons_zero, List.set_cons_succ, List.getElem_toArray, List.getElem_cons_succ, List.getElem_cons_zero]
          refine wpAnyH_ready (rs := [17]) (by kernel_rfl) (by simp) (AllReadyH.cons rfl (fun K hK => ?_) (AllReadyH.nil))
          refine step_append_any (w5) rfl (.tmp 38) (.tmp 44) 89 rfl X.heap.size 121 i0 z0 3 40 Tryz.underlying89 hinf hz0 hz1 hz2 hz3 (by decide) v5 (j + 1) (cellsOf (P.take j) ++ [.string y.name, .string y.data, .int .i64 y.safe]) (by rfl) ho5 X.heap.size _ (n - j) _ (cellsOf (P.drop j)) (by rfl) (HD.out.below hb5) (cellsOf_one _ oneF5) (by unfold maxLen; omega) (by omega) hb5.size ?_
          intro v6 w6 ho6 hg6 hl6
          have hb6 := hb5.grown hg6 hb5.size (fun q hq => (ho5.lt q hq).1)
          have hsz6 := hb6.size
          obtain ⟨A9, c9, rfl, hc9⟩ := own_form ho6
          clear hg6 hl6
          refine hK.out _ _ ((hb6.block c3 hc3X).trans h3X) (fun hHeld => ?_)
          clear hK K
          try simp only [Act.put, List.setIfInBounds_toArray, List.set_cons_zero, List.set_cons_succ, List.getElem_toArray, List.getElem_cons_succ, List.getElem_cons_zero]
          refine wpAnyH_take (i := 18) (v := ?_) rfl (by kernel_rfl) (by kernel_rfl) (by kernel_rfl) (fun _ _ _ h => h) (Or.inl ⟨by rfl, ?_⟩) (by assumption) ?_
          rotate_left
          · intro X9 hSw; (try dsimp only at hSw); (try simp only [List.getElem_toArray, List.getElem_cons_succ, List.getElem_cons_zero]); first | (go_simp; done) | (go_simp; with_reducible rfl)
          try simp only [Act.put, List.setIfInBounds_toArray, List.set_cons_zero, List.set_cons_succ, List.getElem_toArray, List.getElem_cons_succ, List.getElem_cons_zero]
          refine wpAnyH_take (i := 19) (v := ?_) rfl (by kernel_rfl) (by kernel_rfl) (by kernel_rfl) (fun _ _ _ h => h) (Or.inl ⟨by rfl, ?_⟩) (by assumption) ?_
          rotate_left
          · intro X9 hSw; (try dsimp only at hSw); (try simp only [List.getElem_toArray, List.getElem_cons_succ, List.getElem_cons_zero]); first | (go_simp; done) | (go_simp; with_reducible rfl)
          try simp only [Act.put, List.setIfInBounds_toArray, List.set_cons_zero, List.set_cons_succ, List.getElem_toArray, List.getElem_cons_succ, List.getElem_cons_zero]
          refine wpAnyH_ready (rs := [20]) (by kernel_rfl) (by simp) (AllReadyH.cons rfl (fun K hK => ?_) (AllReadyH.nil))
          have cl7 := (hb6.cell (p := ⟨x, 1, none⟩) (show x < X.heap.size from hxX)).trans cX
          have fl7 : w6.frozen? ⟨x, 1, none⟩ = false := (HRK.out.below hb6).frozen 1
          try simp only [List.getElem_toArray, List.getElem_cons_succ, List.getElem_cons_zero]
          go_simp
          refine hK.out _ _ ((Below.heap_setCell _ ⟨x, 1, none⟩ _ _ hx3).trans ((hb6.block c3 hc3X).trans h3X)) (fun hHeld => ?_)
          clear hK K
          try simp only [Act.put, List.setIfInBounds_toArray, List.set_cons_zero, List.set_cons_succ, List.getElem_toArray, List.getElem_cons_succ, List.getElem_cons_zero]
          refine wpAnyH_done (by kernel_rfl) ?_ _
          have HROW9 : w6.ownsRow X.heap.size 121 3 (.slice A9 (j + 1 + (n - j)) c9) (j + 1 + (n - j)) (cellsOf (insK P y)) := by
            rw [HIN.out, cellsOf_app, cellsOf_app]
            exact ho6
          have HEND := Lib.hid ((HRK.out.below hb6).setL HROW9 HIL.out (show x < X.heap.size from hxX))
          have HMV9 := Lib.hid (mv_row (x := x) (S := S) HXS.out (HXW.out.trans (hb6.mono HXW.out.size)) (fun k hk => Nat.le_trans HXW.out.size (HROW9.lt k hk).1) 1)
          clear HROW9 ho6 cX h3X
          go_wp2
          all_goals
            go_end0
            first | exact ⟨rfl, _, HEND.out, HMV9.out⟩ | exact ⟨_, rfl, HEND.out, HMV9.out⟩
      · have cl3 := (hb2.cell (p := ⟨x, 1, none⟩) (show x < X.heap.size from hxX)).trans cX
        try simp only [List.getElem_toArray, List.getElem_cons_succ, List.getElem_cons_zero]
        go_simp
        refine hK.out _ _ ((hb2.block c3 hc3X).trans h3X) (fun hHeld => ?_)
        clear hK K
        try simp only [Act.put, List.setIfInBounds_toArray, List.set_cons_zero, List.set_cons_succ, List.getElem_toArray, List.getElem_cons_succ, List.getElem_cons_zero]
        refine wpAnyH_take (i := 16) (v := ?_) rfl (by kernel_rfl) (by kernel_rfl) (by kernel_rfl) (fun _ _ _ h => h) (Or.inl ⟨by rfl, ?_⟩) (by assumption) ?_
        rotate_left
        · intro X9 hSw; (try dsimp only at hSw); (try simp only [List.getElem_toArray, List.getElem_cons_succ, List.getElem_cons_zero]); first | (go_simp; done) | (go_simp; with_reducible rfl)
        try simp only [Act.put, List.setIfInBounds_toArray, List.set_cons_zero, List.set_cons_succ, List.getElem_toArray, List.getElem_cons_succ, List.getElem_cons_zero]
        refine wpAnyH_ready (rs := [7]) (by kernel_rfl) (by simp) (AllReadyH.cons rfl (fun K hK => ?_) (AllReadyH.nil))
        refine step_append_any ((X.drew.alloc (.cells #[.string y.name, .string y.data, .int .i64 y.safe] 121))) rfl (.const (.slice none 0 0)) (.tmp 34) 89 rfl X.heap.size 121 i0 z0 3 40 Tryz.underlying89 hinf hz0 hz1 hz2 hz3 (by decide) (.slice none 0 0) 0 [] (by rfl) (World.ownsRow_nil _ _ _ _) X.heap.size A j _ (cellsOf (P.take j)) (by rfl) (HP.out.below hb2) (cellsOf_one _ oneF5) (by unfold maxLen; omega) (by omega) hb2.size ?_
        intro v4 w4 ho4 hg4 hl4
        rw [Nat.zero_add, List.nil_append] at ho4
        have hb4 := hb2.grown hg4 hb2.size (fun q hq => by simp [Value.ownBlock] at hq)
        have hsz4 := hb4.size
        have hn4 := hn2.grown hg4 (by simp) (by simp [Value.ownBlock])
        clear hg4 hl4
        refine hK.out _ _ ((hb4.block c3 hc3X).trans h3X) (fun hHeld => ?_)
        clear hK K
        try simp only [Act.put, List.setIfInBounds_toArray, List.set_cons_zero, List.set_cons_succ, List.getElem_toArray, List.getElem_cons_succ, List.getElem_cons_zero]
        refine wpAnyH_ready (rs := [10]) (by kernel_rfl) (by simp) (AllReadyH.cons rfl (fun K hK => ?_) (AllReadyH.nil))
        refine step_append_any (w4) rfl (.tmp 35) (.tmp 37) 89 rfl X.heap.size 121 i0 z0 3 40 Tryz.underlying89 hinf hz0 hz1 hz2 hz3 (by decide) v4 j (cellsOf (P.take j)) (by rfl) ho4 (X.heap.size + 1) (some ⟨X.heap.size, 0, none⟩) 1 1 [.string y.name, .string y.data, .int .i64 y.safe] (by rfl) hn4 (oneF5 y) (by unfold maxLen; omega) (by omega) hb4.size ?_
        intro v5 w5 ho5 hg5 hl5
        have hb5 := hb4.grown hg5 hb4.size (fun q hq => (ho4.lt q hq).1)
        have hsz5 := hb5.size
        clear hg5 hl5
        refine hK.out _ _ ((hb5.block c3 hc3X).trans h3X) (fun hHeld => ?_)
        clear hK K
        try simp only [Act.put, List.setIfInBounds_toArray, List.set_cons_zero, List.set_cons_succ, List.getElem_toArray, List.getElem_cons_succ, List.getElem_cons_zero]
        refine wpAnyH_ready (rs := [17]) (by kernel_rfl) (by simp) (AllReadyH.cons rfl (fun K hK => ?_) (AllReadyH.nil))
        refine step_append_any (w5) rfl (.tmp 38) (.tmp 44) 89 rfl X.heap.size 121 i0 z0 3 40 Tryz.underlying89 hinf hz0 hz1 hz2 hz3 (by decide) v5 (j + 1) (cellsOf (P.take j) ++ [.string y.name, .string y.data, .int .i64 y.safe]) (by rfl) ho5 X.heap.size _ (n - j) _ (cellsOf (P.drop j)) (by rfl) (HD.out.below hb5) (cellsOf_one _ oneF5) (by unfold maxLen; omega) (by omega) hb5.size ?_
        intro v6 w6 ho6 hg6 hl6
        have hb6 := hb5.grown hg6 hb5.size (fun q hq => (ho5.lt q hq).1)
        have hsz6 := hb6.size
        obtain ⟨A9, c9, rfl, hc9⟩ := own_form ho6
        clear hg6 hl6
        refine hK.out _ _ ((hb6.block c3 hc3X).trans h3X) (fun hHeld => ?_)
        clear hK K
        try simp only [Act.put, List.setIfInBounds_toArray, List.set_cons_zero, List.set_cons_succ, List.getElem_toArray, List.getElem_cons_succ, List.getElem_cons_zero]
        refine wpAnyH_take (i := 18) (v := ?_) rfl (by kernel_rfl) (by kernel_rfl) (by kernel_rfl) (fun _ _ _ h => h) (Or.inl ⟨by rfl, ?_⟩) (by assumption) ?_
        rotate_left
        · intro X9 hSw; (try dsimp only at hSw); (try simp only [List.getElem_toArray, List.getElem_cons_succ, List.getElem_cons_zero]); first | (go_simp; done) | (go_simp; with_reducible rfl)
        try simp only [Act.put, List.setIfInBounds_toArray, List.set_cons_zero, List.set_cons_succ, List.getElem_toArray, List.getElem_cons_succ, List.getElem_cons_zero]
        refine wpAnyH_take (i := 19) (v := ?_) rfl (by kernel_rfl) (by kernel_rfl) (by kernel_rfl) (fun _ _ _ h => h) (Or.inl ⟨by rfl, ?_⟩) (by assumption) ?_
        rotate_left
        · intro X9 hSw; (try dsimp only at hSw); (try simp only [List.getElem_toArray, List.getElem_cons_succ, List.getElem_cons_zero]); first | (go_simp; done) | (go_simp; with_reducible rfl)
        try simp only [Act.put, List.setIfInBounds_toArray, List.set_cons_zero, List.set_cons_succ, List.getElem_toArray, List.getElem_cons_succ, List.getElem_cons_zero]
        refine wpAnyH_ready (rs := [20]) (by kernel_rfl) (by simp) (AllReadyH.cons rfl (fun K hK => ?_) (AllReadyH.nil))
        have cl7 := (hb6.cell (p := ⟨x, 1, none⟩) (show x < X.heap.size from hxX)).trans cX
        have fl7 : w6.frozen? ⟨x, 1, none⟩ = false := (HRK.out.below hb6).frozen 1
        try simp only [List.getElem_toArray, List.getElem_cons_succ, List.getElem_cons_zero]
        go_simp
        refine hK.out _ _ ((Below.heap_setCell _ ⟨x, 1, none⟩ _ _ hx3).trans ((hb6.block c3 hc3X).trans h3X)) (fun hHeld => ?_)
        clear hK K
        try simp only [Act.put, List.setIfInBounds_toArray, List.set_cons_zero, List.set_cons_succ, List.getElem_toArray, List.getElem_cons_succ, List.getElem_cons_zero]
        refine wpAnyH_done (by kernel_rfl) ?_ _
        have HROW9 : w6.ownsRow X.heap.size 121 3 (.slice A9 (j + 1 + (n - j)) c9) (j + 1 + (n - j)) (cellsOf (insK P y)) := by
          rw [HIN.out, cellsOf_app, cellsOf_app]
          exact ho6
        have HEND := Lib.hid ((HRK.out.below hb6).setL HROW9 HIL.out (show x < X.heap.size from hxX))
        have HMV9 := Lib.hid (mv_row (x := x) (S := S) HXS.out (HXW.out.trans (hb6.mono HXW.out.size)) (fun k hk => Nat.le_trans HXW.out.size (HROW9.lt k hk).1) 1)
        clear HROW9 ho6 cX h3X
        go_wp2
        all_goals
          go_end0
          first | exact ⟨rfl, _, HEND.out, HMV9.out⟩ | exact ⟨_, rfl, HEND.out, HMV9.out⟩
    · have cl2 := (hb0.cell (p := ⟨x, 1, none⟩) (show x < X.heap.size from hxX)).trans cX
      try simp only [List.getElem_toArray, List.getElem_cons_succ, List.getElem_cons_zero]
      go_simp
      refine hK.out _ _ ((hb0.block c3 hc3X).trans h3X) (fun hHeld => ?_)
      clear hK K
      try simp only [Act.put, List.setIfInBounds_toArray, List.set_cons_zero, List.set_cons_succ, List.getElem_toArray, List.getElem_cons_succ, List.getElem_cons_zero]
      refine wpAnyH_take (i := 16) (v := ?_) rfl (by kernel_rfl) (by kernel_rfl) (by kernel_rfl) (fun _ _ _ h => h) (Or.inl ⟨by rfl, ?_⟩) (by assumption) ?_
      rotate_left
      · intro X9 hSw; (try dsimp only at hSw); (try simp only [List.getElem_toArray, List.getElem_cons_succ, List.getElem_cons_zero]); first | (go_simp; done) | (go_simp; with_reducible rfl)
      try simp only [Act.put, List.setIfInBounds_toArray, List.set_cons_zero, List.set_cons_succ, List.getElem_toArray, List.getElem_cons_succ, List.getElem_cons_zero]
      refine wpAnyH_ready (rs := [7, 9]) (by kernel_rfl) (by simp) (AllReadyH.cons rfl (fun K hK => ?_) (AllReadyH.cons rfl (fun K hK => ?_) (AllReadyH.nil)))
      · refine step_append_any (X.drew) rfl (.const (.slice none 0 0)) (.tmp 34) 89 rfl X.heap.size 121 i0 z0 3 40 Tryz.underlying89 hinf hz0 hz1 hz2 hz3 (by decide) (.slice none 0 0) 0 [] (by rfl) (World.ownsRow_nil _ _ _ _) X.heap.size A j _ (cellsOf (P.take j)) (by rfl) (HP.out.below hb0) (cellsOf_one _ oneF5) (by unfold maxLen; omega) (by omega) hb0.size ?_
        intro v3 w3 ho3 hg3 hl3
        rw [Nat.zero_add, List.nil_append] at ho3
        have hb3 := hb0.grown hg3 hb0.size (fun q hq => by simp [Value.ownBlock] at hq)
        have hsz3 := hb3.size
        clear hg3 hl3
        refine hK.out _ _ ((hb3.block c3 hc3X).trans h3X) (fun hHeld => ?_)
        clear hK K
        try simp only [Act.put, List.setIfInBounds_toArray, List.set_cons_zero, List.set_cons_succ, List.getElem_toArray, List.getElem_cons_succ, List.getElem_cons_zero]
        refine wpAnyH_ready (rs := [9]) (by kernel_rfl) (by simp) (AllReadyH.cons rfl (fun K hK => ?_) (AllReadyH.nil))
        have hb4 := hb3.alloc hb3.size (.cells #[.string y.name, .string y.data, .int .i64 y.safe] 121)
        try simp only [List.getElem_toArray, List.getElem_cons_succ, List.getElem_cons_zero]
        go_simp
        refine hK.out _ _ ((hb4.block c3 hc3X).trans h3X) (fun hHeld => ?_)
        clear hK K
        try simp only [Act.put, List.setIfInBounds_toArray, List.set_cons_zero, List.set_cons_succ, List.getElem_toArray, List.getElem_cons_succ, List.getElem_cons_zero]
        have hsz4 := hb4.size
        have hn4 : Reads (w3.alloc (.cells #[.string y.name, .string y.data, .int .i64 y.safe] 121)) (w3.heap.size + 1) 3 (some ⟨w3.heap.size, 0, none⟩) 1 [.string y.name, .string y.data, .int .i64 y.safe] := reads_newN w3 [.string y.name, .string y.data, .int .i64 y.safe] 121 #[.string y.name, .string y.data, .int .i64 y.safe] rfl (N := 3) rfl
        have ho4 := ho3.alloc (.cells #[.string y.name, .string y.data, .int .i64 y.safe] 121)
        refine wpAnyH_ready (rs := [10]) (by kernel_rfl) (by simp) (AllReadyH.cons rfl (fun K hK => ?_) (AllReadyH.nil))
        refine step_append_any ((w3.alloc (.cells #[.string y.name, .string y.data, .int .i64 y.safe] 121))) rfl (.tmp 35) (.tmp 37) 89 rfl X.heap.size 121 i0 z0 3 40 Tryz.underlying89 hinf hz0 hz1 hz2 hz3 (by decide) v3 j (cellsOf (P.take j)) (by rfl) ho4 (w3.heap.size + 1) (some ⟨w3.heap.size, 0, none⟩) 1 1 [.string y.name, .string y.data, .int .i64 y.safe] (by rfl) hn4 (oneF5 y) (by unfold maxLen; omega) (by omega) hb4.size ?_
        intro v5 w5 ho5 hg5 hl5
        have hb5 := hb4.grown hg5 hb4.size (fun q hq => (ho4.lt q hq).1)
        have hsz5 := hb5.size
        clear hg5 hl5
        refine hK.out _ _ ((hb5.block c3 hc3X).trans h3X) (fun hHeld => ?_)
        clear hK K
        try simp only [Act.put, List.setIfInBounds_toArray, List.set_cons_zero, List.set_cons_succ, List.getElem_toArray, List.getElem_cons_succ, List.getElem_cons_zero]
        refine wpAnyH_ready (rs := [17]) (by kernel_rfl) (by simp) (AllReadyH.cons rfl (fun K hK => ?_) (AllReadyH.nil))
        refine step_append_any (w5) rfl (.tmp 38) (.tmp 44) 89 rfl X.heap.size 121 i0 z0 3 40 Tryz.underlying89 hinf hz0 hz1 hz2 hz3 (by decide) v5 (j + 1) (cellsOf (P.take j) ++ [.string y.name, .string y.data, .int .i64 y.safe]) (by rfl) ho5 X.heap.size _ (n - j) _ (cellsOf (P.drop j)) (by rfl) (HD.out.below hb5) (cellsOf_one _ oneF5) (by unfold maxLen; omega) (by omega) hb5.size ?_
        intro v6 w6 ho6 hg6 hl6
        have hb6 := hb5.grown hg6 hb5.size (fun q hq => (ho5.lt q hq).1)
        have hsz6 := hb6.size
        obtain ⟨A9, c9, rfl, hc9⟩ := own_form ho6
        clear hg6 hl6
        refine hK.out _ _ ((hb6.block c3 hc3X).trans h3X) (fun hHeld => ?_)
        clear hK K
        try simp only [Act.put, List.setIfInBounds_toArray, List.set_cons_zero, List.set_cons_succ, List.getElem_toArray, List.getElem_cons_succ, List.getElem_cons_zero]
        refine wpAnyH_take (i := 18) (v := ?_) rfl (by kernel_rfl) (by kernel_rfl) (by kernel_rfl) (fun _ _ _ h => h) (Or.inl ⟨by rfl, ?_⟩) (by assumption) ?_
        rotate_left
        · intro X9 hSw; (try dsimp only at hSw); (try simp only [List.getElem_toArray, List.getElem_cons_succ, List.getElem_cons_zero]); first | (go_simp; done) | (go_simp; with_reducible rfl)
        try simp only [Act.put, List.setIfInBounds_toArray, List.set_cons_zero, List.set_cons_succ, List.getElem_toArray, List.getElem_cons_succ, List.getElem_cons_zero]
        refine wpAnyH_take (i := 19) (v := ?_) rfl (by kernel_rfl) (by kernel_rfl) (by kernel_rfl) (fun _ _ _ h => h) (Or.inl ⟨by rfl, ?_⟩) (by assumption) ?_
        rotate_left
        · intro X9 hSw; (try dsimp only at hSw); (try simp only [List.getElem_toArray, List.getElem_cons_succ, List.getElem_cons_zero]); first | (go_simp; done) | (go_simp; with_reducible rfl)
        try simp only [Act.put, List.setIfInBounds_toArray, List.set_cons_zero, List.set_cons_succ, List.getElem_toArray, List.getElem_cons_succ, List.getElem_cons_zero]
        refine wpAnyH_ready (rs := [20]) (by kernel_rfl) (by simp) (AllReadyH.cons rfl (fun K hK => ?_) (AllReadyH.nil))
        have cl7 := (hb6.cell (p := ⟨x, 1, none⟩) (show x < X.heap.size from hxX)).trans cX
        have fl7 : w6.frozen? ⟨x, 1, none⟩ = false := (HRK.out.below hb6).frozen 1
        try simp only [List.getElem_toArray, List.getElem_cons_succ, List.getElem_cons_zero]
        go_simp
        refine hK.out _ _ ((Below.heap_setCell _ ⟨x, 1, none⟩ _ _ hx3).trans ((hb6.block c3 hc3X).trans h3X)) (fun hHeld => ?_)
        clear hK K
        try simp only [Act.put, List.setIfInBounds_toArray, List.set_cons_zero, List.set_cons_succ, List.getElem_toArray, List.getElem_cons_succ, List.getElem_cons_zero]
        refine wpAnyH_done (by kernel_rfl) ?_ _
        have HROW9 : w6.ownsRow X.heap.size 121 3 (.slice A9 (j + 1 + (n - j)) c9) (j + 1 + (n - j)) (cellsOf (insK P y)) := by
          rw [HIN.out, cellsOf_app, cellsOf_app]
          exact ho6
        have HEND := Lib.hid ((HRK.out.below hb6).setL HROW9 HIL.out (show x < X.heap.size from hxX))
        have HMV9 := Lib.hid (mv_row (x := x) (S := S) HXS.out (HXW.out.trans (hb6.mono HXW.out.size)) (fun k hk => Nat.le_trans HXW.out.size (HROW9.lt k hk).1) 1)
        clear HROW9 ho6 cX h3X
        go_wp2
        all_goals
          go_end0
          first | exact ⟨rfl, _, HEND.out, HMV9.out⟩ | exact ⟨_, rfl, HEND.out, HMV9.out⟩
      · have hb3 := hb0.alloc hb0.size (.cells #[.string y.name, .string y.data, .int .i64 y.safe] 121)
        try simp only [List.getElem_toArray, List.getElem_cons_succ, List.getElem_cons_zero]
        go_simp
        refine hK.out _ _ ((hb3.block c3 hc3X).trans h3X) (fun hHeld => ?_)
        clear hK K
        try simp only [Act.put, List.setIfInBounds_toArray, List.set_cons_zero, List.set_cons_succ, List.getElem_toArray, List.getElem_cons_succ, List.getElem_cons_zero]
        have hsz3 := hb3.size
        have hn3 : Reads (X.drew.alloc (.cells #[.string y.name, .string y.data, .int .i64 y.safe] 121)) (X.heap.size + 1) 3 (some ⟨X.heap.size, 0, none⟩) 1 [.string y.name, .string y.data, .int .i64 y.safe] := reads_newN X.drew [.string y.name, .string y.data, .int .i64 y.safe] 121 #[.string y.name, .string y.data, .int .i64 y.safe] rfl (N := 3) rfl
        refine wpAnyH_ready (rs := [7]) (by kernel_rfl) (by simp) (AllReadyH.cons rfl (fun K hK => ?_) (AllReadyH.nil))
        refine step_append_any ((X.drew.alloc (.cells #[.string y.name, .string y.data, .int .i64 y.safe] 121))) rfl (.const (.slice none 0 0)) (.tmp 34) 89 rfl X.heap.size 121 i0 z0 3 40 Tryz.underlying89 hinf hz0 hz1 hz2 hz3 (by decide) (.slice none 0 0) 0 [] (by rfl) (World.ownsRow_nil _ _ _ _) X.heap.size A j _ (cellsOf (P.take j)) (by rfl) (HP.out.below hb3) (cellsOf_one _ oneF5) (by unfold maxLen; omega) (by omega) hb3.size ?_
        intro v4 w4 ho4 hg4 hl4
        rw [Nat.zero_add, List.nil_append] at ho4
        have hb4 := hb3.grown hg4 hb3.size (fun q hq => by simp [Value.ownBlock] at hq)
        have hsz4 := hb4.size
        have hn4 := hn3.grown hg4 (by simp) (by simp [Value.ownBlock])
        clear hg4 hl4
        refine hK.out _ _ ((hb4.block c3 hc3X).trans h3X) (fun hHeld => ?_)
        clear hK K
        try simp only [Act.put, List.setIfInBounds_toArray, List.set_cons_zero, List.set_cons_succ, List.getElem_toArray, List.getElem_cons_succ, List.getElem_cons_zero]
        refine wpAnyH_ready (rs := [10]) (by kernel_rfl) (by simp) (AllReadyH.cons rfl (fun K hK => ?_) (AllReadyH.nil))
        refine step_append_any (w4) rfl (.tmp 35) (.tmp 37) 89 rfl X.heap.size 121 i0 z0 3 40 Tryz.underlying89 hinf hz0 hz1 hz2 hz3 (by decide) v4 j (cellsOf (P.take j)) (by rfl) ho4 (X.heap.size + 1) (some ⟨X.heap.size, 0, none⟩) 1 1 [.string y.name, .string y.data, .int .i64 y.safe] (by rfl) hn4 (oneF5 y) (by unfold maxLen; omega) (by omega) hb4.size ?_
        intro v5 w5 ho5 hg5 hl5
        have hb5 := hb4.grown hg5 hb4.size (fun q hq => (ho4.lt q hq).1)
        have hsz5 := hb5.size
        clear hg5 hl5
        refine hK.out _ _ ((hb5.block c3 hc3X).trans h3X) (fun hHeld => ?_)
        clear hK K
        try simp only [Act.put, List.setIfInBounds_toArray, List.set_cons_zero, List.set_cons_succ, List.getElem_toArray, List.getElem_cons_succ, List.getElem_cons_zero]
        refine wpAnyH_ready (rs := [17]) (by kernel_rfl) (by simp) (AllReadyH.cons rfl (fun K hK => ?_) (AllReadyH.nil))
        refine step_append_any (w5) rfl (.tmp 38) (.tmp 44) 89 rfl X.heap.size 121 i0 z0 3 40 Tryz.underlying89 hinf hz0 hz1 hz2 hz3 (by decide) v5 (j + 1) (cellsOf (P.take j) ++ [.string y.name, .string y.data, .int .i64 y.safe]) (by rfl) ho5 X.heap.size _ (n - j) _ (cellsOf (P.drop j)) (by rfl) (HD.out.below hb5) (cellsOf_one _ oneF5) (by unfold maxLen; omega) (by omega) hb5.size ?_
        intro v6 w6 ho6 hg6 hl6
        have hb6 := hb5.grown hg6 hb5.size (fun q hq => (ho5.lt q hq).1)
        have hsz6 := hb6.size
        obtain ⟨A9, c9, rfl, hc9⟩ := own_form ho6
        clear hg6 hl6
        refine hK.out _ _ ((hb6.block c3 hc3X).trans h3X) (fun hHeld => ?_)
        clear hK K
        try simp only [Act.put, List.setIfInBounds_toArray, List.set_cons_zero, List.set_cons_succ, List.getElem_toArray, List.getElem_cons_succ, List.getElem_cons_zero]
        refine wpAnyH_take (i := 18) (v := ?_) rfl (by kernel_rfl) (by kernel_rfl) (by kernel_rfl) (fun _ _ _ h => h) (Or.inl ⟨by rfl, ?_⟩) (by assumption) ?_
        rotate_left
        · intro X9 hSw; (try dsimp only at hSw); (try simp only [List.getElem_toArray, List.getElem_cons_succ, List.getElem_cons_zero]); first | (go_simp; done) | (go_simp; with_reducible rfl)
        try simp only [Act.put, List.setIfInBounds_toArray, List.set_cons_zero, List.set_cons_succ, List.getElem_toArray, List.getElem_cons_succ, List.getElem_cons_zero]
        refine wpAnyH_take (i := 19) (v := ?_) rfl (by kernel_rfl) (by kernel_rfl) (by kernel_rfl) (fun _ _ _ h => h) (Or.inl ⟨by rfl, ?_⟩) (by assumption) ?_
        rotate_left
        · intro X9 hSw; (try dsimp only at hSw); (try simp only [List.getElem_toArray, List.getElem_cons_succ, List.getElem_cons_zero]); first | (go_simp; done) | (go_simp; with_reducible rfl)
        try simp only [Act.put, List.setIfInBounds_toArray, List.set_cons_zero, List.set_cons_succ, List.getElem_toArray, List.getElem_cons_succ, List.getElem_cons_zero]
        refine wpAnyH_ready (rs := [20]) (by kernel_rfl) (by simp) (AllReadyH.cons rfl (fun K hK => ?_) (AllReadyH.nil))
        have cl7 := (hb6.cell (p := ⟨x, 1, none⟩) (show x < X.heap.size from hxX)).trans cX
        have fl7 : w6.frozen? ⟨x, 1, none⟩ = false := (HRK.out.below hb6).frozen 1
        try simp only [List.getElem_toArray, List.getElem_cons_succ, List.getElem_cons_zero]
        go_simp
        refine hK.out _ _ ((Below.heap_setCell _ ⟨x, 1, none⟩ _ _ hx3).trans ((hb6.block c3 hc3X).trans h3X)) (fun hHeld => ?_)
        clear hK K
        try simp only [Act.put, List.setIfInBounds_toArray, List.set_cons_zero, List.set_cons_succ, List.getElem_toArray, List.getElem_cons_succ, List.getElem_cons_zero]
        refine wpAnyH_done (by kernel_rfl) ?_ _
        have HROW9 : w6.ownsRow X.heap.size 121 3 (.slice A9 (j + 1 + (n - j)) c9) (j + 1 + (n - j)) (cellsOf (insK P y)) := by
          rw [HIN.out, cellsOf_app, cellsOf_app]
          exact ho6
        have HEND := Lib.hid ((HRK.out.below hb6).setL HROW9 HIL.out (show x < X.heap.size from hxX))
        have HMV9 := Lib.hid (mv_row (x := x) (S := S) HXS.out (HXW.out.trans (hb6.mono HXW.out.size)) (fun k hk => Nat.le_trans HXW.out.size (HROW9.lt k hk).1) 1)
        clear HROW9 ho6 cX h3X
        go_wp2
        all_goals
          go_end0
          first | exact ⟨rfl, _, HEND.out, HMV9.out⟩ | exact ⟨_, rfl, HEND.out, HMV9.out⟩
  · have hb1 := hb0.alloc hb0.size (.cells #[.string y.name, .string y.data, .int .i64 y.safe] 121)
    try simp only [List.getElem_toArray, List.getElem_cons_succ, List.getElem_cons_zero]
    go_simp
    refine hK.out _ _ ((hb1.block c3 hc3X).trans h3X) (fun hHeld => ?_)
    clear hK K
    try simp only [Act.put, List.setIfInBounds_toArray, List.set_cons_zero, List.set_cons_succ, List.getElem_toArray, List.getElem_cons_succ, List.getElem_cons_zero]
    have hsz1 := hb1.size
    have hn1 : Reads (X.drew.alloc (.cells #[.string y.name, .string y.data, .int .i64 y.safe] 121)) (X.heap.size + 1) 3 (some ⟨X.heap.size, 0, none⟩) 1 [.string y.name, .string y.data, .int .i64 y.safe] := reads_newN X.drew [.string y.name, .string y.data, .int .i64 y.safe] 121 #[.string y.name, .string y.data, .int .i64 y.safe] rfl (N := 3) rfl
    refine wpAnyH_ready (rs := [4, 14]) (by kernel_rfl) (by simp) (AllReadyH.cons rfl (fun K hK => ?_) (AllReadyH.cons rfl (fun K hK => ?_) (AllReadyH.nil)))
    · have cl2 := (hb1.cell (p := ⟨x, 1, none⟩) (show x < X.heap.size from hxX)).trans cX
      try simp only [List.getElem_toArray, List.getElem_cons_succ, List.getElem_cons_zero]
      go_simp
      refine hK.out _ _ ((hb1.block c3 hc3X).trans h3X) (fun hHeld => ?_)
      clear hK K
      try simp only [Act.put, List.setIfInBounds_toArray, List.set_cons_zero, List.set_cons_succ, List.getElem_toArray, List.getElem_cons_succ, List.getElem_cons_zero]
      refine wpAnyH_take (i := 6) (v := ?_) rfl (by kernel_rfl) (by kernel_rfl) (by kernel_rfl) (fun _ _ _ h => h) (Or.inl ⟨by rfl, ?_⟩) (by assumption) ?_
      rotate_left
      · intro X9 hSw; (try dsimp only at hSw); (try simp only [List.getElem_toArray, List.getElem_cons_succ, List.getElem_cons_zero]); first | (go_simp; done) | (go_simp; with_reducible rfl)
      try simp only [Act.put, List.setIfInBounds_toArray, List.set_cons_zero, List.set_cons_succ, List.getElem_toArray, List.getElem_cons_succ, List.getElem_cons_zero]
      refine wpAnyH_ready (rs := [7, 14]) (by kernel_rfl) (by simp) (AllReadyH.cons rfl (fun K hK => ?_) (AllReadyH.cons rfl (fun K hK => ?_) (AllReadyH.nil)))
      · refine step_append_any ((X.drew.alloc (.cells #[.string y.name, .string y.data, .int .i64 y.safe] 121))) rfl (.const (.slice none 0 0)) (.tmp 34) 89 rfl X.heap.size 121 i0 z0 3 40 Tryz.underlying89 hinf hz0 hz1 hz2 hz3 (by decide) (.slice none 0 0) 0 [] (by rfl) (World.ownsRow_nil _ _ _ _) X.heap.size A j _ (cellsOf (P.take j)) (by rfl) (HP.out.below hb1) (cellsOf_one _ oneF5) (by unfold maxLen; omega) (by omega) hb1.size ?_
        intro v3 w3 ho3 hg3 hl3
        rw [Nat.zero_add, List.nil_append] at ho3
        have hb3 := hb1.grown hg3 hb1.size (fun q hq => by simp [Value.ownBlock] at hq)
        have hsz3 := hb3.size
        have hn3 := hn1.grown hg3 (by simp) (by simp [Value.ownBlock])
        clear hg3 hl3
        refine hK.out _ _ ((hb3.block c3 hc3X).trans h3X) (fun hHeld => ?_)
        clear hK K
        try simp only [Act.put, List.setIfInBounds_toArray, List.set_cons_zero, List.set_cons_succ, List.getElem_toArray, List.getElem_cons_succ, List.getElem_cons_zero]
        refine wpAnyH_ready (rs := [10, 14]) (by kernel_rfl) (by simp) (AllReadyH.cons rfl (fun K hK => ?_) (AllReadyH.cons rfl (fun K hK => ?_) (AllReadyH.nil)))
        · refine step_append_any (w3) rfl (.tmp 35) (.tmp 37) 89 rfl X.heap.size 121 i0 z0 3 40 Tryz.underlying89 hinf hz0 hz1 hz2 hz3 (by decide) v3 j (cellsOf (P.take j)) (by rfl) ho3 (X.heap.size + 1) (some ⟨X.heap.size, 0, none⟩) 1 1 [.string y.name, .string y.data, .int .i64 y.safe] (by rfl) hn3 (oneF5 y) (by unfold maxLen; omega) (by omega) hb3.size ?_
          intro v4 w4 ho4 hg4 hl4
          have hb4 := hb3.grown hg4 hb3.size (fun q hq => (ho3.lt q hq).1)
          have hsz4 := hb4.size
          clear hg4 hl4
          refine hK.out _ _ ((hb4.block c3 hc3X).trans h3X) (fun hHeld => ?_)
          clear hK K
          try simp only [Act.put, List.setIfInBounds_toArray, List.set_cons_zero, List.set_cons_succ, List.getElem_toArray, List.getElem_cons_succ, List.getElem_cons_zero]
          refine wpAnyH_ready (rs := [14]) (by kernel_rfl) (by simp) (AllReadyH.cons rfl (fun K hK => ?_) (AllReadyH.nil))
          have cl5 := (hb4.cell (p := ⟨x, 1, none⟩) (show x < X.heap.size from hxX)).trans cX
          try simp only [List.getElem_toArray, List.getElem_cons_succ, List.getElem_cons_zero]
          go_simp
          refine hK.out _ _ ((hb4.block c3 hc3X).trans h3X) (fun hHeld => ?_)
          clear hK K
          try simp only [Act.put, List.setIfInBounds_toArray, List.set_cons_zero, List.set_cons_succ, List.getElem_toArray, List.getElem_cons_succ, List.getElem_cons_zero]
          refine wpAnyH_take (i := 16) (v := ?_) rfl (by kernel_rfl) (by kernel_rfl) (by kernel_rfl) (fun _ _ _ h => h) (Or.inl ⟨by rfl, ?_⟩) (by assumption) ?_
          rotate_left
          · intro X9 hSw; (try dsimp only at hSw); (try simp only [List.getElem_toArray, List.getElem_cons_succ, List.getElem_cons_zero]); first | (go_simp; done) | (go_simp; with_reducible rfl)
          try simp only [Act.put, List.setIfInBounds_toArray, List.set_cons_zero, List.set_cons_succ, List.getElem_toArray, List.getElem_cons_succ, List.getElem_cons_zero]
          refine wpAnyH_ready (rs := [17]) (by kernel_rfl) (by simp) (AllReadyH.cons rfl (fun K hK => ?_) (AllReadyH.nil))
          refine step_append_any (w4) rfl (.tmp 38) (.tmp 44) 89 rfl X.heap.size 121 i0 z0 3 40 Tryz.underlying89 hinf hz0 hz1 hz2 hz3 (by decide) v4 (j + 1) (cellsOf (P.take j) ++ [.string y.name, .string y.data, .int .i64 y.safe]) (by rfl) ho4 X.heap.size _ (n - j) _ (cellsOf (P.drop j)) (by rfl) (HD.out.below hb4) (cellsOf_one _ oneF5) (by unfold maxLen; omega) (by omega) hb4.size ?_
          intro v6 w6 ho6 hg6 hl6
          have hb6 := hb4.grown hg6 hb4.size (fun q hq => (ho4.lt q hq).1)
          have hsz6 := hb6.size
          obtain ⟨A9, c9, rfl, hc9⟩ := own_form ho6
          clear hg6 hl6
          refine hK.out _ _ ((hb6.block c3 hc3X).trans h3X) (fun hHeld => ?_)
          clear hK K
          try simp only [Act.put, List.setIfInBounds_toArray, List.set_cons_zero, List.set_cons_succ, List.getElem_toArray, List.getElem_cons_succ, List.getElem_cons_zero]
          refine wpAnyH_take (i := 18) (v := ?_) rfl (by kernel_rfl) (by kernel_rfl) (by kernel_rfl) (fun _ _ _ h => h) (Or.inl ⟨by rfl, ?_⟩) (by assumption) ?_
          rotate_left
          · intro X9 hSw; (try dsimp only at hSw); (try simp only [List.getElem_toArray, List.getElem_cons_succ, List.getElem_cons_zero]); first | (go_simp; done) | (go_simp; with_reducible rfl)
          try simp only [Act.put, List.setIfInBounds_toArray, List.set_cons_zero, List.set_cons_succ, List.getElem_toArray, List.getElem_cons_succ, List.getElem_cons_zero]
          refine wpAnyH_take (i := 19) (v := ?_) rfl (by kernel_rfl) (by kernel_rfl) (by kernel_rfl) (fun _ _ _ h => h) (Or.inl ⟨by rfl, ?_⟩) (by assumption) ?_
          rotate_left
          · intro X9 hSw; (try dsimp only at hSw); (try simp only [List.getElem_toArray, List.getElem_cons_succ, List.getElem_cons_zero]); first | (go_simp; done) | (go_simp; with_reducible rfl)
          try simp only [Act.put, List.setIfInBounds_toArray, List.set_cons_zero, List.set_cons_succ, List.getElem_toArray, List.getElem_cons_succ, List.getElem_cons_zero]
          refine wpAnyH_ready (rs := [20]) (by kernel_rfl) (by simp) (AllReadyH.cons rfl (fun K hK => ?_) (AllReadyH.nil))
          have cl7 := (hb6.cell (p := ⟨x, 1, none⟩) (show x < X.heap.size from hxX)).trans cX
          have fl7 : w6.frozen? ⟨x, 1, none⟩ = false := (HRK.out.below hb6).frozen 1
          try simp only [List.getElem_toArray, List.getElem_cons_succ, List.getElem_cons_zero]
          go_simp
          refine hK.out _ _ ((Below.heap_setCell _ ⟨x, 1, none⟩ _ _ hx3).trans ((hb6.block c3 hc3X).trans h3X)) (fun hHeld => ?_)
          clear hK K
          try simp only [Act.put, List.setIfInBounds_toArray, List.set_cons_zero, List.set_cons_succ, List.getElem_toArray, List.getElem_cons_succ, List.getElem_cons_zero]
          refine wpAnyH_done (by kernel_rfl) ?_ _
          have HROW9 : w6.ownsRow X.heap.size 121 3 (.slice A9 (j + 1 + (n - j)) c9) (j + 1 + (n - j)) (cellsOf (insK P y)) := by
            rw [HIN.out, cellsOf_app, cellsOf_app]
            exact ho6
          have HEND := Lib.hid ((HRK.out.below hb6).setL HROW9 HIL.out (show x < X.heap.size from hxX))
          have HMV9 := Lib.hid (mv_row (x := x) (S := S) HXS.out (HXW.out.trans (hb6.mono HXW.out.size)) (fun k hk => Nat.le_trans HXW.out.size (HROW9.lt k hk).1) 1)
          clear HROW9 ho6 cX h3X
          go_wp2
          all_goals
            go_end0
            first | exact ⟨rfl, _, HEND.out, HMV9.out⟩ | exact ⟨_, rfl, HEND.out, HMV9.out⟩
        · have cl4 := (hb3.cell (p := ⟨x, 1, none⟩) (show x < X.heap.size from hxX)).trans cX
          try simp only [List.getElem_toArray, List.getElem_cons_succ, List.getElem_cons_zero]
          go_simp
          refine hK.out _ _ ((hb3.block c3 hc3X).trans h3X) (fun hHeld => ?_)
          clear hK K
          try simp only [Act.put, List.setIfInBounds_toArray, List.set_cons_zero, List.set_cons_succ, List.getElem_toArray, List.getElem_cons_succ, List.getElem_cons_zero]
          refine wpAnyH_take (i := 16) (v := ?_) rfl (by kernel_rfl) (by kernel_rfl) (by kernel_rfl) (fun _ _ _ h => h) (Or.inl ⟨by rfl, ?_⟩) (by assumption) ?_
          rotate_left
          · intro X9 hSw; (try dsimp only at hSw); (try simp only [List.getElem_toArray, List.getElem_cons_succ, List.getElem_cons_zero]); first | (go_simp; done) | (go_simp; with_reducible rfl)
          try simp only [Act.put, List.setIfInBounds_toArray, List.set_cons_zero, List.set_cons_succ, List.getElem_toArray, List.getElem_cons_succ, List.getElem_cons_zero]
          refine wpAnyH_ready (rs := [10]) (by kernel_rfl) (by simp) (AllReadyH.cons rfl (fun K hK => ?_) (AllReadyH.nil))
          refine step_append_any (w3) rfl (.tmp 35) (.tmp 37) 89 rfl X.heap.size 121 i0 z0 3 40 Tryz.underlying89 hinf hz0 hz1 hz2 hz3 (by decide) v3 j (cellsOf (P.take j)) (by rfl) ho3 (X.heap.size + 1) (some ⟨X.heap.size, 0, none⟩) 1 1 [.string y.name, .string y.data, .int .i64 y.safe] (by rfl) hn3 (oneF5 y) (by unfold maxLen; omega) (by omega) hb3.size ?_
          intro v5 w5 ho5 hg5 hl5
          have hb5 := hb3.grown hg5 hb3.size (fun q hq => (ho3.lt q hq).1)
          have hsz5 := hb5.size
          clear hg5 hl5
          refine hK.out _ _ ((hb5.block c3 hc3X).trans h3X) (fun hHeld => ?_)
          clear hK K
          try simp only [Act.put, List.setIfInBounds_toArray, List.set_cons_zero, List.set_cons_succ, List.getElem_toArray, List.getElem_cons_succ, List.getElem_cons_zero]
          refine wpAnyH_ready (rs := [17]) (by kernel_rfl) (by simp) (AllReadyH.cons rfl (fun K hK => ?_) (AllReadyH.nil))
          refine step_append_any (w5) rfl (.tmp 38) (.tmp 44) 89 rfl X.heap.size 121 i0 z0 3 40 Tryz.underlying89 hinf hz0 hz1 hz2 hz3 (by decide) v5 (j + 1) (cellsOf (P.take j) ++ [.string y.name, .string y.data, .int .i64 y.safe]) (by rfl) ho5 X.heap.size _ (n - j) _ (cellsOf (P.drop j)) (by rfl) (HD.out.below hb5) (cellsOf_one _ oneF5) (by unfold maxLen; omega) (by omega) hb5.size ?_
          intro v6 w6 ho6 hg6 hl6
          have hb6 := hb5.grown hg6 hb5.size (fun q hq => (ho5.lt q hq).1)
          have hsz6 := hb6.size
          obtain ⟨A9, c9, rfl, hc9⟩ := own_form ho6
          clear hg6 hl6
          refine hK.out _ _ ((hb6.block c3 hc3X).trans h3X) (fun hHeld => ?_)
          clear hK K
          try simp only [Act.put, List.setIfInBounds_toArray, List.set_cons_zero, List.set_cons_succ, List.getElem_toArray, List.getElem_cons_succ, List.getElem_cons_zero]
          refine wpAnyH_take (i := 18) (v := ?_) rfl (by kernel_rfl) (by kernel_rfl) (by kernel_rfl) (fun _ _ _ h => h) (Or.inl ⟨by rfl, ?_⟩) (by assumption) ?_
          rotate_left
          · intro X9 hSw; (try dsimp only at hSw); (try simp only [List.getElem_toArray, List.getElem_cons_succ, List.getElem_cons_zero]); first | (go_simp; done) | (go_simp; with_reducible rfl)
          try simp only [Act.put, List.setIfInBounds_toArray, List.set_cons_zero, List.set_cons_succ, List.getElem_toArray, List.getElem_cons_succ, List.getElem_cons_zero]
          refine wpAnyH_take (i := 19) (v := ?_) rfl (by kernel_rfl) (by kernel_rfl) (by kernel_rfl) (fun _ _ _ h => h) (Or.inl ⟨by rfl, ?_⟩) (by assumption) ?_
          rotate_left
          · intro X9 hSw; (try dsimp only at hSw); (try simp only [List.getElem_toArray, List.getElem_cons_succ, List.getElem_cons_zero]); first | (go_simp; done) | (go_simp; with_reducible rfl)
          try simp only [Act.put, List.setIfInBounds_toArray, List.set_cons_zero, List.set_cons_succ, List.getElem_toArray, List.getElem_cons_succ, List.getElem_cons_zero]
          refine wpAnyH_ready (rs := [20]) (by kernel_rfl) (by simp) (AllReadyH.cons rfl (fun K hK => ?_) (AllReadyH.nil))
          have cl7 := (hb6.cell (p := ⟨x, 1, none⟩) (show x < X.heap.size from hxX)).trans cX
          have fl7 : w6.frozen? ⟨x, 1, none⟩ = false := (HRK.out.below hb6).frozen 1
          try simp only [List.getElem_toArray, List.getElem_cons_succ, List.getElem_cons_zero]
          go_simp
          refine hK.out _ _ ((Below.heap_setCell _ ⟨x, 1, none⟩ _ _ hx3).trans ((hb6.block c3 hc3X).trans h3X)) (fun hHeld => ?_)
          clear hK K
          try simp only [Act.put, List.setIfInBounds_toArray, List.set_cons_zero, List.set_cons_succ, List.getElem_toArray, List.getElem_cons_succ, List.getElem_cons_zero]
          refine wpAnyH_done (by kernel_rfl) ?_ _
          have HROW9 : w6.ownsRow X.heap.size 121 3 (.slice A9 (j + 1 + (n - j)) c9) (j + 1 + (n - j)) (cellsOf (insK P y)) := by
            rw [HIN.out, cellsOf_app, cellsOf_app]
            exact ho6
          have HEND := Lib.hid ((HRK.out.below hb6).setL HROW9 HIL.out (show x < X.heap.size from hxX))
          have HMV9 := Lib.hid (mv_row (x := x) (S := S) HXS.out (HXW.out.trans (hb6.mono HXW.out.size)) (fun k hk => Nat.le_trans HXW.out.size (HROW9.lt k hk).1) 1)
          clear HROW9 ho6 cX h3X
          go_wp2
          all_goals
            go_end0
            first | exact ⟨rfl, _, HEND.out, HMV9.out⟩ | exact ⟨_, rfl, HEND.out, HMV9.out⟩
      · have cl3 := (hb1.cell (p := ⟨x, 1, none⟩) (show x < X.heap.size from hxX)).trans cX
        try simp only [List.getElem_toArray, List.getElem_cons_succ, List.getElem_cons_zero]
        go_simp
        refine hK.out _ _ ((hb1.block c3 hc3X).trans h3X) (fun hHeld => ?_)
        clear hK K
        try simp only [Act.put, List.setIfInBounds_toArray, List.set_cons_zero, List.set_cons_succ, List.getElem_toArray, List.getElem_cons_succ, List.getElem_cons_zero]
        refine wpAnyH_take (i := 16) (v := ?_) rfl (by kernel_rfl) (by kernel_rfl) (by kernel_rfl) (fun _ _ _ h => h) (Or.inl ⟨by rfl, ?_⟩) (by assumption) ?_
        rotate_left
        · intro X9 hSw; (try dsimp only at hSw); (try simp only [List.getElem_toArray, List.getElem_cons_succ, List.getElem_cons_zero]); first | (go_simp; done) | (go_simp; with_reducible rfl)
        try simp only [Act.put, List.setIfInBounds_toArray, List.set_cons_zero, List.set_cons_succ, List.getElem_toArray, List.getElem_cons_succ, List.getElem_cons_zero]
        refine wpAnyH_ready (rs := [7]) (by kernel_rfl) (by simp) (AllReadyH.cons rfl (fun K hK => ?_) (AllReadyH.nil))
        refine step_append_any ((X.drew.alloc (.cells #[.string y.name, .string y.data, .int .i64 y.safe] 121))) rfl (.const (.slice none 0 0)) (.tmp 34) 89 rfl X.heap.size 121 i0 z0 3 40 Tryz.underlying89 hinf hz0 hz1 hz2 hz3 (by decide) (.slice none 0 0) 0 [] (by rfl) (World.ownsRow_nil _ _ _ _) X.heap.size A j _ (cellsOf (P.take j)) (by rfl) (HP.out.below hb1) (cellsOf_one _ oneF5) (by unfold maxLen; omega) (by omega) hb1.size ?_
        intro v4 w4 ho4 hg4 hl4
        rw [Nat.zero_add, List.nil_append] at ho4
        have hb4 := hb1.grown hg4 hb1.size (fun q hq => by simp [Value.ownBlock] at hq)
        have hsz4 := hb4.size
        have hn4 := hn1.grown hg4 (by simp) (by simp [Value.ownBlock])
        clear hg4 hl4
        refine hK.out _ _ ((hb4.block c3 hc3X).trans h3X) (fun hHeld => ?_)
        clear hK K
        try simp only [Act.put, List.setIfInBounds_toArray, List.set_cons_zero, List.set_cons_succ, List.getElem_toArray, List.getElem_cons_succ, List.getElem_cons_zero]
        refine wpAnyH_ready (rs := [10]) (by kernel_rfl) (by simp) (AllReadyH.cons rfl (fun K hK => ?_) (AllReadyH.nil))
        refine step_append_any (w4) rfl (.tmp 35) (.tmp 37) 89 rfl X.heap.size 121 i0 z0 3 40 Tryz.underlying89 hinf hz0 hz1 hz2 hz3 (by decide) v4 j (cellsOf (P.take j)) (by rfl) ho4 (X.heap.size + 1) (some ⟨X.heap.size, 0, none⟩) 1 1 [.string y.name, .string y.data, .int .i64 y.safe] (by rfl) hn4 (oneF5 y) (by unfold maxLen; omega) (by omega) hb4.size ?_
        intro v5 w5 ho5 hg5 hl5
        have hb5 := hb4.grown hg5 hb4.size (fun q hq => (ho4.lt q hq).1)
        have hsz5 := hb5.size
        clear hg5 hl5
        refine hK.out _ _ ((hb5.block c3 hc3X).trans h3X) (fun hHeld => ?_)
        clear hK K
        try simp only [Act.put, List.setIfInBounds_toArray, List.set_cons_zero, List.set_cons_succ, List.getElem_toArray, List.getElem_cons_succ, List.getElem_cons_zero]
        refine wpAnyH_ready (rs := [17]) (by kernel_rfl) (by simp) (AllReadyH.cons rfl (fun K hK => ?_) (AllReadyH.nil))
        refine step_append_any (w5) rfl (.tmp 38) (.tmp 44) 89 rfl X.heap.size 121 i0 z0 3 40 Tryz.underlying89 hinf hz0 hz1 hz2 hz3 (by decide) v5 (j + 1) (cellsOf (P.take j) ++ [.string y.name, .string y.data, .int .i64 y.safe]) (by rfl) ho5 X.heap.size _ (n - j) _ (cellsOf (P.drop j)) (by rfl) (HD.out.below hb5) (cellsOf_one _ oneF5) (by unfold maxLen; omega) (by omega) hb5.size ?_
        intro v6 w6 ho6 hg6 hl6
        have hb6 := hb5.grown hg6 hb5.size (fun q hq => (ho5.lt q hq).1)
        have hsz6 := hb6.size
        obtain ⟨A9, c9, rfl, hc9⟩ := own_form ho6
        clear hg6 hl6
        refine hK.out _ _ ((hb6.block c3 hc3X).trans h3X) (fun hHeld => ?_)
        clear hK K
        try simp only [Act.put, List.setIfInBounds_toArray, List.set_cons_zero, List.set_cons_succ, List.getElem_toArray, List.getElem_cons_succ, List.getElem_cons_zero]
        refine wpAnyH_take (i := 18) (v := ?_) rfl (by kernel_rfl) (by kernel_rfl) (by kernel_rfl) (fun _ _ _ h => h) (Or.inl ⟨by rfl, ?_⟩) (by assumption) ?_
        rotate_left
        · intro X9 hSw; (try dsimp only at hSw); (try simp only [List.getElem_toArray, List.getElem_cons_succ, List.getElem_cons_zero]); first | (go_simp; done) | (go_simp; with_reducible rfl)
        try simp only [Act.put, List.setIfInBounds_toArray, List.set_cons_zero, List.set_cons_succ, List.getElem_toArray, List.getElem_cons_succ, List.getElem_cons_zero]
        refine wpAnyH_take (i := 19) (v := ?_) rfl (by kernel_rfl) (by kernel_rfl) (by kernel_rfl) (fun _ _ _ h => h) (Or.inl ⟨by rfl, ?_⟩) (by assumption) ?_
        rotate_left
        · intro X9 hSw; (try dsimp only at hSw); (try simp only [List.getElem_toArray, List.getElem_cons_succ, List.getElem_cons_zero]); first | (go_simp; done) | (go_simp; with_reducible rfl)
        try simp only [Act.put, List.setIfInBounds_toArray, List.set_cons_zero, List.set_cons_succ, List.getElem_toArray, List.getElem_cons_succ, List.getElem_cons_zero]
        refine wpAnyH_ready (rs := [20]) (by kernel_rfl) (by simp) (AllReadyH.cons rfl (fun K hK => ?_) (AllReadyH.nil))
        have cl7 := (hb6.cell (p := ⟨x, 1, none⟩) (show x < X.heap.size from hxX)).trans cX
        have fl7 : w6.frozen? ⟨x, 1, none⟩ = false := (HRK.out.below hb6).frozen 1
        try simp only [List.getElem_toArray, List.getElem_cons_succ, List.getElem_cons_zero]
        go_simp
        refine hK.out _ _ ((Below.heap_setCell _ ⟨x, 1, none⟩ _ _ hx3).trans ((hb6.block c3 hc3X).trans h3X)) (fun hHeld => ?_)
        clear hK K
        try simp only [Act.put, List.setIfInBounds_toArray, List.set_cons_zero, List.set_cons_succ, List.getElem_toArray, List.getElem_cons_succ, List.getElem_cons_zero]
        refine wpAnyH_done (by kernel_rfl) ?_ _
        have HROW9 : w6.ownsRow X.heap.size 121 3 (.slice A9 (j + 1 + (n - j)) c9) (j + 1 + (n - j)) (cellsOf (insK P y)) := by
          rw [HIN.out, cellsOf_app, cellsOf_app]
          exact ho6
        have HEND := Lib.hid ((HRK.out.below hb6).setL HROW9 HIL.out (show x < X.heap.size from hxX))
        have HMV9 := Lib.hid (mv_row (x := x) (S := S) HXS.out (HXW.out.trans (hb6.mono HXW.out.size)) (fun k hk => Nat.le_trans HXW.out.size (HROW9.lt k hk).1) 1)
        clear HROW9 ho6 cX h3X
        go_wp2
        all_goals
          go_end0
          first | exact ⟨rfl, _, HEND.out, HMV9.out⟩ | exact ⟨_, rfl, HEND.out, HMV9.out⟩
    · have cl2 := (hb1.cell (p := ⟨x, 1, none⟩) (show x < X.heap.size from hxX)).trans cX
      try simp only [List.getElem_toArray, List.getElem_cons_succ, List.getElem_cons_zero]
      go_simp
      refine hK.out _ _ ((hb1.block c3 hc3X).trans h3X) (fun hHeld => ?_)
      clear hK K
      try simp only [Act.put, List.setIfInBounds_toArray, List.set_cons_zero, List.set_cons_succ, List.getElem_toArray, List.getElem_cons_succ, List.getElem_cons_zero]
      refine wpAnyH_take (i := 16) (v := ?_) rfl (by kernel_rfl) (by kernel_rfl) (by kernel_rfl) (fun _ _ _ h => h) (Or.inl ⟨by rfl, ?_⟩) (by assumption) ?_
      rotate_left
      · intro X9 hSw; (try dsimp only at hSw); (try simp only [List.getElem_toArray, List.getElem_cons_succ, List.getElem_cons_zero]); first | (go_simp; done) | (go_simp; with_reducible rfl)
      try simp only [Act.put, List.setIfInBounds_toArray, List.set_cons_zero, List.set_cons_succ, List.getElem_toArray, List.getElem_cons_succ, List.getElem_cons_zero]
      refine wpAnyH_ready (rs := [4]) (by kernel_rfl) (by simp) (AllReadyH.cons rfl (fun K hK => ?_) (AllReadyH.nil))
      have cl3 := (hb1.cell (p := ⟨x, 1, none⟩) (show x < X.heap.size from hxX)).trans cX
      try simp only [List.getElem_toArray, List.getElem_cons_succ, List.getElem_cons_zero]
      go_simp
      refine hK.out _ _ ((hb1.block c3 hc3X).trans h3X) (fun hHeld => ?_)
      clear hK K
      try simp only [Act.put, List.setIfInBounds_toArray, List.set_cons_zero, List.set_cons_succ, List.getElem_toArray, List.getElem_cons_succ, List.getElem_cons_zero]
      refine wpAnyH_take (i := 6) (v := ?_) rfl (by kernel_rfl) (by kernel_rfl) (by kernel_rfl) (fun _ _ _ h => h) (Or.inl ⟨by rfl, ?_⟩) (by assumption) ?_
      rotate_left
      · intro X9 hSw; (try dsimp only at hSw); (try simp only [List.getElem_toArray, List.getElem_cons_succ, List.getElem_cons_zero]); first | (go_simp; done) | (go_simp; with_reducible rfl)
      try simp only [Act.put, List.setIfInBounds_toArray, List.set_cons_zero, List.set_cons_succ, List.getElem_toArray, List.getElem_cons_succ, List.getElem_cons_zero]
      refine wpAnyH_ready (rs := [7]) (by kernel_rfl) (by simp) (AllReadyH.cons rfl (fun K hK => ?_) (AllReadyH.nil))
      refine step_append_any ((X.drew.alloc (.cells #[.string y.name, .string y.data, .int .i64 y.safe] 121))) rfl (.const (.slice none 0 0)) (.tmp 34) 89 rfl X.heap.size 121 i0 z0 3 40 Tryz.underlying89 hinf hz0 hz1 hz2 hz3 (by decide) (.slice none 0 0) 0 [] (by rfl) (World.ownsRow_nil _ _ _ _) X.heap.size A j _ (cellsOf (P.take j)) (by rfl) (HP.out.below hb1) (cellsOf_one _ oneF5) (by unfold maxLen; omega) (by omega) hb1.size ?_
      intro v4 w4 ho4 hg4 hl4
      rw [Nat.zero_add, List.nil_append] at ho4
      have hb4 := hb1.grown hg4 hb1.size (fun q hq => by simp [Value.ownBlock] at hq)
      have hsz4 := hb4.size
      have hn4 := hn1.grown hg4 (by simp) (by simp [Value.ownBlock])
      clear hg4 hl4
      refine hK.out _ _ ((hb4.block c3 hc3X).trans h3X) (fun hHeld => ?_)
      clear hK K
      try simp only [Act.put, List.setIfInBounds_toArray, List.set_cons_zero, List.set_cons_succ, List.getElem_toArray, List.getElem_cons_succ, List.getElem_cons_zero]
      refine wpAnyH_ready (rs := [10]) (by kernel_rfl) (by simp) (AllReadyH.cons rfl (fun K hK => ?_) (AllReadyH.nil))
      refine step_append_any (w4) rfl (.tmp 35) (.tmp 37) 89 rfl X.heap.size 121 i0 z0 3 40 Tryz.underlying89 hinf hz0 hz1 hz2 hz3 (by decide) v4 j (cellsOf (P.take j)) (by rfl) ho4 (X.heap.size + 1) (some ⟨X.heap.size, 0, none⟩) 1 1 [.string y.name, .string y.data, .int .i64 y.safe] (by rfl) hn4 (oneF5 y) (by unfold maxLen; omega) (by omega) hb4.size ?_
      intro v5 w5 ho5 hg5 hl5
      have hb5 := hb4.grown hg5 hb4.size (fun q hq => (ho4.lt q hq).1)
      have hsz5 := hb5.size
      clear hg5 hl5
      refine hK.out _ _ ((hb5.block c3 hc3X).trans h3X) (fun hHeld => ?_)
      clear hK K
      try simp only [Act.put, List.setIfInBounds_toArray, List.set_cons_zero, List.set_cons_succ, List.getElem_toArray, List.getElem_cons_succ, List.getElem_cons_zero]
      refine wpAnyH_ready (rs := [17]) (by kernel_rfl) (by simp) (AllReadyH.cons rfl (fun K hK => ?_) (AllReadyH.nil))
      refine step_append_any (w5) rfl (.tmp 38) (.tmp 44) 89 rfl X.heap.size 121 i0 z0 3 40 Tryz.underlying89 hinf hz0 hz1 hz2 hz3 (by decide) v5 (j + 1) (cellsOf (P.take j) ++ [.string y.name, .string y.data, .int .i64 y.safe]) (by rfl) ho5 X.heap.size _ (n - j) _ (cellsOf (P.drop j)) (by rfl) (HD.out.below hb5) (cellsOf_one _ oneF5) (by unfold maxLen; omega) (by omega) hb5.size ?_
      intro v6 w6 ho6 hg6 hl6
      have hb6 := hb5.grown hg6 hb5.size (fun q hq => (ho5.lt q hq).1)
      have hsz6 := hb6.size
      obtain ⟨A9, c9, rfl, hc9⟩ := own_form ho6
      clear hg6 hl6
      refine hK.out _ _ ((hb6.block c3 hc3X).trans h3X) (fun hHeld => ?_)
      clear hK K
      try simp only [Act.put, List.setIfInBounds_toArray, List.set_cons_zero, List.set_cons_succ, List.getElem_toArray, List.getElem_cons_succ, List.getElem_cons_zero]
      refine wpAnyH_take (i := 18) (v := ?_) rfl (by kernel_rfl) (by kernel_rfl) (by kernel_rfl) (fun _ _ _ h => h) (Or.inl ⟨by rfl, ?_⟩) (by assumption) ?_
      rotate_left
      · intro X9 hSw; (try dsimp only at hSw); (try simp only [List.getElem_toArray, List.getElem_cons_succ, List.getElem_cons_zero]); first | (go_simp; done) | (go_simp; with_reducible rfl)
      try simp only [Act.put, List.setIfInBounds_toArray, List.set_cons_zero, List.set_cons_succ, List.getElem_toArray, List.getElem_cons_succ, List.getElem_cons_zero]
      refine wpAnyH_take (i := 19) (v := ?_) rfl (by kernel_rfl) (by kernel_rfl) (by kernel_rfl) (fun _ _ _ h => h) (Or.inl ⟨by rfl, ?_⟩) (by assumption) ?_
      rotate_left
      · intro X9 hSw; (try dsimp only at hSw); (try simp only [List.getElem_toArray, List.getElem_cons_succ, List.getElem_cons_zero]); first | (go_simp; done) | (go_simp; with_reducible rfl)
      try simp only [Act.put, List.setIfInBounds_toArray, List.set_cons_zero, List.set_cons_succ, List.getElem_toArray, List.getElem_cons_succ, List.getElem_cons_zero]
      refine wpAnyH_ready (rs := [20]) (by kernel_rfl) (by simp) (AllReadyH.cons rfl (fun K hK => ?_) (AllReadyH.nil))
      have cl7 := (hb6.cell (p := ⟨x, 1, none⟩) (show x < X.heap.size from hxX)).trans cX
      have fl7 : w6.frozen? ⟨x, 1, none⟩ = false := (HRK.out.below hb6).frozen 1
      try simp only [List.getElem_toArray, List.getElem_cons_succ, List.getElem_cons_zero]
      go_simp
      refine hK.out _ _ ((Below.heap_setCell _ ⟨x, 1, none⟩ _ _ hx3).trans ((hb6.block c3 hc3X).trans h3X)) (fun hHeld => ?_)
      clear hK K
      try simp only [Act.put, List.setIfInBounds_toArray, List.set_cons_zero, List.set_cons_succ, List.getElem_toArray, List.getElem_cons_succ, List.getElem_cons_zero]
      refine wpAnyH_done (by kernel_rfl) ?_ _
      have HROW9 : w6.ownsRow X.heap.size 121 3 (.slice A9 (j + 1 + (n - j)) c9) (j + 1 + (n - j)) (cellsOf (insK P y)) := by
        rw [HIN.out, cellsOf_app, cellsOf_app]
        exact ho6
      have HEND := Lib.hid ((HRK.out.below hb6).setL HROW9 HIL.out (show x < X.heap.size from hxX))
      have HMV9 := Lib.hid (mv_row (x := x) (S := S) HXS.out (HXW.out.trans (hb6.mono HXW.out.size)) (fun k hk => Nat.le_trans HXW.out.size (HROW9.lt k hk).1) 1)
      clear HROW9 ho6 cX h3X
      go_wp2
      all_goals
        go_end0
        first | exact ⟨rfl, _, HEND.out, HMV9.out⟩ | exact ⟨_, rfl, HEND.out, HMV9.out⟩
  · have cl1 := (hb0.cell (p := ⟨x, 1, none⟩) (show x < X.heap.size from hxX)).trans cX
    try simp only [List.getElem_toArray, List.getElem_cons_succ, List.getElem_cons_zero]
    go_simp
    refine hK.out _ _ ((hb0.block c3 hc3X).trans h3X) (fun hHeld => ?_)
    clear hK K
    try simp only [Act.put, List.setIfInBounds_toArray, List.set_cons_zero, List.set_cons_succ, List.getElem_toArray, List.getElem_cons_succ, List.getElem_cons_zero]
    refine wpAnyH_take (i := 16) (v := ?_) rfl (by kernel_rfl) (by kernel_rfl) (by kernel_rfl) (fun _ _ _ h => h) (Or.inl ⟨by rfl, ?_⟩) (by assumption) ?_
    rotate_left
    · intro X9 hSw; (try dsimp only at hSw); (try simp only [List.getElem_toArray, List.getElem_cons_succ, List.getElem_cons_zero]); first | (go_simp; done) | (go_simp; with_reducible rfl)
    try simp only [Act.put, List.setIfInBounds_toArray, List.set_cons_zero, List.set_cons_succ, List.getElem_toArray, List.getElem_cons_succ, List.getElem_cons_zero]
    refine wpAnyH_ready (rs := [4, 9]) (by kernel_rfl) (by simp) (AllReadyH.cons rfl (fun K hK => ?_) (AllReadyH.cons rfl (fun K hK => ?_) (AllReadyH.nil)))
    · have cl2 := (hb0.cell (p := ⟨x, 1, none⟩) (show x < X.heap.size from hxX)).trans cX
      try simp only [List.getElem_toArray, List.getElem_cons_succ, List.getElem_cons_zero]
      go_simp
      refine hK.out _ _ ((hb0.block c3 hc3X).trans h3X) (fun hHeld => ?_)
      clear hK K
      try simp only [Act.put, List.setIfInBounds_toArray, List.set_cons_zero, List.set_cons_succ, List.getElem_toArray, List.getElem_cons_succ, List.getElem_cons_zero]
      refine wpAnyH_take (i := 6) (v := ?_) rfl (by kernel_rfl) (by kernel_rfl) (by kernel_rfl) (fun _ _ _ h => h) (Or.inl ⟨by rfl, ?_⟩) (by assumption) ?_
      rotate_left
      · intro X9 hSw; (try dsimp only at hSw); (try simp only [List.getElem_toArray, List.getElem_cons_succ, List.getElem_cons_zero]); first | (go_simp; done) | (go_simp; with_reducible rfl)
      try simp only [Act.put, List.setIfInBounds_toArray, List.set_cons_zero, List.set_cons_succ, List.getElem_toArray, List.getElem_cons_succ, List.getElem_cons_zero]
      refine wpAnyH_ready (rs := [7, 9]) (by kernel_rfl) (by simp) (AllReadyH.cons rfl (fun K hK => ?_) (AllReadyH.cons rfl (fun K hK => ?_) (AllReadyH.nil)))
      · refine step_append_any (X.drew) rfl (.const (.slice none 0 0)) (.tmp 34) 89 rfl X.heap.size 121 i0 z0 3 40 Tryz.underlying89 hinf hz0 hz1 hz2 hz3 (by decide) (.slice none 0 0) 0 [] (by rfl) (World.ownsRow_nil _ _ _ _) X.heap.size A j _ (cellsOf (P.take j)) (by rfl) (HP.out.below hb0) (cellsOf_one _ oneF5) (by unfold maxLen; omega) (by omega) hb0.size ?_
        intro v3 w3 ho3 hg3 hl3
        rw [Nat.zero_add, List.nil_append] at ho3
        have hb3 := hb0.grown hg3 hb0.size (fun q hq => by simp [Value.ownBlock] at hq)
        have hsz3 := hb3.size
        clear hg3 hl3
        refine hK.out _ _ ((hb3.block c3 hc3X).trans h3X) (fun hHeld => ?_)
        clear hK K
        try simp only [Act.put, List.setIfInBounds_toArray, List.set_cons_zero, List.set_cons_succ, List.getElem_toArray, List.getElem_cons_succ, List.getElem_cons_zero]
        refine wpAnyH_ready (rs := [9]) (by kernel_rfl) (by simp) (AllReadyH.cons rfl (fun K hK => ?_) (AllReadyH.nil))
        have hb4 := hb3.alloc hb3.size (.cells #[.string y.name, .string y.data, .int .i64 y.safe] 121)
        try simp only [List.getElem_toArray, List.getElem_cons_succ, List.getElem_cons_zero]
        go_simp
        refine hK.out _ _ ((hb4.block c3 hc3X).trans h3X) (fun hHeld => ?_)
        clear hK K
        try simp only [Act.put, List.setIfInBounds_toArray, List.set_cons_zero, List.set_cons_succ, List.getElem_toArray, List.getElem_cons_succ, List.getElem_cons_zero]
        have hsz4 := hb4.size
        have hn4 : Reads (w3.alloc (.cells #[.string y.name, .string y.data, .int .i64 y.safe] 121)) (w3.heap.size + 1) 3 (some ⟨w3.heap.size, 0, none⟩) 1 [.string y.name, .string y.data, .int .i64 y.safe] := reads_newN w3 [.string y.name, .string y.data, .int .i64 y.safe] 121 #[.string y.name, .string y.data, .int .i64 y.safe] rfl (N := 3) rfl
        have ho4 := ho3.alloc (.cells #[.string y.name, .string y.data, .int .i64 y.safe] 121)
        refine wpAnyH_ready (rs := [10]) (by kernel_rfl) (by simp) (AllReadyH.cons rfl (fun K hK => ?_) (AllReadyH.nil))
        refine step_append_any ((w3.alloc (.cells #[.string y.name, .string y.data, .int .i64 y.safe] 121))) rfl (.tmp 35) (.tmp 37) 89 rfl X.heap.size 121 i0 z0 3 40 Tryz.underlying89 hinf hz0 hz1 hz2 hz3 (by decide) v3 j (cellsOf (P.take j)) (by rfl) ho4 (w3.heap.size + 1) (some ⟨w3.heap.size, 0, none⟩) 1 1 [.string y.name, .string y.data, .int .i64 y.safe] (by rfl) hn4 (oneF5 y) (by unfold maxLen; omega) (by omega) hb4.size ?_
        intro v5 w5 ho5 hg5 hl5
        have hb5 := hb4.grown hg5 hb4.size (fun q hq => (ho4.lt q hq).1)
        have hsz5 := hb5.size
        clear hg5 hl5
        refine hK.out _ _ ((hb5.block c3 hc3X).trans h3X) (fun hHeld => ?_)
        clear hK K
        try simp only [Act.put, List.setIfInBounds_toArray, List.set_cons_zero, List.set_cons_succ, List.getElem_toArray, List.getElem_cons_succ, List.getElem_cons_zero]
        refine wpAnyH_ready (rs := [17]) (by kernel_rfl) (by simp) (AllReadyH.cons rfl (fun K hK => ?_) (AllReadyH.nil))
        refine step_append_any (w5) rfl (.tmp 38) (.tmp 44) 89 rfl X.heap.size 121 i0 z0 3 40 Tryz.underlying89 hinf hz0 hz1 hz2 hz3 (by decide) v5 (j + 1) (cellsOf (P.take j) ++ [.string y.name, .string y.data, .int .i64 y.safe]) (by rfl) ho5 X.heap.size _ (n - j) _ (cellsOf (P.drop j)) (by rfl) (HD.out.below hb5) (cellsOf_one _ oneF5) (by unfold maxLen; omega) (by omega) hb5.size ?_
        intro v6 w6 ho6 hg6 hl6
        have hb6 := hb5.grown hg6 hb5.size (fun q hq => (ho5.lt q hq).1)
        have hsz6 := hb6.size
        obtain ⟨A9, c9, rfl, hc9⟩ := own_form ho6
        clear hg6 hl6
        refine hK.out _ _ ((hb6.block c3 hc3X).trans h3X) (fun hHeld => ?_)
        clear hK K
        try simp only [Act.put, List.setIfInBounds_toArray, List.set_cons_zero, List.set_cons_succ, List.getElem_toArray, List.getElem_cons_succ, List.getElem_cons_zero]
        refine wpAnyH_take (i := 18) (v := ?_) rfl (by kernel_rfl) (by kernel_rfl) (by kernel_rfl) (fun _ _ _ h => h) (Or.inl ⟨by rfl, ?_⟩) (by assumption) ?_
        rotate_left
        · intro X9 hSw; (try dsimp only at hSw); (try simp only [List.getElem_toArray, List.getElem_cons_succ, List.getElem_cons_zero]); first | (go_simp; done) | (go_simp; with_reducible rfl)
        try simp only [Act.put, List.setIfInBounds_toArray, List.set_cons_zero, List.set_cons_succ, List.getElem_toArray, List.getElem_cons_succ, List.getElem_cons_zero]
        refine wpAnyH_take (i := 19) (v := ?_) rfl (by kernel_rfl) (by kernel_rfl) (by kernel_rfl) (fun _ _ _ h => h) (Or.inl ⟨by rfl, ?_⟩) (by assumption) ?_
        rotate_left
        · intro X9 hSw; (try dsimp only at hSw); (try simp only [List.getElem_toArray, List.getElem_cons_succ, List.getElem_cons_zero]); first | (go_simp; done) | (go_simp; with_reducible rfl)
        try simp only [Act.put, List.setIfInBounds_toArray, List.set_cons_zero, List.set_cons_succ, List.getElem_toArray, List.getElem_cons_succ, List.getElem_cons_zero]
        refine wpAnyH_ready (rs := [20]) (by kernel_rfl) (by simp) (AllReadyH.cons rfl (fun K hK => ?_) (AllReadyH.nil))
        have cl7 := (hb6.cell (p := ⟨x, 1, none⟩) (show x < X.heap.size from hxX)).trans cX
        have fl7 : w6.frozen? ⟨x, 1, none⟩ = false := (HRK.out.below hb6).frozen 1
        try simp only [List.getElem_toArray, List.getElem_cons_succ, List.getElem_cons_zero]
        go_simp
        refine hK.out _ _ ((Below.heap_setCell _ ⟨x, 1, none⟩ _ _ hx3).trans ((hb6.block c3 hc3X).trans h3X)) (fun hHeld => ?_)
        clear hK K
        try simp only [Act.put, List.setIfInBounds_toArray, List.set_cons_zero, List.set_cons_succ, List.getElem_toArray, List.getElem_cons_succ, List.getElem_cons_zero]
        refine wpAnyH_done (by kernel_rfl) ?_ _
        have HROW9 : w6.ownsRow X.heap.size 121 3 (.slice A9 (j + 1 + (n - j)) c9) (j + 1 + (n - j)) (cellsOf (insK P y)) := by
          rw [HIN.out, cellsOf_app, cellsOf_app]
          exact ho6
        have HEND := Lib.hid ((HRK.out.below hb6).setL HROW9 HIL.out (show x < X.heap.size from hxX))
        have HMV9 := Lib.hid (mv_row (x := x) (S := S) HXS.out (HXW.out.trans (hb6.mono HXW.out.size)) (fun k hk => Nat.le_trans HXW.out.size (HROW9.lt k hk).1) 1)
        clear HROW9 ho6 cX h3X
        go_wp2
        all_goals
          go_end0
          first | exact ⟨rfl, _, HEND.out, HMV9.out⟩ | exact ⟨_, rfl, HEND.out, HMV9.out⟩
      · have hb3 := hb0.alloc hb0.size (.cells #[.string y.name, .string y.data, .int .i64 y.safe] 121)
        try simp only [List.getElem_toArray, List.getElem_cons_succ, List.getElem_cons_zero]
        go_simp
        refine hK.out _ _ ((hb3.block c3 hc3X).trans h3X) (fun hHeld => ?_)
        clear hK K
        try simp only [Act.put, List.setIfInBounds_toArray, List.set_cons_zero, List.set_cons_succ, List.getElem_toArray, List.getElem_cons_succ, List.getElem_cons_zero]
        have hsz3 := hb3.size
        have hn3 : Reads (X.drew.alloc (.cells #[.string y.name, .string y.data, .int .i64 y.safe] 121)) (X.heap.size + 1) 3 (some ⟨X.heap.size, 0, none⟩) 1 [.string y.name, .string y.data, .int .i64 y.safe] := reads_newN X.drew [.string y.name, .string y.data, .int .i64 y.safe] 121 #[.string y.name, .string y.data, .int .i64 y.safe] rfl (N := 3) rfl
        refine wpAnyH_ready (rs := [7]) (by kernel_rfl) (by simp) (AllReadyH.cons rfl (fun K hK => ?_) (AllReadyH.nil))
        refine step_append_any ((X.drew.alloc (.cells #[.string y.name, .string y.data, .int .i64 y.safe] 121))) rfl (.const (.slice none 0 0)) (.tmp 34) 89 rfl X.heap.size 121 i0 z0 3 40 Tryz.underlying89 hinf hz0 hz1 hz2 hz3 (by decide) (.slice none 0 0) 0 [] (by rfl) (World.ownsRow_nil _ _ _ _) X.heap.size A j _ (cellsOf (P.take j)) (by rfl) (HP.out.below hb3) (cellsOf_one _ oneF5) (by unfold maxLen; omega) (by omega) hb3.size ?_
        intro v4 w4 ho4 hg4 hl4
        rw [Nat.zero_add, List.nil_append] at ho4
        have hb4 := hb3.grown hg4 hb3.size (fun q hq => by simp [Value.ownBlock] at hq)
        have hsz4 := hb4.size
        have hn4 := hn3.grown hg4 (by simp) (by simp [Value.ownBlock])
        clear hg4 hl4
        refine hK.out _ _ ((hb4.block c3 hc3X).trans h3X) (fun hHeld => ?_)
        clear hK K
        try simp only [Act.put, List.setIfInBounds_toArray, List.set_cons_zero, List.set_cons_succ, List.getElem_toArray, List.getElem_cons_succ, List.getElem_cons_zero]
        refine wpAnyH_ready (rs := [10]) (by kernel_rfl) (by simp) (AllReadyH.cons rfl (fun K hK => ?_) (AllReadyH.nil))
        refine step_append_any (w4) rfl (.tmp 35) (.tmp 37) 89 rfl X.heap.size 121 i0 z0 3 40 Tryz.underlying89 hinf hz0 hz1 hz2 hz3 (by decide) v4 j (cellsOf (P.take j)) (by rfl) ho4 (X.heap.size + 1) (some ⟨X.heap.size, 0, none⟩) 1 1 [.string y.name, .string y.data, .int .i64 y.safe] (by rfl) hn4 (oneF5 y) (by unfold maxLen; omega) (by omega) hb4.size ?_
        intro v5 w5 ho5 hg5 hl5
        have hb5 := hb4.grown hg5 hb4.size (fun q hq => (ho4.lt q hq).1)
        have hsz5 := hb5.size
        clear hg5 hl5
        refine hK.out _ _ ((hb5.block c3 hc3X).trans h3X) (fun hHeld => ?_)
        clear hK K
        try simp only [Act.put, List.setIfInBounds_toArray, List.set_cons_zero, List.set_cons_succ, List.getElem_toArray, List.getElem_cons_succ, List.getElem_cons_zero]
        refine wpAnyH_ready (rs := [17]) (by kernel_rfl) (by simp) (AllReadyH.cons rfl (fun K hK => ?_) (AllReadyH.nil))
        refine step_append_any (w5) rfl (.tmp 38) (.tmp 44) 89 rfl X.heap.size 121 i0 z0 3 40 Tryz.underlying89 hinf hz0 hz1 hz2 hz3 (by decide) v5 (j + 1) (cellsOf (P.take j) ++ [.string y.name, .string y.data, .int .i64 y.safe]) (by rfl) ho5 X.heap.size _ (n - j) _ (cellsOf (P.drop j)) (by rfl) (HD.out.below hb5) (cellsOf_one _ oneF5) (by unfold maxLen; omega) (by omega) hb5.size ?_
        intro v6 w6 ho6 hg6 hl6
        have hb6 := hb5.grown hg6 hb5.size (fun q hq => (ho5.lt q hq).1)
        have hsz6 := hb6.size
        obtain ⟨A9, c9, rfl, hc9⟩ := own_form ho6
        clear hg6 hl6
        refine hK.out _ _ ((hb6.block c3 hc3X).trans h3X) (fun hHeld => ?_)
        clear hK K
        try simp only [Act.put, List.setIfInBounds_toArray, List.set_cons_zero, List.set_cons_succ, List.getElem_toArray, List.getElem_cons_succ, List.getElem_cons_zero]
        refine wpAnyH_take (i := 18) (v := ?_) rfl (by kernel_rfl) (by kernel_rfl) (by kernel_rfl) (fun _ _ _ h => h) (Or.inl ⟨by rfl, ?_⟩) (by assumption) ?_
        rotate_left
        · intro X9 hSw; (try dsimp only at hSw); (try simp only [List.getElem_toArray, List.getElem_cons_succ, List.getElem_cons_zero]); first | (go_simp; done) | (go_simp; with_reducible rfl)
        try simp only [Act.put, List.setIfInBounds_toArray, List.set_cons_zero, List.set_cons_succ, List.getElem_toArray, List.getElem_cons_succ, List.getElem_cons_zero]
        refine wpAnyH_take (i := 19) (v := ?_) rfl (by kernel_rfl) (by kernel_rfl) (by kernel_rfl) (fun _ _ _ h => h) (Or.inl ⟨by rfl, ?_⟩) (by assumption) ?_
        rotate_left
        · intro X9 hSw; (try dsimp only at hSw); (try simp only [List.getElem_toArray, List.getElem_cons_succ, List.getElem_cons_zero]); first | (go_simp; done) | (go_simp; with_reducible rfl)
        try simp only [Act.put, List.setIfInBounds_toArray, List.set_cons_zero, List.set_cons_succ, List.getElem_toArray, List.getElem_cons_succ, List.getElem_cons_zero]
        refine wpAnyH_ready (rs := [20]) (by kernel_rfl) (by simp) (AllReadyH.cons rfl (fun K hK => ?_) (AllReadyH.nil))
        have cl7 := (hb6.cell (p := ⟨x, 1, none⟩) (show x < X.heap.size from hxX)).trans cX
        have fl7 : w6.frozen? ⟨x, 1, none⟩ = false := (HRK.out.below hb6).frozen 1
        try simp only [List.getElem_toArray, List.getElem_cons_succ, List.getElem_cons_zero]
        go_simp
        refine hK.out _ _ ((Below.heap_setCell _ ⟨x, 1, none⟩ _ _ hx3).trans ((hb6.block c3 hc3X).trans h3X)) (fun hHeld => ?_)
        clear hK K
        try simp only [Act.put, List.setIfInBounds_toArray, List.set_cons_zero, List.set_cons_succ, List.getElem_toArray, List.getElem_cons_succ, List.getElem_cons_zero]
        refine wpAnyH_done (by kernel_rfl) ?_ _
        have HROW9 : w6.ownsRow X.heap.size 121 3 (.slice A9 (j + 1 + (n - j)) c9) (j + 1 + (n - j)) (cellsOf (insK P y)) := by
          rw [HIN.out, cellsOf_app, cellsOf_app]
          exact ho6
        have HEND := Lib.hid ((HRK.out.below hb6).setL HROW9 HIL.out (show x < X.heap.size from hxX))
        have HMV9 := Lib.hid (mv_row (x := x) (S := S) HXS.out (HXW.out.trans (hb6.mono HXW.out.size)) (fun k hk => Nat.le_trans HXW.out.size (HROW9.lt k hk).1) 1)
        clear HROW9 ho6 cX h3X
        go_wp2
        all_goals
          go_end0
          first | exact ⟨rfl, _, HEND.out, HMV9.out⟩ | exact ⟨_, rfl, HEND.out, HMV9.out⟩
    · have hb2 := hb0.alloc hb0.size (.cells #[.string y.name, .string y.data, .int .i64 y.safe] 121)
      try simp only [List.getElem_toArray, List.getElem_cons_succ, List.getElem_cons_zero]
      go_simp
      refine hK.out _ _ ((hb2.block c3 hc3X).trans h3X) (fun hHeld => ?_)
      clear hK K
      try simp only [Act.put, List.setIfInBounds_toArray, List.set_cons_zero, List.set_cons_succ, List.getElem_toArray, List.getElem_cons_succ, List.getElem_cons_zero]
      have hsz2 := hb2.size
      have hn2 : Reads (X.drew.alloc (.cells #[.string y.name, .string y.data, .int .i64 y.safe] 121)) (X.heap.size + 1) 3 (some ⟨X.heap.size, 0, none⟩) 1 [.string y.name, .string y.data, .int .i64 y.safe] := reads_newN X.drew [.string y.name, .string y.data, .int .i64 y.safe] 121 #[.string y.name, .string y.data, .int .i64 y.safe] rfl (N := 3) rfl
      refine wpAnyH_ready (rs := [4]) (by kernel_rfl) (by simp) (AllReadyH.cons rfl (fun K hK => ?_) (AllReadyH.nil))
      have cl3 := (hb2.cell (p := ⟨x, 1, none⟩) (show x < X.heap.size from hxX)).trans cX
      try simp only [List.getElem_toArray, List.getElem_cons_succ, List.getElem_cons_zero]
      go_simp
      refine hK.out _ _ ((hb2.block c3 hc3X).trans h3X) (fun hHeld => ?_)
      clear hK K
      try simp only [Act.put, List.setIfInBounds_toArray, List.set_cons_zero, List.set_cons_succ, List.getElem_toArray, List.getElem_cons_succ, List.getElem_cons_zero]
      refine wpAnyH_take (i := 6) (v := ?_) rfl (by kernel_rfl) (by kernel_rfl) (by kernel_rfl) (fun _ _ _ h => h) (Or.inl ⟨by rfl, ?_⟩) (by assumption) ?_
      rotate_left
      · intro X9 hSw; (try dsimp only at hSw); (try simp only [List.getElem_toArray, List.getElem_cons_succ, List.getElem_cons_zero]); first | (go_simp; done) | (go_simp; with_reducible rfl)
      try simp only [Act.put, List.setIfInBounds_toArray, List.set_cons_zero, List.set_cons_succ, List.getElem_toArray, List.getElem_cons_succ, List.getElem_cons_zero]
      refine wpAnyH_ready (rs := [7]) (by kernel_rfl) (by simp) (AllReadyH.cons rfl (fun K hK => ?_) (AllReadyH.nil))
      refine step_append_any ((X.drew.alloc (.cells #[.string y.name, .string y.data, .int .i64 y.safe] 121))) rfl (.const (.slice none 0 0)) (.tmp 34) 89 rfl X.heap.size 121 i0 z0 3 40 Tryz.underlying89 hinf hz0 hz1 hz2 hz3 (by decide) (.slice none 0 0) 0 [] (by rfl) (World.ownsRow_nil _ _ _ _) X.heap.size A j _ (cellsOf (P.take j)) (by rfl) (HP.out.below hb2) (cellsOf_one _ oneF5) (by unfold maxLen; omega) (by omega) hb2.size ?_
      intro v4 w4 ho4 hg4 hl4
      rw [Nat.zero_add, List.nil_append] at ho4
      have hb4 := hb2.grown hg4 hb2.size (fun q hq => by simp [Value.ownBlock] at hq)
      have hsz4 := hb4.size
      have hn4 := hn2.grown hg4 (by simp) (by simp [Value.ownBlock])
      clear hg4 hl4
      refine hK.out _ _ ((hb4.block c3 hc3X).trans h3X) (fun hHeld => ?_)
      clear hK K
      try simp only [Act.put, List.setIfInBounds_toArray, List.set_cons_zero, List.set_cons_succ, List.getElem_toArray, List.getElem_cons_succ, List.getElem_cons_zero]
      refine wpAnyH_ready (rs := [10]) (by kernel_rfl) (by simp) (AllReadyH.cons rfl (fun K hK => ?_) (AllReadyH.nil))
      refine step_append_any (w4) rfl (.tmp 35) (.tmp 37) 89 rfl X.heap.size 121 i0 z0 3 40 Tryz.underlying89 hinf hz0 hz1 hz2 hz3 (by decide) v4 j (cellsOf (P.take j)) (by rfl) ho4 (X.heap.size + 1) (some ⟨X.heap.size, 0, none⟩) 1 1 [.string y.name, .string y.data, .int .i64 y.safe] (by rfl) hn4 (oneF5 y) (by unfold maxLen; omega) (by omega) hb4.size ?_
      intro v5 w5 ho5 hg5 hl5
      have hb5 := hb4.grown hg5 hb4.size (fun q hq => (ho4.lt q hq).1)
      have hsz5 := hb5.size
      clear hg5 hl5
      refine hK.out _ _ ((hb5.block c3 hc3X).trans h3X) (fun hHeld => ?_)
      clear hK K
      try simp only [Act.put, List.setIfInBounds_toArray, List.set_cons_zero, List.set_cons_succ, List.getElem_toArray, List.getElem_cons_succ, List.getElem_cons_zero]
      refine wpAnyH_ready (rs := [17]) (by kernel_rfl) (by simp) (AllReadyH.cons rfl (fun K hK => ?_) (AllReadyH.nil))
      refine step_append_any (w5) rfl (.tmp 38) (.tmp 44) 89 rfl X.heap.size 121 i0 z0 3 40 Tryz.underlying89 hinf hz0 hz1 hz2 hz3 (by decide) v5 (j + 1) (cellsOf (P.take j) ++ [.string y.name, .string y.data, .int .i64 y.safe]) (by rfl) ho5 X.heap.size _ (n - j) _ (cellsOf (P.drop j)) (by rfl) (HD.out.below hb5) (cellsOf_one _ oneF5) (by unfold maxLen; omega) (by omega) hb5.size ?_
      intro v6 w6 ho6 hg6 hl6
      have hb6 := hb5.grown hg6 hb5.size (fun q hq => (ho5.lt q hq).1)
      have hsz6 := hb6.size
      obtain ⟨A9, c9, rfl, hc9⟩ := own_form ho6
      clear hg6 hl6
      refine hK.out _ _ ((hb6.block c3 hc3X).trans h3X) (fun hHeld => ?_)
      clear hK K
      try simp only [Act.put, List.setIfInBounds_toArray, List.set_cons_zero, List.set_cons_succ, List.getElem_toArray, List.getElem_cons_succ, List.getElem_cons_zero]
      refine wpAnyH_take (i := 18) (v := ?_) rfl (by kernel_rfl) (by kernel_rfl) (by kernel_rfl) (fun _ _ _ h => h) (Or.inl ⟨by rfl, ?_⟩) (by assumption) ?_
      rotate_left
      · intro X9 hSw; (try dsimp only at hSw); (try simp only [List.getElem_toArray, List.getElem_cons_succ, List.getElem_cons_zero]); first | (go_simp; done) | (go_simp; with_reducible rfl)
      try simp only [Act.put, List.setIfInBounds_toArray, List.set_cons_zero, List.set_cons_succ, List.getElem_toArray, List.getElem_cons_succ, List.getElem_cons_zero]
      refine wpAnyH_take (i := 19) (v := ?_) rfl (by kernel_rfl) (by kernel_rfl) (by kernel_rfl) (fun _ _ _ h => h) (Or.inl ⟨by rfl, ?_⟩) (by assumption) ?_
      rotate_left
      · intro X9 hSw; (try dsimp only at hSw); (try simp only [List.getElem_toArray, List.getElem_cons_succ, List.getElem_cons_zero]); first | (go_simp; done) | (go_simp; with_reducible rfl)
      try simp only [Act.put, List.setIfInBounds_toArray, List.set_cons_zero, List.set_cons_succ, List.getElem_toArray, List.getElem_cons_succ, List.getElem_cons_zero]
      refine wpAnyH_ready (rs := [20]) (by kernel_rfl) (by simp) (AllReadyH.cons rfl (fun K hK => ?_) (AllReadyH.nil))
      have cl7 := (hb6.cell (p := ⟨x, 1, none⟩) (show x < X.heap.size from hxX)).trans cX
      have fl7 : w6.frozen? ⟨x, 1, none⟩ = false := (HRK.out.below hb6).frozen 1
      try simp only [List.getElem_toArray, List.getElem_cons_succ, List.getElem_cons_zero]
      go_simp
      refine hK.out _ _ ((Below.heap_setCell _ ⟨x, 1, none⟩ _ _ hx3).trans ((hb6.block c3 hc3X).trans h3X)) (fun hHeld => ?_)
      clear hK K
      try simp only [Act.put, List.setIfInBounds_toArray, List.set_cons_zero, List.set_cons_succ, List.getElem_toArray, List.getElem_cons_succ, List.getElem_cons_zero]
      refine wpAnyH_done (by kernel_rfl) ?_ _
      have HROW9 : w6.ownsRow X.heap.size 121 3 (.slice A9 (j + 1 + (n - j)) c9) (j + 1 + (n - j)) (cellsOf (insK P y)) := by
        rw [HIN.out, cellsOf_app, cellsOf_app]
        exact ho6
      have HEND := Lib.hid ((HRK.out.below hb6).setL HROW9 HIL.out (show x < X.heap.size from hxX))
      have HMV9 := Lib.hid (mv_row (x := x) (S := S) HXS.out (HXW.out.trans (hb6.mono HXW.out.size)) (fun k hk => Nat.le_trans HXW.out.size (HROW9.lt k hk).1) 1)
      clear HROW9 ho6 cX h3X
      go_wp2
      all_goals
        go_end0
        first | exact ⟨rfl, _, HEND.out, HMV9.out⟩ | exact ⟨_, rfl, HEND.out, HMV9.out⟩
set_option maxHeartbeats 40000000 in
theorem cut5_any (x : Nat) (S : List Nat) (r : D5) (j : Nat) (X : World) (h : D5At x S r X) (hlen : r.l.length ≤ 100000) (hj : j < r.l.length) :
    Calls Tryz.prog 168 #[.pointer (some ⟨x, 0, none⟩), .int .i64 j] X fun e w' => ∃ S', e = .returned (.tuple #[]) ∧ D5At x S' (r.with (r.l.take j ++ r.l.drop (j + 1))) w' ∧ Mv S S' X w' := by
  obtain ⟨i0, z0, hinf, hz0, hz1, hz2, hz3⟩ := info_all infoF
  have hxX := h.lt
  have HXS := Lib.hid h.own
  obtain ⟨A, c, cX, hcap0, hrow0⟩ := h.row
  obtain ⟨P, hP⟩ : ∃ P, r.l = P := ⟨_, rfl⟩
  rw [hP] at cX hcap0 hrow0 hlen hj ⊢
  obtain ⟨n, hn⟩ : ∃ n, P.length = n := ⟨_, rfl⟩
  rw [hn] at cX hcap0 hlen hj
  have HLP := Lib.hid hn
  have HRK := Lib.hid h
  have HP : Hid (Reads X X.heap.size 3 A j (cellsOf (P.take j))) := by
    have := (hrow0.take j).reads (fun x _ => csF x)
    rw [List.length_take, HLP.out, Nat.min_eq_left (by omega)] at this
    exact this
  have hRd := hrow0.reads (fun x _ => csF x)
  rw [HLP.out] at hRd
  obtain ⟨m, hm⟩ : ∃ m, j + 1 = m := ⟨_, rfl⟩
  rw [hm]
  have hw1 : IntKind.i64.wrap ((j : Int) + 1) = (m : Int) := by rw [IntKind.wrap_i64]; omega
  have hmn : m ≤ n := by omega
  have hmc : m ≤ c := by omega
  have hRd2 := hRd.cut hmn hcap0
  rw [← cellsOf_drop (fun x _ => csF x)] at hRd2
  have HD := Lib.hid hRd2
  have HIL : Hid ((P.take j ++ P.drop m).length = j + (n - m)) := by show _ = _; rw [List.length_append, List.length_take, List.length_drop, HLP.out]; omega
  have hjc : j ≤ c := by omega
  have b1 : (0 : Int) ≤ (j : Int) := by omega
  have hXd : X.drew.heap.size = X.heap.size := rfl
  have hb0 : Below X.heap.size X X.drew := (Below.refl _ _).drew
  clear hn hP h hrow0 hRd hRd2 hm
  go_enter Tryz.func168, Tryz.ntmps168
  go_wp2
  refine wp_region_held_drew (S := fun _ => True) (by kernel_rfl) trivial (fun hHeld => ?_)
  refine wpAnyH_take (i := 0) (v := ?_) rfl (by kernel_rfl) (by kernel_rfl) (by kernel_rfl) (fun _ _ _ h => h) (Or.inl ⟨by rfl, ?_⟩) (by assumption) ?_
  rotate_left
  · intro X9 hSw; (try dsimp only at hSw); (try simp only [List.getElem_toArray, List.getElem_cons_zero]); first | (go_simp; done) | (go_simp; with_reducible rfl)
  try simp only [Act.put, List.setIfInBounds_toArray, List.set_cons_zero, List.set_cons_succ, List.getElem_toArray, List.getElem_cons_zero]
  refine wpAnyH_take (i := 1) (v := ?_) rfl (by kernel_rfl) (by kernel_rfl) (by kernel_rfl) (fun _ _ _ h => h) (Or.inl ⟨by rfl, ?_⟩) (by assumption) ?_
  rotate_left
  · intro X9 hSw; (try dsimp only at hSw); (try simp only [List.getElem_toArray, List.getElem_cons_succ, List.getElem_cons_zero]); first | (go_simp; done) | (go_simp; with_reducible rfl)
  try simp only [Act.put, List.setIfInBounds_toArray, List.set_cons_zero, List.set_cons_succ, List.getElem_toArray, List.getElem_cons_succ, List.getElem_cons_zero]
  refine wpAnyH_take (i := 2) (v := ?_) rfl (by kernel_rfl) (by kernel_rfl) (by kernel_rfl) (fun _ _ _ h => h) (Or.inl ⟨by rfl, ?_⟩) (by assumption) ?_
  rotate_left
  · intro X9 hSw; (try dsimp only at hSw); (try simp only [List.getElem_toArray, List.getElem_cons_succ, List.getElem_cons_zero]); first | (go_simp; done) | (go_simp; with_reducible rfl)
  try simp only [Act.put, List.setIfInBounds_toArray, List.set_cons_zero, List.set_cons_succ, List.getElem_toArray, List.getElem_cons_succ, List.getElem_cons_zero]
  refine wpAnyH_take (i := 3) (v := ?_) rfl (by kernel_rfl) (by kernel_rfl) (by kernel_rfl) (fun _ _ _ h => h) (Or.inl ⟨by rfl, ?_⟩) (by assumption) ?_
  rotate_left
  · intro X9 hSw; (try dsimp only at hSw); (try simp only [List.getElem_toArray, List.getElem_cons_succ, List.getElem_cons_zero]); first | (go_simp; done) | (go_simp; with_reducible rfl)
  try simp only [Act.put, List.setIfInBounds_toArray, List.set_cons_zero, List.set_cons_succ, List.getElem_toArray, List.getElem_cons_succ, List.getElem_cons_zero]
  refine wpAnyH_take (i := 5) (v := ?_) rfl (by kernel_rfl) (by kernel_rfl) (by kernel_rfl) (fun _ _ _ h => h) (Or.inl ⟨by rfl, ?_⟩) (by assumption) ?_
  rotate_left
  · intro X9 hSw; (try dsimp only at hSw); (try simp only [List.getElem_toArray, List.getElem_cons_succ, List.getElem_cons_zero]); first | (go_simp; done) | (go_simp; with_reducible rfl)
  try simp only [Act.put, List.setIfInBounds_toArray, List.set_cons_zero, List.set_cons_succ, List.getElem_toArray, List.getElem_cons_succ, List.getElem_cons_zero]
  refine wpAnyH_take (i := 8) (v := ?_) rfl (by kernel_rfl) (by kernel_rfl) (by kernel_rfl) (fun _ _ _ h => h) (Or.inl ⟨by rfl, ?_⟩) (by assumption) ?_
  rotate_left
  · intro X9 hSw; (try dsimp only at hSw); (try simp only [List.getElem_toArray, List.getElem_cons_succ, List.getElem_cons_zero]); first | (go_simp; done) | (go_simp; with_reducible rfl)
  try simp only [Act.put, List.setIfInBounds_toArray, List.set_cons_zero, List.set_cons_succ, List.getElem_toArray, List.getElem_cons_succ, List.getElem_cons_zero]
  refine wpAnyH_take (i := 9) (v := ?_) rfl (by kernel_rfl) (by kernel_rfl) (by kernel_rfl) (fun _ _ _ h => h) (Or.inl ⟨by rfl, ?_⟩) (by assumption) ?_
  rotate_left
  · intro X9 hSw; (try dsimp only at hSw); (try simp only [List.getElem_toArray, List.getElem_cons_succ, List.getElem_cons_zero]); first | (go_simp; done) | (go_simp; with_reducible rfl)
  try simp only [Act.put, List.setIfInBounds_toArray, List.set_cons_zero, List.set_cons_succ, List.getElem_toArray, List.getElem_cons_succ, List.getElem_cons_zero]
  refine wpAnyH_take (i := 10) (v := ?_) rfl (by kernel_rfl) (by kernel_rfl) (by kernel_rfl) (fun _ _ _ h => h) (Or.inl ⟨by rfl, ?_⟩) (by assumption) ?_
  rotate_left
  · intro X9 hSw; (try dsimp only at hSw); (try simp only [List.getElem_toArray, List.getElem_cons_succ, List.getElem_cons_zero]); first | (go_simp; done) | (go_simp; with_reducible rfl)
  try simp only [Act.put, List.setIfInBounds_toArray, List.set_cons_zero, List.set_cons_succ, List.getElem_toArray, List.getElem_cons_succ, List.getElem_cons_zero]
  refine wpAnyH_take (i := 12) (v := ?_) rfl (by kernel_rfl) (by kernel_rfl) (by kernel_rfl) (fun _ _ _ h => h) (Or.inl ⟨by rfl, ?_⟩) (by assumption) ?_
  rotate_left
  · intro X9 hSw; (try dsimp only at hSw); (try simp only [List.getElem_toArray, List.getElem_cons_succ, List.getElem_cons_zero]); first | (go_simp; done) | (go_simp; with_reducible rfl)
  try simp only [Act.put, List.setIfInBounds_toArray, List.set_cons_zero, List.set_cons_succ, List.getElem_toArray, List.getElem_cons_succ, List.getElem_cons_zero]
  refine wpAnyH_take (i := 13) (v := ?_) rfl (by kernel_rfl) (by kernel_rfl) (by kernel_rfl) (fun _ _ _ h => h) (Or.inl ⟨by rfl, ?_⟩) (by assumption) ?_
  rotate_left
  · intro X9 hSw; (try dsimp only at hSw); (try simp only [List.getElem_toArray, List.getElem_cons_succ, List.getElem_cons_zero]); first | (go_simp; done) | (go_simp; with_reducible rfl)
  try simp only [Act.put, List.setIfInBounds_toArray, List.set_cons_zero, List.set_cons_succ, List.getElem_toArray, List.getElem_cons_succ, List.getElem_cons_zero]
  refine wpAnyH_ready (rs := [4, 11]) (by kernel_rfl) (by simp) (AllReadyH.cons rfl (fun K hK => ?_) (AllReadyH.cons rfl (fun K hK => ?_) (AllReadyH.nil)))
  · have cl1 := (hb0.cell (p := ⟨x, 1, none⟩) (show x < X.heap.size from hxX)).trans cX
    try simp only [List.getElem_toArray, List.getElem_cons_succ, List.getElem_cons_zero]
    go_simp
    refine hK.out _ _ (trivial) (fun hHeld => ?_)
    clear hK K
    try simp only [Act.put, List.setIfInBounds_toArray, List.set_cons_zero, List.set_cons_succ, List.getElem_toArray, List.getElem_cons_succ, List.getElem_cons_zero]
    refine wpAnyH_take (i := 6) (v := ?_) rfl (by kernel_rfl) (by kernel_rfl) (by kernel_rfl) (fun _ _ _ h => h) (Or.inl ⟨by rfl, ?_⟩) (by assumption) ?_
    rotate_left
    · intro X9 hSw; (try dsimp only at hSw); (try simp only [List.getElem_toArray, List.getElem_cons_succ, List.getElem_cons_zero]); first | (go_simp; done) | (go_simp; with_reducible rfl)
    try simp only [Act.put, List.setIfInBounds_toArray, List.set_cons_zero, List.set_cons_succ, List.getElem_toArray, List.getElem_cons_succ, List.getElem_cons_zero]
    refine wpAnyH_ready (rs := [7, 11]) (by kernel_rfl) (by simp) (AllReadyH.cons rfl (fun K hK => ?_) (AllReadyH.cons rfl (fun K hK => ?_) (AllReadyH.nil)))
    · refine step_append_any (X.drew) rfl (.const (.slice none 0 0)) (.tmp 10) 89 rfl X.heap.size 121 i0 z0 3 40 Tryz.underlying89 hinf hz0 hz1 hz2 hz3 (by decide) (.slice none 0 0) 0 [] (by rfl) (World.ownsRow_nil _ _ _ _) X.heap.size A j _ (cellsOf (P.take j)) (by rfl) (HP.out.below hb0) (cellsOf_one _ oneF5) (by unfold maxLen; omega) (by omega) hb0.size ?_
      intro v2 w2 ho2 hg2 hl2
      rw [Nat.zero_add, List.nil_append] at ho2
      have hb2 := hb0.grown hg2 hb0.size (fun q hq => by simp [Value.ownBlock] at hq)
      have hsz2 := hb2.size
      clear hg2 hl2
      refine hK.out _ _ (trivial) (fun hHeld => ?_)
      clear hK K
      try simp only [Act.put, List.setIfInBounds_toArray, List.set_cons_zero, List.set_cons_succ, List.getElem_toArray, List.getElem_cons_succ, List.getElem_cons_zero]
      refine wpAnyH_ready (rs := [11]) (by kernel_rfl) (by simp) (AllReadyH.cons rfl (fun K hK => ?_) (AllReadyH.nil))
      have cl3 := (hb2.cell (p := ⟨x, 1, none⟩) (show x < X.heap.size from hxX)).trans cX
      try simp only [List.getElem_toArray, List.getElem_cons_succ, List.getElem_cons_zero]
      go_simp
      refine hK.out _ _ (trivial) (fun hHeld => ?_)
      clear hK K
      try simp only [Act.put, List.setIfInBounds_toArray, List.set_cons_zero, List.set_cons_succ, List.getElem_toArray, List.getElem_cons_succ, List.getElem_cons_zero]
      refine wpAnyH_take (i := 14) (v := ?_) rfl (by kernel_rfl) (by kernel_rfl) (by kernel_rfl) (fun _ _ _ h => h) (Or.inl ⟨by rfl, ?_⟩) (by assumption) ?_
      rotate_left
      · intro X9 hSw; (try dsimp only at hSw); (try simp only [List.getElem_toArray, List.getElem_cons_succ, List.getElem_cons_zero]); first | (go_simp; done) | (go_simp; with_reducible rfl)
      try simp only [Act.put, List.setIfInBounds_toArray, List.set_cons_zero, List.set_cons_succ, List.getElem_toArray, List.getElem_cons_succ, List.getElem_cons_zero]
      refine wpAnyH_ready (rs := [15]) (by kernel_rfl) (by simp) (AllReadyH.cons rfl (fun K hK => ?_) (AllReadyH.nil))
      refine step_append_any (w2) rfl (.tmp 11) (.tmp 18) 89 rfl X.heap.size 121 i0 z0 3 40 Tryz.underlying89 hinf hz0 hz1 hz2 hz3 (by decide) v2 (j) (cellsOf (P.take j)) (by rfl) ho2 X.heap.size _ (n - m) _ (cellsOf (P.drop m)) (by rfl) (HD.out.below hb2) (cellsOf_one _ oneF5) (by unfold maxLen; omega) (by omega) hb2.size ?_
      intro v4 w4 ho4 hg4 hl4
      have hb4 := hb2.grown hg4 hb2.size (fun q hq => (ho2.lt q hq).1)
      have hsz4 := hb4.size
      obtain ⟨A9, c9, rfl, hc9⟩ := own_form ho4
      clear hg4 hl4
      refine hK.out _ _ (trivial) (fun hHeld => ?_)
      clear hK K
      try simp only [Act.put, List.setIfInBounds_toArray, List.set_cons_zero, List.set_cons_succ, List.getElem_toArray, List.getElem_cons_succ, List.getElem_cons_zero]
      refine wpAnyH_take (i := 16) (v := ?_) rfl (by kernel_rfl) (by kernel_rfl) (by kernel_rfl) (fun _ _ _ h => h) (Or.inl ⟨by rfl, ?_⟩) (by assumption) ?_
      rotate_left
      · intro X9 hSw; (try dsimp only at hSw); (try simp only [List.getElem_toArray, List.getElem_cons_succ, List.getElem_cons_zero]); first | (go_simp; done) | (go_simp; with_reducible rfl)
      try simp only [Act.put, List.setIfInBounds_toArray, List.set_cons_zero, List.set_cons_succ, List.getElem_toArray, List.getElem_cons_succ, List.getElem_cons_zero]
      refine wpAnyH_take (i := 17) (v := ?_) rfl (by kernel_rfl) (by kernel_rfl) (by kernel_rfl) (fun _ _ _ h => h) (Or.inl ⟨by rfl, ?_⟩) (by assumption) ?_
      rotate_left
      · intro X9 hSw; (try dsimp only at hSw); (try simp only [List.getElem_toArray, List.getElem_cons_succ, List.getElem_cons_zero]); first | (go_simp; done) | (go_simp; with_reducible rfl)
      try simp only [Act.put, List.setIfInBounds_toArray, List.set_cons_zero, List.set_cons_succ, List.getElem_toArray, List.getElem_cons_succ, List.getElem_cons_zero]
      refine wpAnyH_ready (rs := [18]) (by kernel_rfl) (by simp) (AllReadyH.cons rfl (fun K hK => ?_) (AllReadyH.nil))
      have cl5 := (hb4.cell (p := ⟨x, 1, none⟩) (show x < X.heap.size from hxX)).trans cX
      have fl5 : w4.frozen? ⟨x, 1, none⟩ = false := (HRK.out.below hb4).frozen 1
      try simp only [List.getElem_toArray, List.getElem_cons_succ, List.getElem_cons_zero]
      go_simp
      refine hK.out _ _ (trivial) (fun hHeld => ?_)
      clear hK K
      try simp only [Act.put, List.setIfInBounds_toArray, List.set_cons_zero, List.set_cons_succ, List.getElem_toArray, List.getElem_cons_succ, List.getElem_cons_zero]
      refine wpAnyH_done (by kernel_rfl) ?_ _
      have HROW9 : w4.ownsRow X.heap.size 121 3 (.slice A9 (j + (n - m)) c9) (j + (n - m)) (cellsOf (P.take j ++ P.drop m)) := by
        rw [cellsOf_app]
        exact ho4
      have HEND := Lib.hid ((HRK.out.below hb4).setL HROW9 HIL.out (show x < X.heap.size from hxX))
      have HMV9 := Lib.hid (mv_row (x := x) (S := S) HXS.out hb4 (fun k hk => (HROW9.lt k hk).1) 1)
      clear HROW9 ho4 cX
      go_wp2
      all_goals
        go_end0
        first | exact ⟨rfl, _, HEND.out, HMV9.out⟩ | exact ⟨_, rfl, HEND.out, HMV9.out⟩
    · have cl2 := (hb0.cell (p := ⟨x, 1, none⟩) (show x < X.heap.size from hxX)).trans cX
      try simp only [List.getElem_toArray, List.getElem_cons_succ, List.getElem_cons_zero]
      go_simp
      refine hK.out _ _ (trivial) (fun hHeld => ?_)
      clear hK K
      try simp only [Act.put, List.setIfInBounds_toArray, List.set_cons_zero, List.set_cons_succ, List.getElem_toArray, List.getElem_cons_succ, List.getElem_cons_zero]
      refine wpAnyH_take (i := 14) (v := ?_) rfl (by kernel_rfl) (by kernel_rfl) (by kernel_rfl) (fun _ _ _ h => h) (Or.inl ⟨by rfl, ?_⟩) (by assumption) ?_
      rotate_left
      · intro X9 hSw; (try dsimp only at hSw); (try simp only [List.getElem_toArray, List.getElem_cons_succ, List.getElem_cons_zero]); first | (go_simp; done) | (go_simp; with_reducible rfl)
      try simp only [Act.put, List.setIfInBounds_toArray, List.set_cons_zero, List.set_cons_succ, List.getElem_toArray, List.getElem_cons_succ, List.getElem_cons_zero]
      refine wpAnyH_ready (rs := [7]) (by kernel_rfl) (by simp) (AllReadyH.cons rfl (fun K hK => ?_) (AllReadyH.nil))
      refine step_append_any (X.drew) rfl (.const (.slice none 0 0)) (.tmp 10) 89 rfl X.heap.size 121 i0 z0 3 40 Tryz.underlying89 hinf hz0 hz1 hz2 hz3 (by decide) (.slice none 0 0) 0 [] (by rfl) (World.ownsRow_nil _ _ _ _) X.heap.size A j _ (cellsOf (P.take j)) (by rfl) (HP.out.below hb0) (cellsOf_one _ oneF5) (by unfold maxLen; omega) (by omega) hb0.size ?_
      intro v3 w3 ho3 hg3 hl3
      rw [Nat.zero_add, List.nil_append] at ho3
      have hb3 := hb0.grown hg3 hb0.size (fun q hq => by simp [Value.ownBlock] at hq)
      have hsz3 := hb3.size
      clear hg3 hl3
      refine hK.out _ _ (trivial) (fun hHeld => ?_)
      clear hK K
      try simp only [Act.put, List.setIfInBounds_toArray, List.set_cons_zero, List.set_cons_succ, List.getElem_toArray, List.getElem_cons_succ, List.getElem_cons_zero]
      refine wpAnyH_ready (rs := [15]) (by kernel_rfl) (by simp) (AllReadyH.cons rfl (fun K hK => ?_) (AllReadyH.nil))
      refine step_append_any (w3) rfl (.tmp 11) (.tmp 18) 89 rfl X.heap.size 121 i0 z0 3 40 Tryz.underlying89 hinf hz0 hz1 hz2 hz3 (by decide) v3 (j) (cellsOf (P.take j)) (by rfl) ho3 X.heap.size _ (n - m) _ (cellsOf (P.drop m)) (by rfl) (HD.out.below hb3) (cellsOf_one _ oneF5) (by unfold maxLen; omega) (by omega) hb3.size ?_
      intro v4 w4 ho4 hg4 hl4
      have hb4 := hb3.grown hg4 hb3.size (fun q hq => (ho3.lt q hq).1)
      have hsz4 := hb4.size
      obtain ⟨A9, c9, rfl, hc9⟩ := own_form ho4
      clear hg4 hl4
      refine hK.out _ _ (trivial) (fun hHeld => ?_)
      clear hK K
      try simp only [Act.put, List.setIfInBounds_toArray, List.set_cons_zero, List.set_cons_succ, List.getElem_toArray, List.getElem_cons_succ, List.getElem_cons_zero]
      refine wpAnyH_take (i := 16) (v := ?_) rfl (by kernel_rfl) (by kernel_rfl) (by kernel_rfl) (fun _ _ _ h => h) (Or.inl ⟨by rfl, ?_⟩) (by assumption) ?_
      rotate_left
      · intro X9 hSw; (try dsimp only at hSw); (try simp only [List.getElem_toArray, List.getElem_cons_succ, List.getElem_cons_zero]); first | (go_simp; done) | (go_simp; with_reducible rfl)
      try simp only [Act.put, List.setIfInBounds_toArray, List.set_cons_zero, List.set_cons_succ, List.getElem_toArray, List.getElem_cons_succ, List.getElem_cons_zero]
      refine wpAnyH_take (i := 17) (v := ?_) rfl (by kernel_rfl) (by kernel_rfl) (by kernel_rfl) (fun _ _ _ h => h) (Or.inl ⟨by rfl, ?_⟩) (by assumption) ?_
      rotate_left
      · intro X9 hSw; (try dsimp only at hSw); (try simp only [List.getElem_toArray, List.getElem_cons_succ, List.getElem_cons_zero]); first | (go_simp; done) | (go_simp; with_reducible rfl)
      try simp only [Act.put, List.setIfInBounds_toArray, List.set_cons_zero, List.set_cons_succ, List.getElem_toArray, List.getElem_cons_succ, List.getElem_cons_zero]
      refine wpAnyH_ready (rs := [18]) (by kernel_rfl) (by simp) (AllReadyH.cons rfl (fun K hK => ?_) (AllReadyH.nil))
      have cl5 := (hb4.cell (p := ⟨x, 1, none⟩) (show x < X.heap.size from hxX)).trans cX
      have fl5 : w4.frozen? ⟨x, 1, none⟩ = false := (HRK.out.below hb4).frozen 1
      try simp only [List.getElem_toArray, List.getElem_cons_succ, List.getElem_cons_zero]
      go_simp
      refine hK.out _ _ (trivial) (fun hHeld => ?_)
      clear hK K
      try simp only [Act.put, List.setIfInBounds_toArray, List.set_cons_zero, List.set_cons_succ, List.getElem_toArray, List.getElem_cons_succ, List.getElem_cons_zero]
      refine wpAnyH_done (by kernel_rfl) ?_ _
      have HROW9 : w4.ownsRow X.heap.size 121 3 (.slice A9 (j + (n - m)) c9) (j + (n - m)) (cellsOf (P.take j ++ P.drop m)) := by
        rw [cellsOf_app]
        exact ho4
      have HEND := Lib.hid ((HRK.out.below hb4).setL HROW9 HIL.out (show x < X.heap.size from hxX))
      have HMV9 := Lib.hid (mv_row (x := x) (S := S) HXS.out hb4 (fun k hk => (HROW9.lt k hk).1) 1)
      clear HROW9 ho4 cX
      go_wp2
      all_goals
        go_end0
        first | exact ⟨rfl, _, HEND.out, HMV9.out⟩ | exact ⟨_, rfl, HEND.out, HMV9.out⟩
  · have cl1 := (hb0.cell (p := ⟨x, 1, none⟩) (show x < X.heap.size from hxX)).trans cX
    try simp only [List.getElem_toArray, List.getElem_cons_succ, List.getElem_cons_zero]
    go_simp
    refine hK.out _ _ (trivial) (fun hHeld => ?_)
    clear hK K
    try simp only [Act.put, List.setIfInBounds_toArray, List.set_cons_zero, List.set_cons_succ, List.getElem_toArray, List.getElem_cons_succ, List.getElem_cons_zero]
    refine wpAnyH_take (i := 14) (v := ?_) rfl (by kernel_rfl) (by kernel_rfl) (by kernel_rfl) (fun _ _ _ h => h) (Or.inl ⟨by rfl, ?_⟩) (by assumption) ?_
    rotate_left
    · intro X9 hSw; (try dsimp only at hSw); (try simp only [List.getElem_toArray, List.getElem_cons_succ, List.getElem_cons_zero]); first | (go_simp; done) | (go_simp; with_reducible rfl)
    try simp only [Act.put, List.setIfInBounds_toArray, List.set_cons_zero, List.set_cons_succ, List.getElem_toArray, List.getElem_cons_succ, List.getElem_cons_zero]
    refine wpAnyH_ready (rs := [4]) (by kernel_rfl) (by simp) (AllReadyH.cons rfl (fun K hK => ?_) (AllReadyH.nil))
    have cl2 := (hb0.cell (p := ⟨x, 1, none⟩) (show x < X.heap.size from hxX)).trans cX
    try simp only [List.getElem_toArray, List.getElem_cons_succ, List.getElem_cons_zero]
    go_simp
    refine hK.out _ _ (trivial) (fun hHeld => ?_)
    clear hK K
    try simp only [Act.put, List.setIfInBounds_toArray, List.set_cons_zero, List.set_cons_succ, List.getElem_toArray, List.getElem_cons_succ, List.getElem_cons_zero]
    refine wpAnyH_take (i := 6) (v := ?_) rfl (by kernel_rfl) (by kernel_rfl) (by kernel_rfl) (fun _ _ _ h => h) (Or.inl ⟨by rfl, ?_⟩) (by assumption) ?_
    rotate_left
    · intro X9 hSw; (try dsimp only at hSw); (try simp only [List.getElem_toArray, List.getElem_cons_succ, List.getElem_cons_zero]); first | (go_simp; done) | (go_simp; with_reducible rfl)
    try simp only [Act.put, List.setIfInBounds_toArray, List.set_cons_zero, List.set_cons_succ, List.getElem_toArray, List.getElem_cons_succ, List.getElem_cons_zero]
    refine wpAnyH_ready (rs := [7]) (by kernel_rfl) (by simp) (AllReadyH.cons rfl (fun K hK => ?_) (AllReadyH.nil))
    refine step_append_any (X.drew) rfl (.const (.slice none 0 0)) (.tmp 10) 89 rfl X.heap.size 121 i0 z0 3 40 Tryz.underlying89 hinf hz0 hz1 hz2 hz3 (by decide) (.slice none 0 0) 0 [] (by rfl) (World.ownsRow_nil _ _ _ _) X.heap.size A j _ (cellsOf (P.take j)) (by rfl) (HP.out.below hb0) (cellsOf_one _ oneF5) (by unfold maxLen; omega) (by omega) hb0.size ?_
    intro v3 w3 ho3 hg3 hl3
    rw [Nat.zero_add, List.nil_append] at ho3
    have hb3 := hb0.grown hg3 hb0.size (fun q hq => by simp [Value.ownBlock] at hq)
    have hsz3 := hb3.size
    clear hg3 hl3
    refine hK.out _ _ (trivial) (fun hHeld => ?_)
    clear hK K
    try simp only [Act.put, List.setIfInBounds_toArray, List.set_cons_zero, List.set_cons_succ, List.getElem_toArray, List.getElem_cons_succ, List.getElem_cons_zero]
    refine wpAnyH_ready (rs := [15]) (by kernel_rfl) (by simp) (AllReadyH.cons rfl (fun K hK => ?_) (AllReadyH.nil))
    refine step_append_any (w3) rfl (.tmp 11) (.tmp 18) 89 rfl X.heap.size 121 i0 z0 3 40 Tryz.underlying89 hinf hz0 hz1 hz2 hz3 (by decide) v3 (j) (cellsOf (P.take j)) (by rfl) ho3 X.heap.size _ (n - m) _ (cellsOf (P.drop m)) (by rfl) (HD.out.below hb3) (cellsOf_one _ oneF5) (by unfold maxLen; omega) (by omega) hb3.size ?_
    intro v4 w4 ho4 hg4 hl4
    have hb4 := hb3.grown hg4 hb3.size (fun q hq => (ho3.lt q hq).1)
    have hsz4 := hb4.size
    obtain ⟨A9, c9, rfl, hc9⟩ := own_form ho4
    clear hg4 hl4
    refine hK.out _ _ (trivial) (fun hHeld => ?_)
    clear hK K
    try simp only [Act.put, List.setIfInBounds_toArray, List.set_cons_zero, List.set_cons_succ, List.getElem_toArray, List.getElem_cons_succ, List.getElem_cons_zero]
    refine wpAnyH_take (i := 16) (v := ?_) rfl (by kernel_rfl) (by kernel_rfl) (by kernel_rfl) (fun _ _ _ h => h) (Or.inl ⟨by rfl, ?_⟩) (by assumption) ?_
    rotate_left
    · intro X9 hSw; (try dsimp only at hSw); (try simp only [List.getElem_toArray, List.getElem_cons_succ, List.getElem_cons_zero]); first | (go_simp; done) | (go_simp; with_reducible rfl)
    try simp only [Act.put, List.setIfInBounds_toArray, List.set_cons_zero, List.set_cons_succ, List.getElem_toArray, List.getElem_cons_succ, List.getElem_cons_zero]
    refine wpAnyH_take (i := 17) (v := ?_) rfl (by kernel_rfl) (by kernel_rfl) (by kernel_rfl) (fun _ _ _ h => h) (Or.inl ⟨by rfl, ?_⟩) (by assumption) ?_
    rotate_left
    · intro X9 hSw; (try dsimp only at hSw); (try simp only [List.getElem_toArray, List.getElem_cons_succ, List.getElem_cons_zero]); first | (go_simp; done) | (go_simp; with_reducible rfl)
    try simp only [Act.put, List.setIfInBounds_toArray, List.set_cons_zero, List.set_cons_succ, List.getElem_toArray, List.getElem_cons_succ, List.getElem_cons_zero]
    refine wpAnyH_ready (rs := [18]) (by kernel_rfl) (by simp) (AllReadyH.cons rfl (fun K hK => ?_) (AllReadyH.nil))
    have cl5 := (hb4.cell (p := ⟨x, 1, none⟩) (show x < X.heap.size from hxX)).trans cX
    have fl5 : w4.frozen? ⟨x, 1, none⟩ = false := (HRK.out.below hb4).frozen 1
    try simp only [List.getElem_toArray, List.getElem_cons_succ, List.getElem_cons_zero]
    go_simp
    refine hK.out _ _ (trivial) (fun hHeld => ?_)
    clear hK K
    try simp only [Act.put, List.setIfInBounds_toArray, List.set_cons_zero, List.set_cons_succ, List.getElem_toArray, List.getElem_cons_succ, List.getElem_cons_zero]
    refine wpAnyH_done (by kernel_rfl) ?_ _
    have HROW9 : w4.ownsRow X.heap.size 121 3 (.slice A9 (j + (n - m)) c9) (j + (n - m)) (cellsOf (P.take j ++ P.drop m)) := by
      rw [cellsOf_app]
      exact ho4
    have HEND := Lib.hid ((HRK.out.below hb4).setL HROW9 HIL.out (show x < X.heap.size from hxX))
    have HMV9 := Lib.hid (mv_row (x := x) (S := S) HXS.out hb4 (fun k hk => (HROW9.lt k hk).1) 1)
    clear HROW9 ho4 cX
    go_wp2
    all_goals
      go_end0
      first | exact ⟨rfl, _, HEND.out, HMV9.out⟩ | exact ⟨_, rfl, HEND.out, HMV9.out⟩
end Go.Proofs.YtfmbadinfhpihaaGreat
