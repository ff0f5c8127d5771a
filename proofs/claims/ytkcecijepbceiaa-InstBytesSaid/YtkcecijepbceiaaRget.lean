/-
  The reference's GetTerm and Get as contracts, with every error.
  Conditions: a reader that the call has made.
-/
import Derived.Test.YtkcecijepbceiaaInstGetIE
namespace Go.Proofs.Ytkcecijepbceiaa
open Go.RowKit

set_option maxHeartbeats 40000000 in
set_option maxRecDepth 100000 in
theorem rgetTerm_any (g : Nat) (s : ByteArray) (r0 : Rd) (hk : r0.k ≤ s.size) (hs : s.size ≤ 1000000000) (w : World) (h : RcAt g s r0 w) :
    Calls Try.prog 28 #[.pointer (some ⟨g, 0, none⟩)] w fun e w' => e = .returned (.agg (rdTrm s r0).1.cells) ∧ RcAt g s (rdTrm s r0).2 w' ∧ Mv [g] [g] w w' := by
  obtain ⟨⟨p, r1⟩, q1⟩ : ∃ z, rdText s r0 = z := ⟨_, rfl⟩
  have k1 : r1.k ≤ s.size := by have z := rdText_k (s := s) hk; rw [q1] at z; exact z
  obtain ⟨⟨a, r2⟩, q2⟩ : ∃ z, rdText s r1 = z := ⟨_, rfl⟩
  have k2 : r2.k ≤ s.size := by have z := rdText_k (s := s) k1; rw [q2] at z; exact z
  obtain ⟨⟨m, r3⟩, q3⟩ : ∃ z, rdText s r2 = z := ⟨_, rfl⟩
  have k3 : r3.k ≤ s.size := by have z := rdText_k (s := s) k2; rw [q3] at z; exact z
  obtain ⟨⟨o, r4⟩, q4⟩ : ∃ z, rdText s r3 = z := ⟨_, rfl⟩
  have k4 : r4.k ≤ s.size := by have z := rdText_k (s := s) k3; rw [q4] at z; exact z
  obtain ⟨⟨ss, r5⟩, q5⟩ : ∃ z, rdText s r4 = z := ⟨_, rfl⟩
  have k5 : r5.k ≤ s.size := by have z := rdText_k (s := s) k4; rw [q5] at z; exact z
  obtain ⟨⟨c, r6⟩, q6⟩ : ∃ z, rdText s r5 = z := ⟨_, rfl⟩
  have k6 : r6.k ≤ s.size := by have z := rdText_k (s := s) k5; rw [q6] at z; exact z
  obtain ⟨⟨r, r7⟩, q7⟩ : ∃ z, rdText s r6 = z := ⟨_, rfl⟩
  have k7 : r7.k ≤ s.size := by have z := rdText_k (s := s) k6; rw [q7] at z; exact z
  obtain ⟨⟨dl, r8⟩, q8⟩ : ∃ z, rdBool s r7 = z := ⟨_, rfl⟩
  have k8 : r8.k ≤ s.size := by have z := rdBool_k (s := s) k7; rw [q8] at z; exact z
  obtain ⟨⟨q, r9⟩, q9⟩ : ∃ z, rdNum s r8 = z := ⟨_, rfl⟩
  have k9 : r9.k ≤ s.size := by have z := rdNum_k (s := s) k8; rw [q9] at z; exact z
  obtain ⟨⟨am, r10⟩, q10⟩ : ∃ z, rdNum s r9 = z := ⟨_, rfl⟩
  have k10 : r10.k ≤ s.size := by have z := rdNum_k (s := s) k9; rw [q10] at z; exact z
  obtain ⟨⟨dy, r11⟩, q11⟩ : ∃ z, rdNum s r10 = z := ⟨_, rfl⟩
  have k11 : r11.k ≤ s.size := by have z := rdNum_k (s := s) k10; rw [q11] at z; exact z
  obtain ⟨⟨td, r12⟩, q12⟩ : ∃ z, rdNum s r11 = z := ⟨_, rfl⟩
  have k12 : r12.k ≤ s.size := by have z := rdNum_k (s := s) k11; rw [q12] at z; exact z
  have hres : rdTrm s r0 = if r12.e ≠ 0 then (Trm.zero, r12) else (⟨p, a, m, o, dl, ss, c, r, q, am, dy, td⟩, r12) := by
    unfold rdTrm rdTrm1
    simp only [q1, q2, q3, q4, q5, q6, q7, q8, q9, q10, q11, q12]
  have Y1 := Lib.hid q1; have K1 := Lib.hid k1
  have Y2 := Lib.hid q2; have K2 := Lib.hid k2
  have Y3 := Lib.hid q3; have K3 := Lib.hid k3
  have Y4 := Lib.hid q4; have K4 := Lib.hid k4
  have Y5 := Lib.hid q5; have K5 := Lib.hid k5
  have Y6 := Lib.hid q6; have K6 := Lib.hid k6
  have Y7 := Lib.hid q7; have K7 := Lib.hid k7
  have Y8 := Lib.hid q8; have K8 := Lib.hid k8
  have Y9 := Lib.hid q9; have K9 := Lib.hid k9
  have Y10 := Lib.hid q10; have K10 := Lib.hid k10
  have Y11 := Lib.hid q11; have K11 := Lib.hid k11
  have Y12 := Lib.hid q12; have K12 := Lib.hid k12
  have K0 := Lib.hid hk
  have HRES := Lib.hid hres
  clear hres hk q1 k1 q2 k2 q3 k3 q4 k4 q5 k5 q6 k6 q7 k7 q8 k8 q9 k9 q10 k10 q11 k11 q12 k12
  have hgl : g < w.heap.size := h.lt
  obtain ⟨W0, hW0⟩ : ∃ W0, (w.alloc (.cells #[.string ⟨#[]⟩, .string ⟨#[]⟩, .string ⟨#[]⟩, .string ⟨#[]⟩, .bool false, .string ⟨#[]⟩, .string ⟨#[]⟩, .string ⟨#[]⟩, .int .i64 0, .int .i64 0, .int .i64 0, .int .i64 0] 23)).alloc (.cells #[.string ⟨#[]⟩, .string ⟨#[]⟩, .string ⟨#[]⟩, .string ⟨#[]⟩, .bool false, .string ⟨#[]⟩, .string ⟨#[]⟩, .string ⟨#[]⟩, .int .i64 0, .int .i64 0, .int .i64 0, .int .i64 0] 23) = W0 := ⟨_, rfl⟩
  have hbw : Below w.heap.size w W0 := by rw [← hW0]; exact ((Below.refl _ _).alloc (Nat.le_refl _) _).alloc (by simp) _
  have HB0 : Hid (W0.heap[w.heap.size + 1]? = some (.cells #[.string ⟨#[]⟩, .string ⟨#[]⟩, .string ⟨#[]⟩, .string ⟨#[]⟩, .bool false, .string ⟨#[]⟩, .string ⟨#[]⟩, .string ⟨#[]⟩, .int .i64 0, .int .i64 0, .int .i64 0, .int .i64 0] 23 (0, 0))) := by show _ = _; rw [← hW0]; have := heap_alloc_new (w.alloc (.cells #[.string ⟨#[]⟩, .string ⟨#[]⟩, .string ⟨#[]⟩, .string ⟨#[]⟩, .bool false, .string ⟨#[]⟩, .string ⟨#[]⟩, .string ⟨#[]⟩, .int .i64 0, .int .i64 0, .int .i64 0, .int .i64 0] 23)) (.cells #[.string ⟨#[]⟩, .string ⟨#[]⟩, .string ⟨#[]⟩, .string ⟨#[]⟩, .bool false, .string ⟨#[]⟩, .string ⟨#[]⟩, .string ⟨#[]⟩, .int .i64 0, .int .i64 0, .int .i64 0, .int .i64 0] 23); simpa using this
  have HC0 : Hid (W0.heap[w.heap.size]? = some (.cells #[.string ⟨#[]⟩, .string ⟨#[]⟩, .string ⟨#[]⟩, .string ⟨#[]⟩, .bool false, .string ⟨#[]⟩, .string ⟨#[]⟩, .string ⟨#[]⟩, .int .i64 0, .int .i64 0, .int .i64 0, .int .i64 0] 23 (0, 0))) := by show _ = _; rw [← hW0, Below.heap_alloc _ _ _ (by simp)]; exact heap_alloc_new w _
  have HR0 : Hid (RcAt g s r0 W0) := h.below hbw
  have HM0 : Hid (Mv [g] [g] w W0) := Mv.of_new hbw (fun _ h => .inl h)
  have HW0 := Lib.hid hW0
  clear h hW0 hbw
  go_enter Try.func28, Try.ntmps28
  go_wp2_with fail
  rw [HW0.out]
  obtain ⟨b3, hb3⟩ : ∃ b3, w.heap.size + 1 = b3 := ⟨_, rfl⟩
  rw [hb3] at HB0 ⊢
  obtain ⟨b2, hb2⟩ : ∃ b2, w.heap.size = b2 := ⟨_, rfl⟩
  rw [hb2] at HC0 hb3 hgl ⊢
  have HB2 := Lib.hid hb2
  have d32 : b3 ≠ b2 := by omega
  have g2 : b2 ≠ g := by omega
  have g3 : b3 ≠ g := by omega
  have hw3 : w.heap.size ≤ b3 := by omega
  clear HW0 hb3 hb2 hgl
  refine (cText_any g s Y1.out K0.out hs _ HR0.out).mono ?_
  rintro e w1 ⟨rfl, hr1, hm1⟩
  have hb1 := (hm1.block b3 (Blk.lt (t := 23) HB0.out) (by simpa using g3)).trans HB0.out
  have hc1 := (hm1.block b2 (Blk.lt (t := 23) HC0.out) (by simpa using g2)).trans HC0.out
  have HB_1 := Lib.hid hb1; have HC_1 := Lib.hid hc1; have HR_1 := Lib.hid hr1; have HM_1 := Lib.hid (HM0.out.trans hm1)
  clear hb1 hc1 hr1 hm1 HB0 HC0 HR0 HM0
  go_wp2_with fail
  refine (cText_any g s Y2.out K1.out hs _ HR_1.out).mono ?_
  rintro e w2 ⟨rfl, hr2, hm2⟩
  have hb2 := (hm2.block b3 (Blk.lt (t := 23) HB_1.out) (by simpa using g3)).trans HB_1.out
  have hc2 := (hm2.block b2 (Blk.lt (t := 23) HC_1.out) (by simpa using g2)).trans HC_1.out
  have HB_2 := Lib.hid hb2; have HC_2 := Lib.hid hc2; have HR_2 := Lib.hid hr2; have HM_2 := Lib.hid (HM_1.out.trans hm2)
  clear hb2 hc2 hr2 hm2 HB_1 HC_1 HR_1 HM_1
  go_wp2_with fail
  refine (cText_any g s Y3.out K2.out hs _ HR_2.out).mono ?_
  rintro e w3 ⟨rfl, hr3, hm3⟩
  have hb3 := (hm3.block b3 (Blk.lt (t := 23) HB_2.out) (by simpa using g3)).trans HB_2.out
  have hc3 := (hm3.block b2 (Blk.lt (t := 23) HC_2.out) (by simpa using g2)).trans HC_2.out
  have HB_3 := Lib.hid hb3; have HC_3 := Lib.hid hc3; have HR_3 := Lib.hid hr3; have HM_3 := Lib.hid (HM_2.out.trans hm3)
  clear hb3 hc3 hr3 hm3 HB_2 HC_2 HR_2 HM_2
  go_wp2_with fail
  refine (cText_any g s Y4.out K3.out hs _ HR_3.out).mono ?_
  rintro e w4 ⟨rfl, hr4, hm4⟩
  have hb4 := (hm4.block b3 (Blk.lt (t := 23) HB_3.out) (by simpa using g3)).trans HB_3.out
  have hc4 := (hm4.block b2 (Blk.lt (t := 23) HC_3.out) (by simpa using g2)).trans HC_3.out
  have HB_4 := Lib.hid hb4; have HC_4 := Lib.hid hc4; have HR_4 := Lib.hid hr4; have HM_4 := Lib.hid (HM_3.out.trans hm4)
  clear hb4 hc4 hr4 hm4 HB_3 HC_3 HR_3 HM_3
  have oc0 : w4.cell? ⟨b3, 0, none⟩ = some (.string ⟨#[]⟩) := by rw [Lib.cell_of_heap HB_4.out]; rfl
  have of0 : w4.frozen? ⟨b3, 0, none⟩ = false := Lib.frozen_of_heap HB_4.out 0
  have oc1 : w4.cell? ⟨b3, 1, none⟩ = some (.string ⟨#[]⟩) := by rw [Lib.cell_of_heap HB_4.out]; rfl
  have of1 : w4.frozen? ⟨b3, 1, none⟩ = false := Lib.frozen_of_heap HB_4.out 1
  have oc2 : w4.cell? ⟨b3, 2, none⟩ = some (.string ⟨#[]⟩) := by rw [Lib.cell_of_heap HB_4.out]; rfl
  have of2 : w4.frozen? ⟨b3, 2, none⟩ = false := Lib.frozen_of_heap HB_4.out 2
  have oc3 : w4.cell? ⟨b3, 3, none⟩ = some (.string ⟨#[]⟩) := by rw [Lib.cell_of_heap HB_4.out]; rfl
  have of3 : w4.frozen? ⟨b3, 3, none⟩ = false := Lib.frozen_of_heap HB_4.out 3
  obtain ⟨V1, hV⟩ : ∃ V, ((((w4.setCell ⟨b3, 0, none⟩ (.string p)).setCell ⟨b3, 1, none⟩ (.string a)).setCell ⟨b3, 2, none⟩ (.string m)).setCell ⟨b3, 3, none⟩ (.string o)) = V := ⟨_, rfl⟩
  have hB : V1.heap[b3]? = some (.cells #[.string p, .string a, .string m, .string o, .bool false, .string ⟨#[]⟩, .string ⟨#[]⟩, .string ⟨#[]⟩, .int .i64 0, .int .i64 0, .int .i64 0, .int .i64 0] 23 (0, 0)) := by rw [← hV]; exact (Blk.set_ (Blk.set_ (Blk.set_ (Blk.set_ (show Blk w4 b3 23 _ from HB_4.out) 0 _) 1 _) 2 _) 3 _)
  have hC : V1.heap[b2]? = some (.cells #[.string ⟨#[]⟩, .string ⟨#[]⟩, .string ⟨#[]⟩, .string ⟨#[]⟩, .bool false, .string ⟨#[]⟩, .string ⟨#[]⟩, .string ⟨#[]⟩, .int .i64 0, .int .i64 0, .int .i64 0, .int .i64 0] 23 (0, 0)) := by rw [← hV, Below.heap_setCell _ _ _ _ (show b2 ≠ b3 from d32.symm), Below.heap_setCell _ _ _ _ (show b2 ≠ b3 from d32.symm), Below.heap_setCell _ _ _ _ (show b2 ≠ b3 from d32.symm), Below.heap_setCell _ _ _ _ (show b2 ≠ b3 from d32.symm)]; exact HC_4.out
  have hR : RcAt g s r4 V1 := RcAt.keep HR_4.out (by rw [← hV, Below.heap_setCell _ _ _ _ (show g ≠ b3 from g3.symm), Below.heap_setCell _ _ _ _ (show g ≠ b3 from g3.symm), Below.heap_setCell _ _ _ _ (show g ≠ b3 from g3.symm), Below.heap_setCell _ _ _ _ (show g ≠ b3 from g3.symm)])
  have hM : Mv [g] [g] w V1 := by rw [← hV]; exact (mv_setNew (mv_setNew (mv_setNew (mv_setNew HM_4.out hw3 _ _) hw3 _ _) hw3 _ _) hw3 _ _)
  have HV := Lib.hid hV
  have HB1 := Lib.hid hB; have HC1 := Lib.hid hC; have HR1 := Lib.hid hR; have HM1 := Lib.hid hM
  clear hV hB hC hR hM
  go_wp2_with fail
  rw [HV.out]
  clear HV oc0 of0 oc1 of1 oc2 of2 oc3 of3 HB_4 HC_4 HR_4 HM_4
  refine (cText_any g s Y5.out K4.out hs _ HR1.out).mono ?_
  rintro e w5 ⟨rfl, hr5, hm5⟩
  have hb5 := (hm5.block b3 (Blk.lt (t := 23) HB1.out) (by simpa using g3)).trans HB1.out
  have hc5 := (hm5.block b2 (Blk.lt (t := 23) HC1.out) (by simpa using g2)).trans HC1.out
  have HB_5 := Lib.hid hb5; have HC_5 := Lib.hid hc5; have HR_5 := Lib.hid hr5; have HM_5 := Lib.hid (HM1.out.trans hm5)
  clear hb5 hc5 hr5 hm5 HB1 HC1 HR1 HM1
  go_wp2_with fail
  refine (cText_any g s Y6.out K5.out hs _ HR_5.out).mono ?_
  rintro e w6 ⟨rfl, hr6, hm6⟩
  have hb6 := (hm6.block b3 (Blk.lt (t := 23) HB_5.out) (by simpa using g3)).trans HB_5.out
  have hc6 := (hm6.block b2 (Blk.lt (t := 23) HC_5.out) (by simpa using g2)).trans HC_5.out
  have HB_6 := Lib.hid hb6; have HC_6 := Lib.hid hc6; have HR_6 := Lib.hid hr6; have HM_6 := Lib.hid (HM_5.out.trans hm6)
  clear hb6 hc6 hr6 hm6 HB_5 HC_5 HR_5 HM_5
  go_wp2_with fail
  refine (cText_any g s Y7.out K6.out hs _ HR_6.out).mono ?_
  rintro e w7 ⟨rfl, hr7, hm7⟩
  have hb7 := (hm7.block b3 (Blk.lt (t := 23) HB_6.out) (by simpa using g3)).trans HB_6.out
  have hc7 := (hm7.block b2 (Blk.lt (t := 23) HC_6.out) (by simpa using g2)).trans HC_6.out
  have HB_7 := Lib.hid hb7; have HC_7 := Lib.hid hc7; have HR_7 := Lib.hid hr7; have HM_7 := Lib.hid (HM_6.out.trans hm7)
  clear hb7 hc7 hr7 hm7 HB_6 HC_6 HR_6 HM_6
  have oc5 : w7.cell? ⟨b3, 5, none⟩ = some (.string ⟨#[]⟩) := by rw [Lib.cell_of_heap HB_7.out]; rfl
  have of5 : w7.frozen? ⟨b3, 5, none⟩ = false := Lib.frozen_of_heap HB_7.out 5
  have oc6 : w7.cell? ⟨b3, 6, none⟩ = some (.string ⟨#[]⟩) := by rw [Lib.cell_of_heap HB_7.out]; rfl
  have of6 : w7.frozen? ⟨b3, 6, none⟩ = false := Lib.frozen_of_heap HB_7.out 6
  have oc7 : w7.cell? ⟨b3, 7, none⟩ = some (.string ⟨#[]⟩) := by rw [Lib.cell_of_heap HB_7.out]; rfl
  have of7 : w7.frozen? ⟨b3, 7, none⟩ = false := Lib.frozen_of_heap HB_7.out 7
  obtain ⟨V2, hV⟩ : ∃ V, (((w7.setCell ⟨b3, 5, none⟩ (.string ss)).setCell ⟨b3, 6, none⟩ (.string c)).setCell ⟨b3, 7, none⟩ (.string r)) = V := ⟨_, rfl⟩
  have hB : V2.heap[b3]? = some (.cells #[.string p, .string a, .string m, .string o, .bool false, .string ss, .string c, .string r, .int .i64 0, .int .i64 0, .int .i64 0, .int .i64 0] 23 (0, 0)) := by rw [← hV]; exact (Blk.set_ (Blk.set_ (Blk.set_ (show Blk w7 b3 23 _ from HB_7.out) 5 _) 6 _) 7 _)
  have hC : V2.heap[b2]? = some (.cells #[.string ⟨#[]⟩, .string ⟨#[]⟩, .string ⟨#[]⟩, .string ⟨#[]⟩, .bool false, .string ⟨#[]⟩, .string ⟨#[]⟩, .string ⟨#[]⟩, .int .i64 0, .int .i64 0, .int .i64 0, .int .i64 0] 23 (0, 0)) := by rw [← hV, Below.heap_setCell _ _ _ _ (show b2 ≠ b3 from d32.symm), Below.heap_setCell _ _ _ _ (show b2 ≠ b3 from d32.symm), Below.heap_setCell _ _ _ _ (show b2 ≠ b3 from d32.symm)]; exact HC_7.out
  have hR : RcAt g s r7 V2 := RcAt.keep HR_7.out (by rw [← hV, Below.heap_setCell _ _ _ _ (show g ≠ b3 from g3.symm), Below.heap_setCell _ _ _ _ (show g ≠ b3 from g3.symm), Below.heap_setCell _ _ _ _ (show g ≠ b3 from g3.symm)])
  have hM : Mv [g] [g] w V2 := by rw [← hV]; exact (mv_setNew (mv_setNew (mv_setNew HM_7.out hw3 _ _) hw3 _ _) hw3 _ _)
  have HV := Lib.hid hV
  have HB2 := Lib.hid hB; have HC2 := Lib.hid hC; have HR2 := Lib.hid hR; have HM2 := Lib.hid hM
  clear hV hB hC hR hM
  go_wp2_with fail
  rw [HV.out]
  clear HV oc5 of5 oc6 of6 oc7 of7 HB_7 HC_7 HR_7 HM_7
  refine (cBool_any g s Y8.out K7.out hs _ HR2.out).mono ?_
  rintro e w8 ⟨rfl, hr8, hm8⟩
  have hb8 := (hm8.block b3 (Blk.lt (t := 23) HB2.out) (by simpa using g3)).trans HB2.out
  have hc8 := (hm8.block b2 (Blk.lt (t := 23) HC2.out) (by simpa using g2)).trans HC2.out
  have HB_8 := Lib.hid hb8; have HC_8 := Lib.hid hc8; have HR_8 := Lib.hid hr8; have HM_8 := Lib.hid (HM2.out.trans hm8)
  clear hb8 hc8 hr8 hm8 HB2 HC2 HR2 HM2
  have oc4 : w8.cell? ⟨b3, 4, none⟩ = some (.bool false) := by rw [Lib.cell_of_heap HB_8.out]; rfl
  have of4 : w8.frozen? ⟨b3, 4, none⟩ = false := Lib.frozen_of_heap HB_8.out 4
  obtain ⟨V3, hV⟩ : ∃ V, (w8.setCell ⟨b3, 4, none⟩ (.bool dl)) = V := ⟨_, rfl⟩
  have hB : V3.heap[b3]? = some (.cells #[.string p, .string a, .string m, .string o, .bool dl, .string ss, .string c, .string r, .int .i64 0, .int .i64 0, .int .i64 0, .int .i64 0] 23 (0, 0)) := by rw [← hV]; exact (Blk.set_ (show Blk w8 b3 23 _ from HB_8.out) 4 _)
  have hC : V3.heap[b2]? = some (.cells #[.string ⟨#[]⟩, .string ⟨#[]⟩, .string ⟨#[]⟩, .string ⟨#[]⟩, .bool false, .string ⟨#[]⟩, .string ⟨#[]⟩, .string ⟨#[]⟩, .int .i64 0, .int .i64 0, .int .i64 0, .int .i64 0] 23 (0, 0)) := by rw [← hV, Below.heap_setCell _ _ _ _ (show b2 ≠ b3 from d32.symm)]; exact HC_8.out
  have hR : RcAt g s r8 V3 := RcAt.keep HR_8.out (by rw [← hV, Below.heap_setCell _ _ _ _ (show g ≠ b3 from g3.symm)])
  have hM : Mv [g] [g] w V3 := by rw [← hV]; exact (mv_setNew HM_8.out hw3 _ _)
  have HV := Lib.hid hV
  have HB3 := Lib.hid hB; have HC3 := Lib.hid hC; have HR3 := Lib.hid hR; have HM3 := Lib.hid hM
  clear hV hB hC hR hM
  go_wp2_with fail
  rw [HV.out]
  clear HV oc4 of4 HB_8 HC_8 HR_8 HM_8
  refine (cNum_any g s Y9.out hs _ HR3.out).mono ?_
  rintro e w9 ⟨rfl, hr9, hm9⟩
  have hb9 := (hm9.block b3 (Blk.lt (t := 23) HB3.out) (by simpa using g3)).trans HB3.out
  have hc9 := (hm9.block b2 (Blk.lt (t := 23) HC3.out) (by simpa using g2)).trans HC3.out
  have HB_9 := Lib.hid hb9; have HC_9 := Lib.hid hc9; have HR_9 := Lib.hid hr9; have HM_9 := Lib.hid (HM3.out.trans hm9)
  clear hb9 hc9 hr9 hm9 HB3 HC3 HR3 HM3
  go_wp2_with fail
  refine (cNum_any g s Y10.out hs _ HR_9.out).mono ?_
  rintro e w10 ⟨rfl, hr10, hm10⟩
  have hb10 := (hm10.block b3 (Blk.lt (t := 23) HB_9.out) (by simpa using g3)).trans HB_9.out
  have hc10 := (hm10.block b2 (Blk.lt (t := 23) HC_9.out) (by simpa using g2)).trans HC_9.out
  have HB_10 := Lib.hid hb10; have HC_10 := Lib.hid hc10; have HR_10 := Lib.hid hr10; have HM_10 := Lib.hid (HM_9.out.trans hm10)
  clear hb10 hc10 hr10 hm10 HB_9 HC_9 HR_9 HM_9
  go_wp2_with fail
  refine (cNum_any g s Y11.out hs _ HR_10.out).mono ?_
  rintro e w11 ⟨rfl, hr11, hm11⟩
  have hb11 := (hm11.block b3 (Blk.lt (t := 23) HB_10.out) (by simpa using g3)).trans HB_10.out
  have hc11 := (hm11.block b2 (Blk.lt (t := 23) HC_10.out) (by simpa using g2)).trans HC_10.out
  have HB_11 := Lib.hid hb11; have HC_11 := Lib.hid hc11; have HR_11 := Lib.hid hr11; have HM_11 := Lib.hid (HM_10.out.trans hm11)
  clear hb11 hc11 hr11 hm11 HB_10 HC_10 HR_10 HM_10
  go_wp2_with fail
  refine (cNum_any g s Y12.out hs _ HR_11.out).mono ?_
  rintro e w12 ⟨rfl, hr12, hm12⟩
  have hb12 := (hm12.block b3 (Blk.lt (t := 23) HB_11.out) (by simpa using g3)).trans HB_11.out
  have hc12 := (hm12.block b2 (Blk.lt (t := 23) HC_11.out) (by simpa using g2)).trans HC_11.out
  have HB_12 := Lib.hid hb12; have HC_12 := Lib.hid hc12; have HR_12 := Lib.hid hr12; have HM_12 := Lib.hid (HM_11.out.trans hm12)
  clear hb12 hc12 hr12 hm12 HB_11 HC_11 HR_11 HM_11
  have oc8 : w12.cell? ⟨b3, 8, none⟩ = some (.int .i64 0) := by rw [Lib.cell_of_heap HB_12.out]; rfl
  have of8 : w12.frozen? ⟨b3, 8, none⟩ = false := Lib.frozen_of_heap HB_12.out 8
  have oc9 : w12.cell? ⟨b3, 9, none⟩ = some (.int .i64 0) := by rw [Lib.cell_of_heap HB_12.out]; rfl
  have of9 : w12.frozen? ⟨b3, 9, none⟩ = false := Lib.frozen_of_heap HB_12.out 9
  have oc10 : w12.cell? ⟨b3, 10, none⟩ = some (.int .i64 0) := by rw [Lib.cell_of_heap HB_12.out]; rfl
  have of10 : w12.frozen? ⟨b3, 10, none⟩ = false := Lib.frozen_of_heap HB_12.out 10
  have oc11 : w12.cell? ⟨b3, 11, none⟩ = some (.int .i64 0) := by rw [Lib.cell_of_heap HB_12.out]; rfl
  have of11 : w12.frozen? ⟨b3, 11, none⟩ = false := Lib.frozen_of_heap HB_12.out 11
  obtain ⟨V4, hV⟩ : ∃ V, ((((w12.setCell ⟨b3, 8, none⟩ (.int .i64 q)).setCell ⟨b3, 9, none⟩ (.int .i64 am)).setCell ⟨b3, 10, none⟩ (.int .i64 dy)).setCell ⟨b3, 11, none⟩ (.int .i64 td)) = V := ⟨_, rfl⟩
  have hB : V4.heap[b3]? = some (.cells #[.string p, .string a, .string m, .string o, .bool dl, .string ss, .string c, .string r, .int .i64 q, .int .i64 am, .int .i64 dy, .int .i64 td] 23 (0, 0)) := by rw [← hV]; exact (Blk.set_ (Blk.set_ (Blk.set_ (Blk.set_ (show Blk w12 b3 23 _ from HB_12.out) 8 _) 9 _) 10 _) 11 _)
  have hC : V4.heap[b2]? = some (.cells #[.string ⟨#[]⟩, .string ⟨#[]⟩, .string ⟨#[]⟩, .string ⟨#[]⟩, .bool false, .string ⟨#[]⟩, .string ⟨#[]⟩, .string ⟨#[]⟩, .int .i64 0, .int .i64 0, .int .i64 0, .int .i64 0] 23 (0, 0)) := by rw [← hV, Below.heap_setCell _ _ _ _ (show b2 ≠ b3 from d32.symm), Below.heap_setCell _ _ _ _ (show b2 ≠ b3 from d32.symm), Below.heap_setCell _ _ _ _ (show b2 ≠ b3 from d32.symm), Below.heap_setCell _ _ _ _ (show b2 ≠ b3 from d32.symm)]; exact HC_12.out
  have hR : RcAt g s r12 V4 := RcAt.keep HR_12.out (by rw [← hV, Below.heap_setCell _ _ _ _ (show g ≠ b3 from g3.symm), Below.heap_setCell _ _ _ _ (show g ≠ b3 from g3.symm), Below.heap_setCell _ _ _ _ (show g ≠ b3 from g3.symm), Below.heap_setCell _ _ _ _ (show g ≠ b3 from g3.symm)])
  have hM : Mv [g] [g] w V4 := by rw [← hV]; exact (mv_setNew (mv_setNew (mv_setNew (mv_setNew HM_12.out hw3 _ _) hw3 _ _) hw3 _ _) hw3 _ _)
  have HV := Lib.hid hV
  have HB4 := Lib.hid hB; have HC4 := Lib.hid hC; have HR4 := Lib.hid hR; have HM4 := Lib.hid hM
  clear hV hB hC hR hM
  have e1 : V4.cell? ⟨g, 1, none⟩ = some (.int .i64 r12.e) := RrAt.cell1 HR4.out
  clear HB_12 HC_12 HR_12 HM_12
  have E1 := Lib.hid e1
  clear e1
  by_cases he12 : r12.e = 0
  · have hb12 : (r12.e != 0) = false := by simp [he12]
    have e1 := E1.out
    rw [he12] at e1
    have hres := HRES.out
    rw [if_neg (by simp [he12])] at hres
    have HRES2 := Lib.hid hres
    clear hb12 hres he12 HRES
    go_wp2_with (first
      | (rw [HV.out])
      | (refine wpList_load_named rfl 23 _ rfl b3 rfl _ _ _ HB4.out Try.underlying23 rfl size_term _ rfl ?_)
      | (refine wpList_store_row rfl 23 _ _ rfl b2 _ rfl rfl _ _ HC4.out size_term rfl (by simp [Value.oneCell']) ?_))
    have hk := setRow_heap V4 b2 _ #[.string p, .string a, .string m, .string o, .bool dl, .string ss, .string c, .string r, .int .i64 q, .int .i64 am, .int .i64 dy, .int .i64 td] _ _ HC4.out
    refine bodyPost_ret (results_cell_row rfl _ _ b2 _ _ _ _ rfl hk Try.underlying23 rfl size_term) rfl ?_
    have hmv := mv_setRowNew HM4.out (Nat.le_of_eq HB2.out) #[.string p, .string a, .string m, .string o, .bool dl, .string ss, .string c, .string r, .int .i64 q, .int .i64 am, .int .i64 dy, .int .i64 td]
    rw [HRES2.out]
    exact ⟨rfl, RcAt.keep HR4.out (setRow_other V4 b2 g _ g2.symm), hmv⟩
  · have hb12 : (r12.e != 0) = true := by simp [he12]
    have e1 := E1.out
    have hres := HRES.out
    rw [if_pos he12] at hres
    have HRES2 := Lib.hid hres
    clear hres he12 HRES
    go_wp2_with (first
      | (rw [HV.out])
      | (refine wpList_load_named rfl 23 _ rfl b3 rfl _ _ _ HB4.out Try.underlying23 rfl size_term _ rfl ?_)
      | (refine wpList_store_row rfl 23 _ _ rfl b2 _ rfl rfl _ _ HC4.out size_term rfl (by simp [Value.oneCell']) ?_))
    have hk := setRow_heap V4 b2 _ #[.string ⟨#[]⟩, .string ⟨#[]⟩, .string ⟨#[]⟩, .string ⟨#[]⟩, .bool false, .string ⟨#[]⟩, .string ⟨#[]⟩, .string ⟨#[]⟩, .int .i64 0, .int .i64 0, .int .i64 0, .int .i64 0] _ _ HC4.out
    refine bodyPost_ret (results_cell_row rfl _ _ b2 _ _ _ _ rfl hk Try.underlying23 rfl size_term) rfl ?_
    have hmv := mv_setRowNew HM4.out (Nat.le_of_eq HB2.out) #[.string ⟨#[]⟩, .string ⟨#[]⟩, .string ⟨#[]⟩, .string ⟨#[]⟩, .bool false, .string ⟨#[]⟩, .string ⟨#[]⟩, .string ⟨#[]⟩, .int .i64 0, .int .i64 0, .int .i64 0, .int .i64 0]
    rw [HRES2.out]
    exact ⟨rfl, RcAt.keep HR4.out (setRow_other V4 b2 g _ g2.symm), hmv⟩

set_option maxHeartbeats 40000000 in
set_option maxRecDepth 100000 in
theorem rget_any (g : Nat) (s : ByteArray) (r0 : Rd) (hk : r0.k ≤ s.size) (hs : s.size ≤ 1000000000) (w : World) (h : RcAt g s r0 w) :
    Calls Try.prog 25 #[.pointer (some ⟨g, 0, none⟩)] w fun e w' => e = .returned (.agg (rdIns s r0).1.cells) ∧ RcAt g s (rdIns s r0).2 w' ∧ Mv [g] [g] w w' := by
  obtain ⟨⟨id, r1⟩, q1⟩ : ∃ z, rdNum s r0 = z := ⟨_, rfl⟩
  have k1 : r1.k ≤ s.size := by have z := rdNum_k (s := s) hk; rw [q1] at z; exact z
  obtain ⟨⟨⟨p, a, m, o, dl, ss, c, r, q, am, dy, td⟩, r2⟩, q2⟩ : ∃ z, rdTrm s r1 = z := ⟨_, rfl⟩
  have k2 : r2.k ≤ s.size := by have z := rdTrm_k (s := s) k1; rw [q2] at z; exact z
  obtain ⟨⟨pr, r3⟩, q3⟩ : ∃ z, rdNum s r2 = z := ⟨_, rfl⟩
  have k3 : r3.k ≤ s.size := by have z := rdNum_k (s := s) k2; rw [q3] at z; exact z
  obtain ⟨⟨part, r4⟩, q4⟩ : ∃ z, rdBool s r3 = z := ⟨_, rfl⟩
  have k4 : r4.k ≤ s.size := by have z := rdBool_k (s := s) k3; rw [q4] at z; exact z
  obtain ⟨⟨held, r5⟩, q5⟩ : ∃ z, rdBool s r4 = z := ⟨_, rfl⟩
  have k5 : r5.k ≤ s.size := by have z := rdBool_k (s := s) k4; rw [q5] at z; exact z
  obtain ⟨⟨wish, r6⟩, q6⟩ : ∃ z, rdBool s r5 = z := ⟨_, rfl⟩
  have k6 : r6.k ≤ s.size := by have z := rdBool_k (s := s) k5; rw [q6] at z; exact z
  obtain ⟨⟨st, r7⟩, q7⟩ : ∃ z, rdNum s r6 = z := ⟨_, rfl⟩
  have k7 : r7.k ≤ s.size := by have z := rdNum_k (s := s) k6; rw [q7] at z; exact z
  obtain ⟨⟨ma, r8⟩, q8⟩ : ∃ z, rdNum s r7 = z := ⟨_, rfl⟩
  have k8 : r8.k ≤ s.size := by have z := rdNum_k (s := s) k7; rw [q8] at z; exact z
  obtain ⟨⟨dn, r9⟩, q9⟩ : ∃ z, rdNum s r8 = z := ⟨_, rfl⟩
  have k9 : r9.k ≤ s.size := by have z := rdNum_k (s := s) k8; rw [q9] at z; exact z
  obtain ⟨⟨pd, r10⟩, q10⟩ : ∃ z, rdNum s r9 = z := ⟨_, rfl⟩
  have k10 : r10.k ≤ s.size := by have z := rdNum_k (s := s) k9; rw [q10] at z; exact z
  have hres : rdIns s r0 = if r10.e ≠ 0 then (Ins.zero, r10) else (⟨id, ⟨p, a, m, o, dl, ss, c, r, q, am, dy, td⟩, pr, part, held, wish, st, ma, dn, pd⟩, r10) := by
    unfold rdIns rdIns1
    simp only [q1, q2, q3, q4, q5, q6, q7, q8, q9, q10]
  have GT : Hid (∀ (w : World), RcAt g s r1 w → Calls Try.prog 28 #[.pointer (some ⟨g, 0, none⟩)] w fun e w' => e = .returned (.agg #[.string p, .string a, .string m, .string o, .bool dl, .string ss, .string c, .string r, .int .i64 q, .int .i64 am, .int .i64 dy, .int .i64 td]) ∧ RcAt g s r2 w' ∧ Mv [g] [g] w w') := by
    intro w h1
    have z := rgetTerm_any g s r1 k1 hs w h1
    rw [q2] at z
    exact z
  have Y1 := Lib.hid q1; have K1 := Lib.hid k1
  have Y2 := Lib.hid q2; have K2 := Lib.hid k2
  have Y3 := Lib.hid q3; have K3 := Lib.hid k3
  have Y4 := Lib.hid q4; have K4 := Lib.hid k4
  have Y5 := Lib.hid q5; have K5 := Lib.hid k5
  have Y6 := Lib.hid q6; have K6 := Lib.hid k6
  have Y7 := Lib.hid q7; have K7 := Lib.hid k7
  have Y8 := Lib.hid q8; have K8 := Lib.hid k8
  have Y9 := Lib.hid q9; have K9 := Lib.hid k9
  have Y10 := Lib.hid q10; have K10 := Lib.hid k10
  have K0 := Lib.hid hk
  have HRES := Lib.hid hres
  clear hres hk q1 k1 q2 k2 q3 k3 q4 k4 q5 k5 q6 k6 q7 k7 q8 k8 q9 k9 q10 k10
  have hgl : g < w.heap.size := h.lt
  obtain ⟨W0, hW0⟩ : ∃ W0, (w.alloc (.cells #[.int .i64 0, .string ⟨#[]⟩, .string ⟨#[]⟩, .string ⟨#[]⟩, .string ⟨#[]⟩, .bool false, .string ⟨#[]⟩, .string ⟨#[]⟩, .string ⟨#[]⟩, .int .i64 0, .int .i64 0, .int .i64 0, .int .i64 0, .int .i64 0, .bool false, .bool false, .bool false, .int .i64 0, .int .i64 0, .int .i64 0, .int .i64 0] 25)).alloc (.cells #[.int .i64 0, .string ⟨#[]⟩, .string ⟨#[]⟩, .string ⟨#[]⟩, .string ⟨#[]⟩, .bool false, .string ⟨#[]⟩, .string ⟨#[]⟩, .string ⟨#[]⟩, .int .i64 0, .int .i64 0, .int .i64 0, .int .i64 0, .int .i64 0, .bool false, .bool false, .bool false, .int .i64 0, .int .i64 0, .int .i64 0, .int .i64 0] 25) = W0 := ⟨_, rfl⟩
  have hbw : Below w.heap.size w W0 := by rw [← hW0]; exact ((Below.refl _ _).alloc (Nat.le_refl _) _).alloc (by simp) _
  have HB0 : Hid (W0.heap[w.heap.size + 1]? = some (.cells #[.int .i64 0, .string ⟨#[]⟩, .string ⟨#[]⟩, .string ⟨#[]⟩, .string ⟨#[]⟩, .bool false, .string ⟨#[]⟩, .string ⟨#[]⟩, .string ⟨#[]⟩, .int .i64 0, .int .i64 0, .int .i64 0, .int .i64 0, .int .i64 0, .bool false, .bool false, .bool false, .int .i64 0, .int .i64 0, .int .i64 0, .int .i64 0] 25 (0, 0))) := by show _ = _; rw [← hW0]; have := heap_alloc_new (w.alloc (.cells #[.int .i64 0, .string ⟨#[]⟩, .string ⟨#[]⟩, .string ⟨#[]⟩, .string ⟨#[]⟩, .bool false, .string ⟨#[]⟩, .string ⟨#[]⟩, .string ⟨#[]⟩, .int .i64 0, .int .i64 0, .int .i64 0, .int .i64 0, .int .i64 0, .bool false, .bool false, .bool false, .int .i64 0, .int .i64 0, .int .i64 0, .int .i64 0] 25)) (.cells #[.int .i64 0, .string ⟨#[]⟩, .string ⟨#[]⟩, .string ⟨#[]⟩, .string ⟨#[]⟩, .bool false, .string ⟨#[]⟩, .string ⟨#[]⟩, .string ⟨#[]⟩, .int .i64 0, .int .i64 0, .int .i64 0, .int .i64 0, .int .i64 0, .bool false, .bool false, .bool false, .int .i64 0, .int .i64 0, .int .i64 0, .int .i64 0] 25); simpa using this
  have HC0 : Hid (W0.heap[w.heap.size]? = some (.cells #[.int .i64 0, .string ⟨#[]⟩, .string ⟨#[]⟩, .string ⟨#[]⟩, .string ⟨#[]⟩, .bool false, .string ⟨#[]⟩, .string ⟨#[]⟩, .string ⟨#[]⟩, .int .i64 0, .int .i64 0, .int .i64 0, .int .i64 0, .int .i64 0, .bool false, .bool false, .bool false, .int .i64 0, .int .i64 0, .int .i64 0, .int .i64 0] 25 (0, 0))) := by show _ = _; rw [← hW0, Below.heap_alloc _ _ _ (by simp)]; exact heap_alloc_new w _
  have HR0 : Hid (RcAt g s r0 W0) := h.below hbw
  have HM0 : Hid (Mv [g] [g] w W0) := Mv.of_new hbw (fun _ h => .inl h)
  have HW0 := Lib.hid hW0
  clear h hW0 hbw
  go_enter Try.func25, Try.ntmps25
  go_wp2_with fail
  rw [HW0.out]
  obtain ⟨b3, hb3⟩ : ∃ b3, w.heap.size + 1 = b3 := ⟨_, rfl⟩
  rw [hb3] at HB0 ⊢
  obtain ⟨b2, hb2⟩ : ∃ b2, w.heap.size = b2 := ⟨_, rfl⟩
  rw [hb2] at HC0 hb3 hgl ⊢
  have HB2 := Lib.hid hb2
  have d32 : b3 ≠ b2 := by omega
  have g2 : b2 ≠ g := by omega
  have g3 : b3 ≠ g := by omega
  have hw3 : w.heap.size ≤ b3 := by omega
  clear HW0 hb3 hb2 hgl
  refine (cNum_any g s Y1.out hs _ HR0.out).mono ?_
  rintro e w1 ⟨rfl, hr1, hm1⟩
  have hb1 := (hm1.block b3 (Blk.lt (t := 25) HB0.out) (by simpa using g3)).trans HB0.out
  have hc1 := (hm1.block b2 (Blk.lt (t := 25) HC0.out) (by simpa using g2)).trans HC0.out
  have HB_1 := Lib.hid hb1; have HC_1 := Lib.hid hc1; have HR_1 := Lib.hid hr1; have HM_1 := Lib.hid (HM0.out.trans hm1)
  clear hb1 hc1 hr1 hm1 HB0 HC0 HR0 HM0
  have oc0 : w1.cell? ⟨b3, 0, none⟩ = some (.int .i64 0) := by rw [Lib.cell_of_heap HB_1.out]; rfl
  have of0 : w1.frozen? ⟨b3, 0, none⟩ = false := Lib.frozen_of_heap HB_1.out 0
  obtain ⟨V1, hV⟩ : ∃ V, (w1.setCell ⟨b3, 0, none⟩ (.int .i64 id)) = V := ⟨_, rfl⟩
  have hB : V1.heap[b3]? = some (.cells #[.int .i64 id, .string ⟨#[]⟩, .string ⟨#[]⟩, .string ⟨#[]⟩, .string ⟨#[]⟩, .bool false, .string ⟨#[]⟩, .string ⟨#[]⟩, .string ⟨#[]⟩, .int .i64 0, .int .i64 0, .int .i64 0, .int .i64 0, .int .i64 0, .bool false, .bool false, .bool false, .int .i64 0, .int .i64 0, .int .i64 0, .int .i64 0] 25 (0, 0)) := by rw [← hV]; exact (Blk.set_ (show Blk w1 b3 25 _ from HB_1.out) 0 _)
  have hC : V1.heap[b2]? = some (.cells #[.int .i64 0, .string ⟨#[]⟩, .string ⟨#[]⟩, .string ⟨#[]⟩, .string ⟨#[]⟩, .bool false, .string ⟨#[]⟩, .string ⟨#[]⟩, .string ⟨#[]⟩, .int .i64 0, .int .i64 0, .int .i64 0, .int .i64 0, .int .i64 0, .bool false, .bool false, .bool false, .int .i64 0, .int .i64 0, .int .i64 0, .int .i64 0] 25 (0, 0)) := by rw [← hV, Below.heap_setCell _ _ _ _ (show b2 ≠ b3 from d32.symm)]; exact HC_1.out
  have hR : RcAt g s r1 V1 := RcAt.keep HR_1.out (by rw [← hV, Below.heap_setCell _ _ _ _ (show g ≠ b3 from g3.symm)])
  have hM : Mv [g] [g] w V1 := by rw [← hV]; exact (mv_setNew HM_1.out hw3 _ _)
  have HV := Lib.hid hV
  have HB1 := Lib.hid hB; have HC1 := Lib.hid hC; have HR1 := Lib.hid hR; have HM1 := Lib.hid hM
  clear hV hB hC hR hM
  go_wp2_with fail
  rw [HV.out]
  clear HV oc0 of0 HB_1 HC_1 HR_1 HM_1
  refine (GT.out _ HR1.out).mono ?_
  rintro e w2 ⟨rfl, hr2, hm2⟩
  have hb2 := (hm2.block b3 (Blk.lt (t := 25) HB1.out) (by simpa using g3)).trans HB1.out
  have hc2 := (hm2.block b2 (Blk.lt (t := 25) HC1.out) (by simpa using g2)).trans HC1.out
  have HB_2 := Lib.hid hb2; have HC_2 := Lib.hid hc2; have HR_2 := Lib.hid hr2; have HM_2 := Lib.hid (HM1.out.trans hm2)
  clear hb2 hc2 hr2 hm2 HB1 HC1 HR1 HM1
  obtain ⟨V2, hV⟩ : ∃ V2, w2.setCells b3 1 [.string p, .string a, .string m, .string o, .bool dl, .string ss, .string c, .string r, .int .i64 q, .int .i64 am, .int .i64 dy, .int .i64 td] = V2 := ⟨_, rfl⟩
  have hB : V2.heap[b3]? = some (.cells #[.int .i64 id, .string p, .string a, .string m, .string o, .bool dl, .string ss, .string c, .string r, .int .i64 q, .int .i64 am, .int .i64 dy, .int .i64 td, .int .i64 0, .bool false, .bool false, .bool false, .int .i64 0, .int .i64 0, .int .i64 0, .int .i64 0] 25 (0, 0)) := by
    rw [← hV]
    have hq := setCells_blk [.string p, .string a, .string m, .string o, .bool dl, .string ss, .string c, .string r, .int .i64 q, .int .i64 am, .int .i64 dy, .int .i64 td] 1 _ _ HB_2.out
    simp only [setArr, List.setIfInBounds_toArray, List.set_cons_zero, List.set_cons_succ, Nat.reduceAdd] at hq
    exact hq
  have hC : V2.heap[b2]? = some (.cells #[.int .i64 0, .string ⟨#[]⟩, .string ⟨#[]⟩, .string ⟨#[]⟩, .string ⟨#[]⟩, .bool false, .string ⟨#[]⟩, .string ⟨#[]⟩, .string ⟨#[]⟩, .int .i64 0, .int .i64 0, .int .i64 0, .int .i64 0, .int .i64 0, .bool false, .bool false, .bool false, .int .i64 0, .int .i64 0, .int .i64 0, .int .i64 0] 25 (0, 0)) := by rw [← hV, setCells_other d32.symm]; exact HC_2.out
  have hR : RcAt g s r2 V2 := RcAt.keep HR_2.out (by rw [← hV, setCells_other g3.symm])
  have hM : Mv [g] [g] w V2 := by rw [← hV]; exact mv_setCellsNew hw3 _ 1 _ HM_2.out
  have HV := Lib.hid hV
  have q1 : (Try.prog.info? 23).map (·.size) = some ([.string p, .string a, .string m, .string o, .bool dl, .string ss, .string c, .string r, .int .i64 q, .int .i64 am, .int .i64 dy, .int .i64 td] : List Value).length := size_term
  have q2 : ∀ v ∈ ([.string p, .string a, .string m, .string o, .bool dl, .string ss, .string c, .string r, .int .i64 q, .int .i64 am, .int .i64 dy, .int .i64 td] : List Value), v.oneCell' = true := by
    intro v hv
    simp only [List.mem_cons, List.not_mem_nil, or_false] at hv
    rcases hv with rfl | rfl | rfl | rfl | rfl | rfl | rfl | rfl | rfl | rfl | rfl | rfl <;> rfl
  have q3 : 1 + ([.string p, .string a, .string m, .string o, .bool dl, .string ss, .string c, .string r, .int .i64 q, .int .i64 am, .int .i64 dy, .int .i64 td] : List Value).length ≤ (#[.int .i64 id, .string ⟨#[]⟩, .string ⟨#[]⟩, .string ⟨#[]⟩, .string ⟨#[]⟩, .bool false, .string ⟨#[]⟩, .string ⟨#[]⟩, .string ⟨#[]⟩, .int .i64 0, .int .i64 0, .int .i64 0, .int .i64 0, .int .i64 0, .bool false, .bool false, .bool false, .int .i64 0, .int .i64 0, .int .i64 0, .int .i64 0] : Array Value).size := by simp
  have Q1 := Lib.hid q1
  have Q2 := Lib.hid q2
  have Q3 := Lib.hid q3
  have HBP := Lib.hid HB_2.out
  have HB2 := Lib.hid hB; have HC2 := Lib.hid hC; have HR2 := Lib.hid hR; have HM2 := Lib.hid hM
  clear q1 q2 q3 hV hB hC hR hM
  go_wp2_with (refine wpList_store_part rfl 23 _ _ rfl b3 1 [.string p, .string a, .string m, .string o, .bool dl, .string ss, .string c, .string r, .int .i64 q, .int .i64 am, .int .i64 dy, .int .i64 td] rfl rfl 25 _ HBP.out Q1.out Q3.out Q2.out ?_; rw [HV.out])
  clear HV HBP Q1 Q2 Q3 HB_2 HC_2 HR_2 HM_2
  refine (cNum_any g s Y3.out hs _ HR2.out).mono ?_
  rintro e w3 ⟨rfl, hr3, hm3⟩
  have hb3 := (hm3.block b3 (Blk.lt (t := 25) HB2.out) (by simpa using g3)).trans HB2.out
  have hc3 := (hm3.block b2 (Blk.lt (t := 25) HC2.out) (by simpa using g2)).trans HC2.out
  have HB_3 := Lib.hid hb3; have HC_3 := Lib.hid hc3; have HR_3 := Lib.hid hr3; have HM_3 := Lib.hid (HM2.out.trans hm3)
  clear hb3 hc3 hr3 hm3 HB2 HC2 HR2 HM2
  have oc13 : w3.cell? ⟨b3, 13, none⟩ = some (.int .i64 0) := by rw [Lib.cell_of_heap HB_3.out]; rfl
  have of13 : w3.frozen? ⟨b3, 13, none⟩ = false := Lib.frozen_of_heap HB_3.out 13
  obtain ⟨V3, hV⟩ : ∃ V, (w3.setCell ⟨b3, 13, none⟩ (.int .i64 pr)) = V := ⟨_, rfl⟩
  have hB : V3.heap[b3]? = some (.cells #[.int .i64 id, .string p, .string a, .string m, .string o, .bool dl, .string ss, .string c, .string r, .int .i64 q, .int .i64 am, .int .i64 dy, .int .i64 td, .int .i64 pr, .bool false, .bool false, .bool false, .int .i64 0, .int .i64 0, .int .i64 0, .int .i64 0] 25 (0, 0)) := by rw [← hV]; exact (Blk.set_ (show Blk w3 b3 25 _ from HB_3.out) 13 _)
  have hC : V3.heap[b2]? = some (.cells #[.int .i64 0, .string ⟨#[]⟩, .string ⟨#[]⟩, .string ⟨#[]⟩, .string ⟨#[]⟩, .bool false, .string ⟨#[]⟩, .string ⟨#[]⟩, .string ⟨#[]⟩, .int .i64 0, .int .i64 0, .int .i64 0, .int .i64 0, .int .i64 0, .bool false, .bool false, .bool false, .int .i64 0, .int .i64 0, .int .i64 0, .int .i64 0] 25 (0, 0)) := by rw [← hV, Below.heap_setCell _ _ _ _ (show b2 ≠ b3 from d32.symm)]; exact HC_3.out
  have hR : RcAt g s r3 V3 := RcAt.keep HR_3.out (by rw [← hV, Below.heap_setCell _ _ _ _ (show g ≠ b3 from g3.symm)])
  have hM : Mv [g] [g] w V3 := by rw [← hV]; exact (mv_setNew HM_3.out hw3 _ _)
  have HV := Lib.hid hV
  have HB3 := Lib.hid hB; have HC3 := Lib.hid hC; have HR3 := Lib.hid hR; have HM3 := Lib.hid hM
  clear hV hB hC hR hM
  go_wp2_with fail
  rw [HV.out]
  clear HV oc13 of13 HB_3 HC_3 HR_3 HM_3
  refine (cBool_any g s Y4.out K3.out hs _ HR3.out).mono ?_
  rintro e w4 ⟨rfl, hr4, hm4⟩
  have hb4 := (hm4.block b3 (Blk.lt (t := 25) HB3.out) (by simpa using g3)).trans HB3.out
  have hc4 := (hm4.block b2 (Blk.lt (t := 25) HC3.out) (by simpa using g2)).trans HC3.out
  have HB_4 := Lib.hid hb4; have HC_4 := Lib.hid hc4; have HR_4 := Lib.hid hr4; have HM_4 := Lib.hid (HM3.out.trans hm4)
  clear hb4 hc4 hr4 hm4 HB3 HC3 HR3 HM3
  go_wp2_with fail
  refine (cBool_any g s Y5.out K4.out hs _ HR_4.out).mono ?_
  rintro e w5 ⟨rfl, hr5, hm5⟩
  have hb5 := (hm5.block b3 (Blk.lt (t := 25) HB_4.out) (by simpa using g3)).trans HB_4.out
  have hc5 := (hm5.block b2 (Blk.lt (t := 25) HC_4.out) (by simpa using g2)).trans HC_4.out
  have HB_5 := Lib.hid hb5; have HC_5 := Lib.hid hc5; have HR_5 := Lib.hid hr5; have HM_5 := Lib.hid (HM_4.out.trans hm5)
  clear hb5 hc5 hr5 hm5 HB_4 HC_4 HR_4 HM_4
  go_wp2_with fail
  refine (cBool_any g s Y6.out K5.out hs _ HR_5.out).mono ?_
  rintro e w6 ⟨rfl, hr6, hm6⟩
  have hb6 := (hm6.block b3 (Blk.lt (t := 25) HB_5.out) (by simpa using g3)).trans HB_5.out
  have hc6 := (hm6.block b2 (Blk.lt (t := 25) HC_5.out) (by simpa using g2)).trans HC_5.out
  have HB_6 := Lib.hid hb6; have HC_6 := Lib.hid hc6; have HR_6 := Lib.hid hr6; have HM_6 := Lib.hid (HM_5.out.trans hm6)
  clear hb6 hc6 hr6 hm6 HB_5 HC_5 HR_5 HM_5
  have oc14 : w6.cell? ⟨b3, 14, none⟩ = some (.bool false) := by rw [Lib.cell_of_heap HB_6.out]; rfl
  have of14 : w6.frozen? ⟨b3, 14, none⟩ = false := Lib.frozen_of_heap HB_6.out 14
  have oc15 : w6.cell? ⟨b3, 15, none⟩ = some (.bool false) := by rw [Lib.cell_of_heap HB_6.out]; rfl
  have of15 : w6.frozen? ⟨b3, 15, none⟩ = false := Lib.frozen_of_heap HB_6.out 15
  have oc16 : w6.cell? ⟨b3, 16, none⟩ = some (.bool false) := by rw [Lib.cell_of_heap HB_6.out]; rfl
  have of16 : w6.frozen? ⟨b3, 16, none⟩ = false := Lib.frozen_of_heap HB_6.out 16
  obtain ⟨V4, hV⟩ : ∃ V, (((w6.setCell ⟨b3, 14, none⟩ (.bool part)).setCell ⟨b3, 15, none⟩ (.bool held)).setCell ⟨b3, 16, none⟩ (.bool wish)) = V := ⟨_, rfl⟩
  have hB : V4.heap[b3]? = some (.cells #[.int .i64 id, .string p, .string a, .string m, .string o, .bool dl, .string ss, .string c, .string r, .int .i64 q, .int .i64 am, .int .i64 dy, .int .i64 td, .int .i64 pr, .bool part, .bool held, .bool wish, .int .i64 0, .int .i64 0, .int .i64 0, .int .i64 0] 25 (0, 0)) := by rw [← hV]; exact (Blk.set_ (Blk.set_ (Blk.set_ (show Blk w6 b3 25 _ from HB_6.out) 14 _) 15 _) 16 _)
  have hC : V4.heap[b2]? = some (.cells #[.int .i64 0, .string ⟨#[]⟩, .string ⟨#[]⟩, .string ⟨#[]⟩, .string ⟨#[]⟩, .bool false, .string ⟨#[]⟩, .string ⟨#[]⟩, .string ⟨#[]⟩, .int .i64 0, .int .i64 0, .int .i64 0, .int .i64 0, .int .i64 0, .bool false, .bool false, .bool false, .int .i64 0, .int .i64 0, .int .i64 0, .int .i64 0] 25 (0, 0)) := by rw [← hV, Below.heap_setCell _ _ _ _ (show b2 ≠ b3 from d32.symm), Below.heap_setCell _ _ _ _ (show b2 ≠ b3 from d32.symm), Below.heap_setCell _ _ _ _ (show b2 ≠ b3 from d32.symm)]; exact HC_6.out
  have hR : RcAt g s r6 V4 := RcAt.keep HR_6.out (by rw [← hV, Below.heap_setCell _ _ _ _ (show g ≠ b3 from g3.symm), Below.heap_setCell _ _ _ _ (show g ≠ b3 from g3.symm), Below.heap_setCell _ _ _ _ (show g ≠ b3 from g3.symm)])
  have hM : Mv [g] [g] w V4 := by rw [← hV]; exact (mv_setNew (mv_setNew (mv_setNew HM_6.out hw3 _ _) hw3 _ _) hw3 _ _)
  have HV := Lib.hid hV
  have HB4 := Lib.hid hB; have HC4 := Lib.hid hC; have HR4 := Lib.hid hR; have HM4 := Lib.hid hM
  clear hV hB hC hR hM
  go_wp2_with fail
  rw [HV.out]
  clear HV oc14 of14 oc15 of15 oc16 of16 HB_6 HC_6 HR_6 HM_6
  refine (cNum_any g s Y7.out hs _ HR4.out).mono ?_
  rintro e w7 ⟨rfl, hr7, hm7⟩
  have hb7 := (hm7.block b3 (Blk.lt (t := 25) HB4.out) (by simpa using g3)).trans HB4.out
  have hc7 := (hm7.block b2 (Blk.lt (t := 25) HC4.out) (by simpa using g2)).trans HC4.out
  have HB_7 := Lib.hid hb7; have HC_7 := Lib.hid hc7; have HR_7 := Lib.hid hr7; have HM_7 := Lib.hid (HM4.out.trans hm7)
  clear hb7 hc7 hr7 hm7 HB4 HC4 HR4 HM4
  go_wp2_with fail
  refine (cNum_any g s Y8.out hs _ HR_7.out).mono ?_
  rintro e w8 ⟨rfl, hr8, hm8⟩
  have hb8 := (hm8.block b3 (Blk.lt (t := 25) HB_7.out) (by simpa using g3)).trans HB_7.out
  have hc8 := (hm8.block b2 (Blk.lt (t := 25) HC_7.out) (by simpa using g2)).trans HC_7.out
  have HB_8 := Lib.hid hb8; have HC_8 := Lib.hid hc8; have HR_8 := Lib.hid hr8; have HM_8 := Lib.hid (HM_7.out.trans hm8)
  clear hb8 hc8 hr8 hm8 HB_7 HC_7 HR_7 HM_7
  go_wp2_with fail
  refine (cNum_any g s Y9.out hs _ HR_8.out).mono ?_
  rintro e w9 ⟨rfl, hr9, hm9⟩
  have hb9 := (hm9.block b3 (Blk.lt (t := 25) HB_8.out) (by simpa using g3)).trans HB_8.out
  have hc9 := (hm9.block b2 (Blk.lt (t := 25) HC_8.out) (by simpa using g2)).trans HC_8.out
  have HB_9 := Lib.hid hb9; have HC_9 := Lib.hid hc9; have HR_9 := Lib.hid hr9; have HM_9 := Lib.hid (HM_8.out.trans hm9)
  clear hb9 hc9 hr9 hm9 HB_8 HC_8 HR_8 HM_8
  go_wp2_with fail
  refine (cNum_any g s Y10.out hs _ HR_9.out).mono ?_
  rintro e w10 ⟨rfl, hr10, hm10⟩
  have hb10 := (hm10.block b3 (Blk.lt (t := 25) HB_9.out) (by simpa using g3)).trans HB_9.out
  have hc10 := (hm10.block b2 (Blk.lt (t := 25) HC_9.out) (by simpa using g2)).trans HC_9.out
  have HB_10 := Lib.hid hb10; have HC_10 := Lib.hid hc10; have HR_10 := Lib.hid hr10; have HM_10 := Lib.hid (HM_9.out.trans hm10)
  clear hb10 hc10 hr10 hm10 HB_9 HC_9 HR_9 HM_9
  have oc17 : w10.cell? ⟨b3, 17, none⟩ = some (.int .i64 0) := by rw [Lib.cell_of_heap HB_10.out]; rfl
  have of17 : w10.frozen? ⟨b3, 17, none⟩ = false := Lib.frozen_of_heap HB_10.out 17
  have oc18 : w10.cell? ⟨b3, 18, none⟩ = some (.int .i64 0) := by rw [Lib.cell_of_heap HB_10.out]; rfl
  have of18 : w10.frozen? ⟨b3, 18, none⟩ = false := Lib.frozen_of_heap HB_10.out 18
  have oc19 : w10.cell? ⟨b3, 19, none⟩ = some (.int .i64 0) := by rw [Lib.cell_of_heap HB_10.out]; rfl
  have of19 : w10.frozen? ⟨b3, 19, none⟩ = false := Lib.frozen_of_heap HB_10.out 19
  have oc20 : w10.cell? ⟨b3, 20, none⟩ = some (.int .i64 0) := by rw [Lib.cell_of_heap HB_10.out]; rfl
  have of20 : w10.frozen? ⟨b3, 20, none⟩ = false := Lib.frozen_of_heap HB_10.out 20
  obtain ⟨V5, hV⟩ : ∃ V, ((((w10.setCell ⟨b3, 17, none⟩ (.int .i64 st)).setCell ⟨b3, 18, none⟩ (.int .i64 ma)).setCell ⟨b3, 19, none⟩ (.int .i64 dn)).setCell ⟨b3, 20, none⟩ (.int .i64 pd)) = V := ⟨_, rfl⟩
  have hB : V5.heap[b3]? = some (.cells #[.int .i64 id, .string p, .string a, .string m, .string o, .bool dl, .string ss, .string c, .string r, .int .i64 q, .int .i64 am, .int .i64 dy, .int .i64 td, .int .i64 pr, .bool part, .bool held, .bool wish, .int .i64 st, .int .i64 ma, .int .i64 dn, .int .i64 pd] 25 (0, 0)) := by rw [← hV]; exact (Blk.set_ (Blk.set_ (Blk.set_ (Blk.set_ (show Blk w10 b3 25 _ from HB_10.out) 17 _) 18 _) 19 _) 20 _)
  have hC : V5.heap[b2]? = some (.cells #[.int .i64 0, .string ⟨#[]⟩, .string ⟨#[]⟩, .string ⟨#[]⟩, .string ⟨#[]⟩, .bool false, .string ⟨#[]⟩, .string ⟨#[]⟩, .string ⟨#[]⟩, .int .i64 0, .int .i64 0, .int .i64 0, .int .i64 0, .int .i64 0, .bool false, .bool false, .bool false, .int .i64 0, .int .i64 0, .int .i64 0, .int .i64 0] 25 (0, 0)) := by rw [← hV, Below.heap_setCell _ _ _ _ (show b2 ≠ b3 from d32.symm), Below.heap_setCell _ _ _ _ (show b2 ≠ b3 from d32.symm), Below.heap_setCell _ _ _ _ (show b2 ≠ b3 from d32.symm), Below.heap_setCell _ _ _ _ (show b2 ≠ b3 from d32.symm)]; exact HC_10.out
  have hR : RcAt g s r10 V5 := RcAt.keep HR_10.out (by rw [← hV, Below.heap_setCell _ _ _ _ (show g ≠ b3 from g3.symm), Below.heap_setCell _ _ _ _ (show g ≠ b3 from g3.symm), Below.heap_setCell _ _ _ _ (show g ≠ b3 from g3.symm), Below.heap_setCell _ _ _ _ (show g ≠ b3 from g3.symm)])
  have hM : Mv [g] [g] w V5 := by rw [← hV]; exact (mv_setNew (mv_setNew (mv_setNew (mv_setNew HM_10.out hw3 _ _) hw3 _ _) hw3 _ _) hw3 _ _)
  have HV := Lib.hid hV
  have HB5 := Lib.hid hB; have HC5 := Lib.hid hC; have HR5 := Lib.hid hR; have HM5 := Lib.hid hM
  clear hV hB hC hR hM
  have e1 : V5.cell? ⟨g, 1, none⟩ = some (.int .i64 r10.e) := RrAt.cell1 HR5.out
  clear HB_10 HC_10 HR_10 HM_10
  have E1 := Lib.hid e1
  clear e1
  by_cases he12 : r10.e = 0
  · have hb12 : (r10.e != 0) = false := by simp [he12]
    have e1 := E1.out
    rw [he12] at e1
    have hres := HRES.out
    rw [if_neg (by simp [he12])] at hres
    have HRES2 := Lib.hid hres
    clear hb12 hres he12 HRES
    go_wp2_with (first
      | (rw [HV.out])
      | (refine wpList_load_named rfl 25 _ rfl b3 rfl _ _ _ HB5.out Try.underlying25 rfl size_inst _ rfl ?_)
      | (refine wpList_store_row rfl 25 _ _ rfl b2 _ rfl rfl _ _ HC5.out size_inst rfl (by simp [Value.oneCell']) ?_))
    have hk := setRow_heap V5 b2 _ #[.int .i64 id, .string p, .string a, .string m, .string o, .bool dl, .string ss, .string c, .string r, .int .i64 q, .int .i64 am, .int .i64 dy, .int .i64 td, .int .i64 pr, .bool part, .bool held, .bool wish, .int .i64 st, .int .i64 ma, .int .i64 dn, .int .i64 pd] _ _ HC5.out
    refine bodyPost_ret (results_cell_row rfl _ _ b2 _ _ _ _ rfl hk Try.underlying25 rfl size_inst) rfl ?_
    have hmv := mv_setRowNew HM5.out (Nat.le_of_eq HB2.out) #[.int .i64 id, .string p, .string a, .string m, .string o, .bool dl, .string ss, .string c, .string r, .int .i64 q, .int .i64 am, .int .i64 dy, .int .i64 td, .int .i64 pr, .bool part, .bool held, .bool wish, .int .i64 st, .int .i64 ma, .int .i64 dn, .int .i64 pd]
    rw [HRES2.out]
    exact ⟨rfl, RcAt.keep HR5.out (setRow_other V5 b2 g _ g2.symm), hmv⟩
  · have hb12 : (r10.e != 0) = true := by simp [he12]
    have e1 := E1.out
    have hres := HRES.out
    rw [if_pos he12] at hres
    have HRES2 := Lib.hid hres
    clear hres he12 HRES
    go_wp2_with (first
      | (rw [HV.out])
      | (refine wpList_load_named rfl 25 _ rfl b3 rfl _ _ _ HB5.out Try.underlying25 rfl size_inst _ rfl ?_)
      | (refine wpList_store_row rfl 25 _ _ rfl b2 _ rfl rfl _ _ HC5.out size_inst rfl (by simp [Value.oneCell']) ?_))
    have hk := setRow_heap V5 b2 _ #[.int .i64 0, .string ⟨#[]⟩, .string ⟨#[]⟩, .string ⟨#[]⟩, .string ⟨#[]⟩, .bool false, .string ⟨#[]⟩, .string ⟨#[]⟩, .string ⟨#[]⟩, .int .i64 0, .int .i64 0, .int .i64 0, .int .i64 0, .int .i64 0, .bool false, .bool false, .bool false, .int .i64 0, .int .i64 0, .int .i64 0, .int .i64 0] _ _ HC5.out
    refine bodyPost_ret (results_cell_row rfl _ _ b2 _ _ _ _ rfl hk Try.underlying25 rfl size_inst) rfl ?_
    have hmv := mv_setRowNew HM5.out (Nat.le_of_eq HB2.out) #[.int .i64 0, .string ⟨#[]⟩, .string ⟨#[]⟩, .string ⟨#[]⟩, .string ⟨#[]⟩, .bool false, .string ⟨#[]⟩, .string ⟨#[]⟩, .string ⟨#[]⟩, .int .i64 0, .int .i64 0, .int .i64 0, .int .i64 0, .int .i64 0, .bool false, .bool false, .bool false, .int .i64 0, .int .i64 0, .int .i64 0, .int .i64 0]
    rw [HRES2.out]
    exact ⟨rfl, RcAt.keep HR5.out (setRow_other V5 b2 g _ g2.symm), hmv⟩

end Go.Proofs.Ytkcecijepbceiaa
