/-
  Package inst as a contract: GetTerm, with every error.
  Conditions: a reader that the call has made.
-/
import Derived.Test.YtkcecijepbceiaaRdTrm
import Derived.Test.YtkcecijepbceiaaInstGet
namespace Go.Proofs.Ytkcecijepbceiaa
open Go.RowKit

set_option maxHeartbeats 40000000 in
set_option maxRecDepth 100000 in
theorem getTermE_any (g : Nat) (s : ByteArray) (r0 : Rd) (hk : r0.k ≤ s.size) (hs : s.size ≤ 1000000000) (w : World) (h : RdAt g r0.e s r0.k w) :
    Calls Try.prog 27 #[.pointer (some ⟨g, 0, none⟩)] w fun e w' => e = .returned (.agg (rdTrm s r0).1.cells) ∧ RdAt g (rdTrm s r0).2.e s (rdTrm s r0).2.k w' ∧ Mv [g] [g] w w' := by
  obtain ⟨⟨p, r1⟩, q1⟩ : ∃ z, rdText s r0 = z := ⟨_, rfl⟩
  have k1 : r1.k ≤ s.size := by have z := rdText_k (s := s) hk; rw [q1] at z; exact z
  obtain ⟨⟨a, r2⟩, q2⟩ : ∃ z, rdText s r1 = z := ⟨_, rfl⟩
  have k2 : r2.k ≤ s.size := by have z := rdText_k (s := s) k1; rw [q2] at z; exact z
  obtain ⟨⟨m, r3⟩, q3⟩ : ∃ z, rdText s r2 = z := ⟨_, rfl⟩
  have k3 : r3.k ≤ s.size := by have z := rdText_k (s := s) k2; rw [q3] at z; exact z
  obtain ⟨⟨o, r4⟩, q4⟩ : ∃ z, rdText s r3 = z := ⟨_, rfl⟩
  have k4 : r4.k ≤ s.size := by have z := rdText_k (s := s) k3; rw [q4] at z; exact z
  obtain ⟨⟨ss, r5⟩, q5⟩ : ∃ z, rdText s r4 = z := ⟨_, rfl⟩
  have k5 : r5.k ≤ s.size := by have z := rdText_k (s := s) k4; rw [q5] at z; exact z
  obtain ⟨⟨c, r6⟩, q6⟩ : ∃ z, rdText s r5 = z := ⟨_, rfl⟩
  have k6 : r6.k ≤ s.size := by have z := rdText_k (s := s) k5; rw [q6] at z; exact z
  obtain ⟨⟨r, r7⟩, q7⟩ : ∃ z, rdText s r6 = z := ⟨_, rfl⟩
  have k7 : r7.k ≤ s.size := by have z := rdText_k (s := s) k6; rw [q7] at z; exact z
  obtain ⟨⟨dl, r8⟩, q8⟩ : ∃ z, rdBool s r7 = z := ⟨_, rfl⟩
  have k8 : r8.k ≤ s.size := by have z := rdBool_k (s := s) k7; rw [q8] at z; exact z
  obtain ⟨⟨q, r9⟩, q9⟩ : ∃ z, rdNum s r8 = z := ⟨_, rfl⟩
  have k9 : r9.k ≤ s.size := by have z := rdNum_k (s := s) k8; rw [q9] at z; exact z
  obtain ⟨⟨am, r10⟩, q10⟩ : ∃ z, rdNum s r9 = z := ⟨_, rfl⟩
  have k10 : r10.k ≤ s.size := by have z := rdNum_k (s := s) k9; rw [q10] at z; exact z
  obtain ⟨⟨dy, r11⟩, q11⟩ : ∃ z, rdNum s r10 = z := ⟨_, rfl⟩
  have k11 : r11.k ≤ s.size := by have z := rdNum_k (s := s) k10; rw [q11] at z; exact z
  obtain ⟨⟨td, r12⟩, q12⟩ : ∃ z, rdNum s r11 = z := ⟨_, rfl⟩
  have k12 : r12.k ≤ s.size := by have z := rdNum_k (s := s) k11; rw [q12] at z; exact z
  have hres : rdTrm s r0 = if r12.e ≠ 0 then (Trm.zero, r12) else (⟨p, a, m, o, dl, ss, c, r, q, am, dy, td⟩, r12) := by
    unfold rdTrm rdTrm1
    simp only [q1, q2, q3, q4, q5, q6, q7, q8, q9, q10, q11, q12]
  have Q1 := Lib.hid q1; have K1 := Lib.hid k1
  have Q2 := Lib.hid q2; have K2 := Lib.hid k2
  have Q3 := Lib.hid q3; have K3 := Lib.hid k3
  have Q4 := Lib.hid q4; have K4 := Lib.hid k4
  have Q5 := Lib.hid q5; have K5 := Lib.hid k5
  have Q6 := Lib.hid q6; have K6 := Lib.hid k6
  have Q7 := Lib.hid q7; have K7 := Lib.hid k7
  have Q8 := Lib.hid q8; have K8 := Lib.hid k8
  have Q9 := Lib.hid q9; have K9 := Lib.hid k9
  have Q10 := Lib.hid q10; have K10 := Lib.hid k10
  have Q11 := Lib.hid q11; have K11 := Lib.hid k11
  have Q12 := Lib.hid q12; have K12 := Lib.hid k12
  have K0 := Lib.hid hk
  have HRES := Lib.hid hres
  clear hres hk q1 k1 q2 k2 q3 k3 q4 k4 q5 k5 q6 k6 q7 k7 q8 k8 q9 k9 q10 k10 q11 k11 q12 k12
  have hgl := h.lt
  obtain ⟨W0, hW0⟩ : ∃ W0, ((w.alloc (.cells #[.string ⟨#[]⟩, .string ⟨#[]⟩, .string ⟨#[]⟩, .string ⟨#[]⟩, .bool false, .string ⟨#[]⟩, .string ⟨#[]⟩, .string ⟨#[]⟩, .int .i64 0, .int .i64 0, .int .i64 0, .int .i64 0] 23)).alloc (.cells #[.string ⟨#[]⟩, .string ⟨#[]⟩, .string ⟨#[]⟩, .string ⟨#[]⟩, .bool false, .string ⟨#[]⟩, .string ⟨#[]⟩, .string ⟨#[]⟩, .int .i64 0, .int .i64 0, .int .i64 0, .int .i64 0] 23)).alloc (.cells #[.pointer (some ⟨w.heap.size + 1, 0, none⟩), .pointer (some ⟨w.heap.size + 1, 1, none⟩), .pointer (some ⟨w.heap.size + 1, 2, none⟩), .pointer (some ⟨w.heap.size + 1, 3, none⟩), .pointer (some ⟨w.heap.size + 1, 5, none⟩), .pointer (some ⟨w.heap.size + 1, 6, none⟩), .pointer (some ⟨w.heap.size + 1, 7, none⟩)] 107) = W0 := ⟨_, rfl⟩
  have HB0 : Hid (W0.heap[w.heap.size + 1]? = some (.cells #[.string ⟨#[]⟩, .string ⟨#[]⟩, .string ⟨#[]⟩, .string ⟨#[]⟩, .bool false, .string ⟨#[]⟩, .string ⟨#[]⟩, .string ⟨#[]⟩, .int .i64 0, .int .i64 0, .int .i64 0, .int .i64 0] 23 (0, 0))) := by show _ = _; rw [← hW0, Below.heap_alloc _ _ _ (by simp)]; have := heap_alloc_new (w.alloc (.cells #[.string ⟨#[]⟩, .string ⟨#[]⟩, .string ⟨#[]⟩, .string ⟨#[]⟩, .bool false, .string ⟨#[]⟩, .string ⟨#[]⟩, .string ⟨#[]⟩, .int .i64 0, .int .i64 0, .int .i64 0, .int .i64 0] 23)) (.cells #[.string ⟨#[]⟩, .string ⟨#[]⟩, .string ⟨#[]⟩, .string ⟨#[]⟩, .bool false, .string ⟨#[]⟩, .string ⟨#[]⟩, .string ⟨#[]⟩, .int .i64 0, .int .i64 0, .int .i64 0, .int .i64 0] 23); simpa using this
  have HC0 : Hid (W0.heap[w.heap.size]? = some (.cells #[.string ⟨#[]⟩, .string ⟨#[]⟩, .string ⟨#[]⟩, .string ⟨#[]⟩, .bool false, .string ⟨#[]⟩, .string ⟨#[]⟩, .string ⟨#[]⟩, .int .i64 0, .int .i64 0, .int .i64 0, .int .i64 0] 23 (0, 0))) := by show _ = _; rw [← hW0, Below.heap_alloc _ _ _ (by simp <;> omega), Below.heap_alloc _ _ _ (by simp)]; exact heap_alloc_new w _
  have HP0 : Hid (W0.heap[w.heap.size + 1 + 1]? = some (.cells #[.pointer (some ⟨w.heap.size + 1, 0, none⟩), .pointer (some ⟨w.heap.size + 1, 1, none⟩), .pointer (some ⟨w.heap.size + 1, 2, none⟩), .pointer (some ⟨w.heap.size + 1, 3, none⟩), .pointer (some ⟨w.heap.size + 1, 5, none⟩), .pointer (some ⟨w.heap.size + 1, 6, none⟩), .pointer (some ⟨w.heap.size + 1, 7, none⟩)] 107 (0, 0))) := by show _ = _; rw [← hW0]; have := heap_alloc_new ((w.alloc (.cells #[.string ⟨#[]⟩, .string ⟨#[]⟩, .string ⟨#[]⟩, .string ⟨#[]⟩, .bool false, .string ⟨#[]⟩, .string ⟨#[]⟩, .string ⟨#[]⟩, .int .i64 0, .int .i64 0, .int .i64 0, .int .i64 0] 23)).alloc (.cells #[.string ⟨#[]⟩, .string ⟨#[]⟩, .string ⟨#[]⟩, .string ⟨#[]⟩, .bool false, .string ⟨#[]⟩, .string ⟨#[]⟩, .string ⟨#[]⟩, .int .i64 0, .int .i64 0, .int .i64 0, .int .i64 0] 23)) (.cells #[.pointer (some ⟨w.heap.size + 1, 0, none⟩), .pointer (some ⟨w.heap.size + 1, 1, none⟩), .pointer (some ⟨w.heap.size + 1, 2, none⟩), .pointer (some ⟨w.heap.size + 1, 3, none⟩), .pointer (some ⟨w.heap.size + 1, 5, none⟩), .pointer (some ⟨w.heap.size + 1, 6, none⟩), .pointer (some ⟨w.heap.size + 1, 7, none⟩)] 107); simpa using this
  have hbw : Below w.heap.size w W0 := by rw [← hW0]; exact (((Below.refl _ _).alloc (Nat.le_refl _) _).alloc (by simp) _).alloc (by simp <;> omega) _
  have HR0 : Hid (RdAt g r0.e s r0.k W0) := h.below hbw
  have HM0 : Hid (Mv [g] [g] w W0) := Mv.of_new hbw (fun _ h => .inl h)
  have HW0 := Lib.hid hW0
  clear h hW0 hbw
  go_enter Try.func27, Try.ntmps27
  go_wp2
  refine wp_loop_rounds 8 ?_
  rw [rounds_succ]
  go_wp2_with fail
  rw [HW0.out]
  obtain ⟨b4, hb4⟩ : ∃ b4, w.heap.size + 1 + 1 = b4 := ⟨_, rfl⟩
  rw [hb4] at HP0 ⊢
  obtain ⟨b3, hb3⟩ : ∃ b3, w.heap.size + 1 = b3 := ⟨_, rfl⟩
  rw [hb3] at HP0 HB0 hb4 ⊢
  obtain ⟨b2, hb2⟩ : ∃ b2, w.heap.size = b2 := ⟨_, rfl⟩
  rw [hb2] at HC0 hb3 hgl ⊢
  have HB2 := Lib.hid hb2
  have d32 : b3 ≠ b2 := by omega
  have d34 : b3 ≠ b4 := by omega
  have d24 : b2 ≠ b4 := by omega
  have g2 : b2 ≠ g := by omega
  have g3 : b3 ≠ g := by omega
  have g4 : b4 ≠ g := by omega
  have hw3 : w.heap.size ≤ b3 := by omega
  clear HW0 hb4 hb3 hb2 hgl
  refine (gText_any g s Q1.out K0.out hs _ HR0.out).mono ?_
  rintro e w1 ⟨rfl, hr, hm⟩
  have hb := (hm.block b3 (Blk.lt (t := 23) HB0.out) (by simpa using g3)).trans HB0.out
  have hc := (hm.block b2 (Blk.lt (t := 23) HC0.out) (by simpa using g2)).trans HC0.out
  have hp := (hm.block b4 (Blk.lt (t := 107) HP0.out) (by simpa using g4)).trans HP0.out
  have oc : w1.cell? ⟨b3, 0, none⟩ = some (.string ⟨#[]⟩) := by rw [Lib.cell_of_heap hb]; rfl
  have of : w1.frozen? ⟨b3, 0, none⟩ = false := Lib.frozen_of_heap hb 0
  obtain ⟨V1, hV⟩ : ∃ V1, w1.setCell ⟨b3, 0, none⟩ (.string p) = V1 := ⟨_, rfl⟩
  have HB1 : Hid (V1.heap[b3]? = some (.cells #[.string p, .string ⟨#[]⟩, .string ⟨#[]⟩, .string ⟨#[]⟩, .bool false, .string ⟨#[]⟩, .string ⟨#[]⟩, .string ⟨#[]⟩, .int .i64 0, .int .i64 0, .int .i64 0, .int .i64 0] 23 (0, 0))) := by show _ = _; rw [← hV]; exact Blk.set_ (show Blk w1 b3 23 _ from hb) 0 _
  have HC1 : Hid (V1.heap[b2]? = some (.cells #[.string ⟨#[]⟩, .string ⟨#[]⟩, .string ⟨#[]⟩, .string ⟨#[]⟩, .bool false, .string ⟨#[]⟩, .string ⟨#[]⟩, .string ⟨#[]⟩, .int .i64 0, .int .i64 0, .int .i64 0, .int .i64 0] 23 (0, 0))) := by show _ = _; rw [← hV, Below.heap_setCell _ _ _ _ (show b2 ≠ b3 from d32.symm)]; exact hc
  have HP1 : Hid (V1.heap[b4]? = some (.cells #[.pointer (some ⟨b3, 0, none⟩), .pointer (some ⟨b3, 1, none⟩), .pointer (some ⟨b3, 2, none⟩), .pointer (some ⟨b3, 3, none⟩), .pointer (some ⟨b3, 5, none⟩), .pointer (some ⟨b3, 6, none⟩), .pointer (some ⟨b3, 7, none⟩)] 107 (0, 0))) := by show _ = _; rw [← hV, Below.heap_setCell _ _ _ _ (show b4 ≠ b3 from d34.symm)]; exact hp
  have HR1 : Hid (RdAt g r1.e s r1.k V1) := by show _ = _; rw [← hV, Below.heap_setCell _ _ _ _ (show g ≠ b3 from g3.symm)]; exact hr
  have HM1 : Hid (Mv [g] [g] w V1) := by show Mv _ _ _ _; rw [← hV]; exact mv_setNew (HM0.out.trans hm) hw3 _ _
  have HV := Lib.hid hV
  have np : V1.cell? ⟨b4, 1, none⟩ = some (.pointer (some ⟨b3, 1, none⟩)) := by rw [Lib.cell_of_heap HP1.out]; rfl
  clear hV hr hm hb hc hp HB0 HC0 HR0 HM0 HP0
  go_wp2_with fail
  rw [HV.out]
  clear HV oc of
  rw [rounds_succ]
  go_wp2_with fail
  clear np
  refine (gText_any g s Q2.out K1.out hs _ HR1.out).mono ?_
  rintro e w2 ⟨rfl, hr, hm⟩
  have hb := (hm.block b3 (Blk.lt (t := 23) HB1.out) (by simpa using g3)).trans HB1.out
  have hc := (hm.block b2 (Blk.lt (t := 23) HC1.out) (by simpa using g2)).trans HC1.out
  have hp := (hm.block b4 (Blk.lt (t := 107) HP1.out) (by simpa using g4)).trans HP1.out
  have oc : w2.cell? ⟨b3, 1, none⟩ = some (.string ⟨#[]⟩) := by rw [Lib.cell_of_heap hb]; rfl
  have of : w2.frozen? ⟨b3, 1, none⟩ = false := Lib.frozen_of_heap hb 1
  obtain ⟨V2, hV⟩ : ∃ V2, w2.setCell ⟨b3, 1, none⟩ (.string a) = V2 := ⟨_, rfl⟩
  have HB2 : Hid (V2.heap[b3]? = some (.cells #[.string p, .string a, .string ⟨#[]⟩, .string ⟨#[]⟩, .bool false, .string ⟨#[]⟩, .string ⟨#[]⟩, .string ⟨#[]⟩, .int .i64 0, .int .i64 0, .int .i64 0, .int .i64 0] 23 (0, 0))) := by show _ = _; rw [← hV]; exact Blk.set_ (show Blk w2 b3 23 _ from hb) 1 _
  have HC2 : Hid (V2.heap[b2]? = some (.cells #[.string ⟨#[]⟩, .string ⟨#[]⟩, .string ⟨#[]⟩, .string ⟨#[]⟩, .bool false, .string ⟨#[]⟩, .string ⟨#[]⟩, .string ⟨#[]⟩, .int .i64 0, .int .i64 0, .int .i64 0, .int .i64 0] 23 (0, 0))) := by show _ = _; rw [← hV, Below.heap_setCell _ _ _ _ (show b2 ≠ b3 from d32.symm)]; exact hc
  have HP2 : Hid (V2.heap[b4]? = some (.cells #[.pointer (some ⟨b3, 0, none⟩), .pointer (some ⟨b3, 1, none⟩), .pointer (some ⟨b3, 2, none⟩), .pointer (some ⟨b3, 3, none⟩), .pointer (some ⟨b3, 5, none⟩), .pointer (some ⟨b3, 6, none⟩), .pointer (some ⟨b3, 7, none⟩)] 107 (0, 0))) := by show _ = _; rw [← hV, Below.heap_setCell _ _ _ _ (show b4 ≠ b3 from d34.symm)]; exact hp
  have HR2 : Hid (RdAt g r2.e s r2.k V2) := by show _ = _; rw [← hV, Below.heap_setCell _ _ _ _ (show g ≠ b3 from g3.symm)]; exact hr
  have HM2 : Hid (Mv [g] [g] w V2) := by show Mv _ _ _ _; rw [← hV]; exact mv_setNew (HM1.out.trans hm) hw3 _ _
  have HV := Lib.hid hV
  have np : V2.cell? ⟨b4, 2, none⟩ = some (.pointer (some ⟨b3, 2, none⟩)) := by rw [Lib.cell_of_heap HP2.out]; rfl
  clear hV hr hm hb hc hp HB1 HC1 HR1 HM1 HP1
  go_wp2_with fail
  rw [HV.out]
  clear HV oc of
  rw [rounds_succ]
  go_wp2_with fail
  clear np
  refine (gText_any g s Q3.out K2.out hs _ HR2.out).mono ?_
  rintro e w3 ⟨rfl, hr, hm⟩
  have hb := (hm.block b3 (Blk.lt (t := 23) HB2.out) (by simpa using g3)).trans HB2.out
  have hc := (hm.block b2 (Blk.lt (t := 23) HC2.out) (by simpa using g2)).trans HC2.out
  have hp := (hm.block b4 (Blk.lt (t := 107) HP2.out) (by simpa using g4)).trans HP2.out
  have oc : w3.cell? ⟨b3, 2, none⟩ = some (.string ⟨#[]⟩) := by rw [Lib.cell_of_heap hb]; rfl
  have of : w3.frozen? ⟨b3, 2, none⟩ = false := Lib.frozen_of_heap hb 2
  obtain ⟨V3, hV⟩ : ∃ V3, w3.setCell ⟨b3, 2, none⟩ (.string m) = V3 := ⟨_, rfl⟩
  have HB3 : Hid (V3.heap[b3]? = some (.cells #[.string p, .string a, .string m, .string ⟨#[]⟩, .bool false, .string ⟨#[]⟩, .string ⟨#[]⟩, .string ⟨#[]⟩, .int .i64 0, .int .i64 0, .int .i64 0, .int .i64 0] 23 (0, 0))) := by show _ = _; rw [← hV]; exact Blk.set_ (show Blk w3 b3 23 _ from hb) 2 _
  have HC3 : Hid (V3.heap[b2]? = some (.cells #[.string ⟨#[]⟩, .string ⟨#[]⟩, .string ⟨#[]⟩, .string ⟨#[]⟩, .bool false, .string ⟨#[]⟩, .string ⟨#[]⟩, .string ⟨#[]⟩, .int .i64 0, .int .i64 0, .int .i64 0, .int .i64 0] 23 (0, 0))) := by show _ = _; rw [← hV, Below.heap_setCell _ _ _ _ (show b2 ≠ b3 from d32.symm)]; exact hc
  have HP3 : Hid (V3.heap[b4]? = some (.cells #[.pointer (some ⟨b3, 0, none⟩), .pointer (some ⟨b3, 1, none⟩), .pointer (some ⟨b3, 2, none⟩), .pointer (some ⟨b3, 3, none⟩), .pointer (some ⟨b3, 5, none⟩), .pointer (some ⟨b3, 6, none⟩), .pointer (some ⟨b3, 7, none⟩)] 107 (0, 0))) := by show _ = _; rw [← hV, Below.heap_setCell _ _ _ _ (show b4 ≠ b3 from d34.symm)]; exact hp
  have HR3 : Hid (RdAt g r3.e s r3.k V3) := by show _ = _; rw [← hV, Below.heap_setCell _ _ _ _ (show g ≠ b3 from g3.symm)]; exact hr
  have HM3 : Hid (Mv [g] [g] w V3) := by show Mv _ _ _ _; rw [← hV]; exact mv_setNew (HM2.out.trans hm) hw3 _ _
  have HV := Lib.hid hV
  have np : V3.cell? ⟨b4, 3, none⟩ = some (.pointer (some ⟨b3, 3, none⟩)) := by rw [Lib.cell_of_heap HP3.out]; rfl
  clear hV hr hm hb hc hp HB2 HC2 HR2 HM2 HP2
  go_wp2_with fail
  rw [HV.out]
  clear HV oc of
  rw [rounds_succ]
  go_wp2_with fail
  clear np
  refine (gText_any g s Q4.out K3.out hs _ HR3.out).mono ?_
  rintro e w4 ⟨rfl, hr, hm⟩
  have hb := (hm.block b3 (Blk.lt (t := 23) HB3.out) (by simpa using g3)).trans HB3.out
  have hc := (hm.block b2 (Blk.lt (t := 23) HC3.out) (by simpa using g2)).trans HC3.out
  have hp := (hm.block b4 (Blk.lt (t := 107) HP3.out) (by simpa using g4)).trans HP3.out
  have oc : w4.cell? ⟨b3, 3, none⟩ = some (.string ⟨#[]⟩) := by rw [Lib.cell_of_heap hb]; rfl
  have of : w4.frozen? ⟨b3, 3, none⟩ = false := Lib.frozen_of_heap hb 3
  obtain ⟨V4, hV⟩ : ∃ V4, w4.setCell ⟨b3, 3, none⟩ (.string o) = V4 := ⟨_, rfl⟩
  have HB4 : Hid (V4.heap[b3]? = some (.cells #[.string p, .string a, .string m, .string o, .bool false, .string ⟨#[]⟩, .string ⟨#[]⟩, .string ⟨#[]⟩, .int .i64 0, .int .i64 0, .int .i64 0, .int .i64 0] 23 (0, 0))) := by show _ = _; rw [← hV]; exact Blk.set_ (show Blk w4 b3 23 _ from hb) 3 _
  have HC4 : Hid (V4.heap[b2]? = some (.cells #[.string ⟨#[]⟩, .string ⟨#[]⟩, .string ⟨#[]⟩, .string ⟨#[]⟩, .bool false, .string ⟨#[]⟩, .string ⟨#[]⟩, .string ⟨#[]⟩, .int .i64 0, .int .i64 0, .int .i64 0, .int .i64 0] 23 (0, 0))) := by show _ = _; rw [← hV, Below.heap_setCell _ _ _ _ (show b2 ≠ b3 from d32.symm)]; exact hc
  have HP4 : Hid (V4.heap[b4]? = some (.cells #[.pointer (some ⟨b3, 0, none⟩), .pointer (some ⟨b3, 1, none⟩), .pointer (some ⟨b3, 2, none⟩), .pointer (some ⟨b3, 3, none⟩), .pointer (some ⟨b3, 5, none⟩), .pointer (some ⟨b3, 6, none⟩), .pointer (some ⟨b3, 7, none⟩)] 107 (0, 0))) := by show _ = _; rw [← hV, Below.heap_setCell _ _ _ _ (show b4 ≠ b3 from d34.symm)]; exact hp
  have HR4 : Hid (RdAt g r4.e s r4.k V4) := by show _ = _; rw [← hV, Below.heap_setCell _ _ _ _ (show g ≠ b3 from g3.symm)]; exact hr
  have HM4 : Hid (Mv [g] [g] w V4) := by show Mv _ _ _ _; rw [← hV]; exact mv_setNew (HM3.out.trans hm) hw3 _ _
  have HV := Lib.hid hV
  have np : V4.cell? ⟨b4, 4, none⟩ = some (.pointer (some ⟨b3, 5, none⟩)) := by rw [Lib.cell_of_heap HP4.out]; rfl
  clear hV hr hm hb hc hp HB3 HC3 HR3 HM3 HP3
  go_wp2_with fail
  rw [HV.out]
  clear HV oc of
  rw [rounds_succ]
  go_wp2_with fail
  clear np
  refine (gText_any g s Q5.out K4.out hs _ HR4.out).mono ?_
  rintro e w5 ⟨rfl, hr, hm⟩
  have hb := (hm.block b3 (Blk.lt (t := 23) HB4.out) (by simpa using g3)).trans HB4.out
  have hc := (hm.block b2 (Blk.lt (t := 23) HC4.out) (by simpa using g2)).trans HC4.out
  have hp := (hm.block b4 (Blk.lt (t := 107) HP4.out) (by simpa using g4)).trans HP4.out
  have oc : w5.cell? ⟨b3, 5, none⟩ = some (.string ⟨#[]⟩) := by rw [Lib.cell_of_heap hb]; rfl
  have of : w5.frozen? ⟨b3, 5, none⟩ = false := Lib.frozen_of_heap hb 5
  obtain ⟨V5, hV⟩ : ∃ V5, w5.setCell ⟨b3, 5, none⟩ (.string ss) = V5 := ⟨_, rfl⟩
  have HB5 : Hid (V5.heap[b3]? = some (.cells #[.string p, .string a, .string m, .string o, .bool false, .string ss, .string ⟨#[]⟩, .string ⟨#[]⟩, .int .i64 0, .int .i64 0, .int .i64 0, .int .i64 0] 23 (0, 0))) := by show _ = _; rw [← hV]; exact Blk.set_ (show Blk w5 b3 23 _ from hb) 5 _
  have HC5 : Hid (V5.heap[b2]? = some (.cells #[.string ⟨#[]⟩, .string ⟨#[]⟩, .string ⟨#[]⟩, .string ⟨#[]⟩, .bool false, .string ⟨#[]⟩, .string ⟨#[]⟩, .string ⟨#[]⟩, .int .i64 0, .int .i64 0, .int .i64 0, .int .i64 0] 23 (0, 0))) := by show _ = _; rw [← hV, Below.heap_setCell _ _ _ _ (show b2 ≠ b3 from d32.symm)]; exact hc
  have HP5 : Hid (V5.heap[b4]? = some (.cells #[.pointer (some ⟨b3, 0, none⟩), .pointer (some ⟨b3, 1, none⟩), .pointer (some ⟨b3, 2, none⟩), .pointer (some ⟨b3, 3, none⟩), .pointer (some ⟨b3, 5, none⟩), .pointer (some ⟨b3, 6, none⟩), .pointer (some ⟨b3, 7, none⟩)] 107 (0, 0))) := by show _ = _; rw [← hV, Below.heap_setCell _ _ _ _ (show b4 ≠ b3 from d34.symm)]; exact hp
  have HR5 : Hid (RdAt g r5.e s r5.k V5) := by show _ = _; rw [← hV, Below.heap_setCell _ _ _ _ (show g ≠ b3 from g3.symm)]; exact hr
  have HM5 : Hid (Mv [g] [g] w V5) := by show Mv _ _ _ _; rw [← hV]; exact mv_setNew (HM4.out.trans hm) hw3 _ _
  have HV := Lib.hid hV
  have np : V5.cell? ⟨b4, 5, none⟩ = some (.pointer (some ⟨b3, 6, none⟩)) := by rw [Lib.cell_of_heap HP5.out]; rfl
  clear hV hr hm hb hc hp HB4 HC4 HR4 HM4 HP4
  go_wp2_with fail
  rw [HV.out]
  clear HV oc of
  rw [rounds_succ]
  go_wp2_with fail
  clear np
  refine (gText_any g s Q6.out K5.out hs _ HR5.out).mono ?_
  rintro e w6 ⟨rfl, hr, hm⟩
  have hb := (hm.block b3 (Blk.lt (t := 23) HB5.out) (by simpa using g3)).trans HB5.out
  have hc := (hm.block b2 (Blk.lt (t := 23) HC5.out) (by simpa using g2)).trans HC5.out
  have hp := (hm.block b4 (Blk.lt (t := 107) HP5.out) (by simpa using g4)).trans HP5.out
  have oc : w6.cell? ⟨b3, 6, none⟩ = some (.string ⟨#[]⟩) := by rw [Lib.cell_of_heap hb]; rfl
  have of : w6.frozen? ⟨b3, 6, none⟩ = false := Lib.frozen_of_heap hb 6
  obtain ⟨V6, hV⟩ : ∃ V6, w6.setCell ⟨b3, 6, none⟩ (.string c) = V6 := ⟨_, rfl⟩
  have HB6 : Hid (V6.heap[b3]? = some (.cells #[.string p, .string a, .string m, .string o, .bool false, .string ss, .string c, .string ⟨#[]⟩, .int .i64 0, .int .i64 0, .int .i64 0, .int .i64 0] 23 (0, 0))) := by show _ = _; rw [← hV]; exact Blk.set_ (show Blk w6 b3 23 _ from hb) 6 _
  have HC6 : Hid (V6.heap[b2]? = some (.cells #[.string ⟨#[]⟩, .string ⟨#[]⟩, .string ⟨#[]⟩, .string ⟨#[]⟩, .bool false, .string ⟨#[]⟩, .string ⟨#[]⟩, .string ⟨#[]⟩, .int .i64 0, .int .i64 0, .int .i64 0, .int .i64 0] 23 (0, 0))) := by show _ = _; rw [← hV, Below.heap_setCell _ _ _ _ (show b2 ≠ b3 from d32.symm)]; exact hc
  have HP6 : Hid (V6.heap[b4]? = some (.cells #[.pointer (some ⟨b3, 0, none⟩), .pointer (some ⟨b3, 1, none⟩), .pointer (some ⟨b3, 2, none⟩), .pointer (some ⟨b3, 3, none⟩), .pointer (some ⟨b3, 5, none⟩), .pointer (some ⟨b3, 6, none⟩), .pointer (some ⟨b3, 7, none⟩)] 107 (0, 0))) := by show _ = _; rw [← hV, Below.heap_setCell _ _ _ _ (show b4 ≠ b3 from d34.symm)]; exact hp
  have HR6 : Hid (RdAt g r6.e s r6.k V6) := by show _ = _; rw [← hV, Below.heap_setCell _ _ _ _ (show g ≠ b3 from g3.symm)]; exact hr
  have HM6 : Hid (Mv [g] [g] w V6) := by show Mv _ _ _ _; rw [← hV]; exact mv_setNew (HM5.out.trans hm) hw3 _ _
  have HV := Lib.hid hV
  have np : V6.cell? ⟨b4, 6, none⟩ = some (.pointer (some ⟨b3, 7, none⟩)) := by rw [Lib.cell_of_heap HP6.out]; rfl
  clear hV hr hm hb hc hp HB5 HC5 HR5 HM5 HP5
  go_wp2_with fail
  rw [HV.out]
  clear HV oc of
  rw [rounds_succ]
  go_wp2_with fail
  clear np
  refine (gText_any g s Q7.out K6.out hs _ HR6.out).mono ?_
  rintro e w7 ⟨rfl, hr, hm⟩
  have hb := (hm.block b3 (Blk.lt (t := 23) HB6.out) (by simpa using g3)).trans HB6.out
  have hc := (hm.block b2 (Blk.lt (t := 23) HC6.out) (by simpa using g2)).trans HC6.out
  have hp := (hm.block b4 (Blk.lt (t := 107) HP6.out) (by simpa using g4)).trans HP6.out
  have oc : w7.cell? ⟨b3, 7, none⟩ = some (.string ⟨#[]⟩) := by rw [Lib.cell_of_heap hb]; rfl
  have of : w7.frozen? ⟨b3, 7, none⟩ = false := Lib.frozen_of_heap hb 7
  obtain ⟨V7, hV⟩ : ∃ V7, w7.setCell ⟨b3, 7, none⟩ (.string r) = V7 := ⟨_, rfl⟩
  have HB7 : Hid (V7.heap[b3]? = some (.cells #[.string p, .string a, .string m, .string o, .bool false, .string ss, .string c, .string r, .int .i64 0, .int .i64 0, .int .i64 0, .int .i64 0] 23 (0, 0))) := by show _ = _; rw [← hV]; exact Blk.set_ (show Blk w7 b3 23 _ from hb) 7 _
  have HC7 : Hid (V7.heap[b2]? = some (.cells #[.string ⟨#[]⟩, .string ⟨#[]⟩, .string ⟨#[]⟩, .string ⟨#[]⟩, .bool false, .string ⟨#[]⟩, .string ⟨#[]⟩, .string ⟨#[]⟩, .int .i64 0, .int .i64 0, .int .i64 0, .int .i64 0] 23 (0, 0))) := by show _ = _; rw [← hV, Below.heap_setCell _ _ _ _ (show b2 ≠ b3 from d32.symm)]; exact hc
  have HP7 : Hid (V7.heap[b4]? = some (.cells #[.pointer (some ⟨b3, 0, none⟩), .pointer (some ⟨b3, 1, none⟩), .pointer (some ⟨b3, 2, none⟩), .pointer (some ⟨b3, 3, none⟩), .pointer (some ⟨b3, 5, none⟩), .pointer (some ⟨b3, 6, none⟩), .pointer (some ⟨b3, 7, none⟩)] 107 (0, 0))) := by show _ = _; rw [← hV, Below.heap_setCell _ _ _ _ (show b4 ≠ b3 from d34.symm)]; exact hp
  have HR7 : Hid (RdAt g r7.e s r7.k V7) := by show _ = _; rw [← hV, Below.heap_setCell _ _ _ _ (show g ≠ b3 from g3.symm)]; exact hr
  have HM7 : Hid (Mv [g] [g] w V7) := by show Mv _ _ _ _; rw [← hV]; exact mv_setNew (HM6.out.trans hm) hw3 _ _
  have HV := Lib.hid hV
  clear hV hr hm hb hc hp HB6 HC6 HR6 HM6 HP6
  go_wp2_with fail
  rw [HV.out]
  clear HV oc of
  rw [rounds_succ]
  go_wp2_with fail
  refine (gBool_any g s Q8.out K7.out hs _ HR7.out).mono ?_
  rintro e w8 ⟨rfl, hr, hm⟩
  have hb := (hm.block b3 (Blk.lt (t := 23) HB7.out) (by simpa using g3)).trans HB7.out
  have hc := (hm.block b2 (Blk.lt (t := 23) HC7.out) (by simpa using g2)).trans HC7.out
  have oc : w8.cell? ⟨b3, 4, none⟩ = some (.bool false) := by rw [Lib.cell_of_heap hb]; rfl
  have of : w8.frozen? ⟨b3, 4, none⟩ = false := Lib.frozen_of_heap hb 4
  obtain ⟨V8, hV⟩ : ∃ V8, w8.setCell ⟨b3, 4, none⟩ (.bool dl) = V8 := ⟨_, rfl⟩
  have HB8 : Hid (V8.heap[b3]? = some (.cells #[.string p, .string a, .string m, .string o, .bool dl, .string ss, .string c, .string r, .int .i64 0, .int .i64 0, .int .i64 0, .int .i64 0] 23 (0, 0))) := by show _ = _; rw [← hV]; exact Blk.set_ (show Blk w8 b3 23 _ from hb) 4 _
  have HC8 : Hid (V8.heap[b2]? = some (.cells #[.string ⟨#[]⟩, .string ⟨#[]⟩, .string ⟨#[]⟩, .string ⟨#[]⟩, .bool false, .string ⟨#[]⟩, .string ⟨#[]⟩, .string ⟨#[]⟩, .int .i64 0, .int .i64 0, .int .i64 0, .int .i64 0] 23 (0, 0))) := by show _ = _; rw [← hV, Below.heap_setCell _ _ _ _ (show b2 ≠ b3 from d32.symm)]; exact hc
  have HR8 : Hid (RdAt g r8.e s r8.k V8) := by show _ = _; rw [← hV, Below.heap_setCell _ _ _ _ (show g ≠ b3 from g3.symm)]; exact hr
  have HM8 : Hid (Mv [g] [g] w V8) := by show Mv _ _ _ _; rw [← hV]; exact mv_setNew (HM7.out.trans hm) hw3 _ _
  have HV := Lib.hid hV
  have hsz : w8.heap.size = V8.heap.size := by rw [← hV]; simp
  clear hV hr hm hb hc HB7 HC7 HR7 HM7
  go_wp2_with fail
  rw [HV.out]
  clear HV oc of hsz
  have HP8 : Hid ((V8.alloc (.cells #[.pointer (some ⟨b3, 8, none⟩), .pointer (some ⟨b3, 9, none⟩), .pointer (some ⟨b3, 10, none⟩), .pointer (some ⟨b3, 11, none⟩)] 103)).heap[V8.heap.size]? = some (.cells #[.pointer (some ⟨b3, 8, none⟩), .pointer (some ⟨b3, 9, none⟩), .pointer (some ⟨b3, 10, none⟩), .pointer (some ⟨b3, 11, none⟩)] 103 (0, 0))) := heap_alloc_new _ _
  have hz := Blk.lt (t := 23) HB8.out
  have hz2 := Blk.lt (t := 23) HC8.out
  have hzg := HR8.out.lt
  have d5 : V8.heap.size ≠ b3 := by omega
  have d6 : V8.heap.size ≠ b2 := by omega
  have g5 : V8.heap.size ≠ g := by omega
  have hbn : Below V8.heap.size V8 (V8.alloc (.cells #[.pointer (some ⟨b3, 8, none⟩), .pointer (some ⟨b3, 9, none⟩), .pointer (some ⟨b3, 10, none⟩), .pointer (some ⟨b3, 11, none⟩)] 103)) := (Below.refl _ _).alloc (Nat.le_refl _) _
  have hB := (Below.heap_alloc V8 (.cells #[.pointer (some ⟨b3, 8, none⟩), .pointer (some ⟨b3, 9, none⟩), .pointer (some ⟨b3, 10, none⟩), .pointer (some ⟨b3, 11, none⟩)] 103) b3 hz).trans HB8.out
  have hC := (Below.heap_alloc V8 (.cells #[.pointer (some ⟨b3, 8, none⟩), .pointer (some ⟨b3, 9, none⟩), .pointer (some ⟨b3, 10, none⟩), .pointer (some ⟨b3, 11, none⟩)] 103) b2 hz2).trans HC8.out
  have hR := HR8.out.below hbn
  have hM := HM8.out.trans (Mv.of_new (S' := [g]) hbn (fun _ h => .inl h))
  obtain ⟨U, hU⟩ : ∃ U, V8.alloc (.cells #[.pointer (some ⟨b3, 8, none⟩), .pointer (some ⟨b3, 9, none⟩), .pointer (some ⟨b3, 10, none⟩), .pointer (some ⟨b3, 11, none⟩)] 103) = U := ⟨_, rfl⟩
  rw [hU] at HP8 hB hC hR hM ⊢
  obtain ⟨b5, hb5⟩ : ∃ b5, V8.heap.size = b5 := ⟨_, rfl⟩
  rw [hb5] at HP8 d5 d6 g5 ⊢
  clear hU hb5 hbn hz hz2 hzg HB8 HC8 HR8 HM8
  have HB8 := Lib.hid hB
  have HC8 := Lib.hid hC
  have HR8 := Lib.hid hR
  have HM8 := Lib.hid hM
  have np : U.cell? ⟨b5, 0, none⟩ = some (.pointer (some ⟨b3, 8, none⟩)) := by rw [Lib.cell_of_heap HP8.out]; rfl
  clear hB hC hR hM
  refine wp_loop_rounds 5 ?_
  rw [rounds_succ]
  go_wp2_with fail
  clear np
  refine (gNum_any g s Q9.out K8.out hs _ HR8.out).mono ?_
  rintro e w9 ⟨rfl, hr, hm⟩
  have hb := (hm.block b3 (Blk.lt (t := 23) HB8.out) (by simpa using g3)).trans HB8.out
  have hc := (hm.block b2 (Blk.lt (t := 23) HC8.out) (by simpa using g2)).trans HC8.out
  have hp := (hm.block b5 (Blk.lt (t := 103) HP8.out) (by simpa using g5)).trans HP8.out
  have oc : w9.cell? ⟨b3, 8, none⟩ = some (.int .i64 0) := by rw [Lib.cell_of_heap hb]; rfl
  have of : w9.frozen? ⟨b3, 8, none⟩ = false := Lib.frozen_of_heap hb 8
  obtain ⟨V9, hV⟩ : ∃ V9, w9.setCell ⟨b3, 8, none⟩ (.int .i64 q) = V9 := ⟨_, rfl⟩
  have HB9 : Hid (V9.heap[b3]? = some (.cells #[.string p, .string a, .string m, .string o, .bool dl, .string ss, .string c, .string r, .int .i64 q, .int .i64 0, .int .i64 0, .int .i64 0] 23 (0, 0))) := by show _ = _; rw [← hV]; exact Blk.set_ (show Blk w9 b3 23 _ from hb) 8 _
  have HC9 : Hid (V9.heap[b2]? = some (.cells #[.string ⟨#[]⟩, .string ⟨#[]⟩, .string ⟨#[]⟩, .string ⟨#[]⟩, .bool false, .string ⟨#[]⟩, .string ⟨#[]⟩, .string ⟨#[]⟩, .int .i64 0, .int .i64 0, .int .i64 0, .int .i64 0] 23 (0, 0))) := by show _ = _; rw [← hV, Below.heap_setCell _ _ _ _ (show b2 ≠ b3 from d32.symm)]; exact hc
  have HP9 : Hid (V9.heap[b5]? = some (.cells #[.pointer (some ⟨b3, 8, none⟩), .pointer (some ⟨b3, 9, none⟩), .pointer (some ⟨b3, 10, none⟩), .pointer (some ⟨b3, 11, none⟩)] 103 (0, 0))) := by show _ = _; rw [← hV, Below.heap_setCell _ _ _ _ (show b5 ≠ b3 from d5)]; exact hp
  have HR9 : Hid (RdAt g r9.e s r9.k V9) := by show _ = _; rw [← hV, Below.heap_setCell _ _ _ _ (show g ≠ b3 from g3.symm)]; exact hr
  have HM9 : Hid (Mv [g] [g] w V9) := by show Mv _ _ _ _; rw [← hV]; exact mv_setNew (HM8.out.trans hm) hw3 _ _
  have HV := Lib.hid hV
  have np : V9.cell? ⟨b5, 1, none⟩ = some (.pointer (some ⟨b3, 9, none⟩)) := by rw [Lib.cell_of_heap HP9.out]; rfl
  clear hV hr hm hb hc hp HB8 HC8 HR8 HM8 HP8
  go_wp2_with fail
  rw [HV.out]
  clear HV oc of
  rw [rounds_succ]
  go_wp2_with fail
  clear np
  refine (gNum_any g s Q10.out K9.out hs _ HR9.out).mono ?_
  rintro e w10 ⟨rfl, hr, hm⟩
  have hb := (hm.block b3 (Blk.lt (t := 23) HB9.out) (by simpa using g3)).trans HB9.out
  have hc := (hm.block b2 (Blk.lt (t := 23) HC9.out) (by simpa using g2)).trans HC9.out
  have hp := (hm.block b5 (Blk.lt (t := 103) HP9.out) (by simpa using g5)).trans HP9.out
  have oc : w10.cell? ⟨b3, 9, none⟩ = some (.int .i64 0) := by rw [Lib.cell_of_heap hb]; rfl
  have of : w10.frozen? ⟨b3, 9, none⟩ = false := Lib.frozen_of_heap hb 9
  obtain ⟨V10, hV⟩ : ∃ V10, w10.setCell ⟨b3, 9, none⟩ (.int .i64 am) = V10 := ⟨_, rfl⟩
  have HB10 : Hid (V10.heap[b3]? = some (.cells #[.string p, .string a, .string m, .string o, .bool dl, .string ss, .string c, .string r, .int .i64 q, .int .i64 am, .int .i64 0, .int .i64 0] 23 (0, 0))) := by show _ = _; rw [← hV]; exact Blk.set_ (show Blk w10 b3 23 _ from hb) 9 _
  have HC10 : Hid (V10.heap[b2]? = some (.cells #[.string ⟨#[]⟩, .string ⟨#[]⟩, .string ⟨#[]⟩, .string ⟨#[]⟩, .bool false, .string ⟨#[]⟩, .string ⟨#[]⟩, .string ⟨#[]⟩, .int .i64 0, .int .i64 0, .int .i64 0, .int .i64 0] 23 (0, 0))) := by show _ = _; rw [← hV, Below.heap_setCell _ _ _ _ (show b2 ≠ b3 from d32.symm)]; exact hc
  have HP10 : Hid (V10.heap[b5]? = some (.cells #[.pointer (some ⟨b3, 8, none⟩), .pointer (some ⟨b3, 9, none⟩), .pointer (some ⟨b3, 10, none⟩), .pointer (some ⟨b3, 11, none⟩)] 103 (0, 0))) := by show _ = _; rw [← hV, Below.heap_setCell _ _ _ _ (show b5 ≠ b3 from d5)]; exact hp
  have HR10 : Hid (RdAt g r10.e s r10.k V10) := by show _ = _; rw [← hV, Below.heap_setCell _ _ _ _ (show g ≠ b3 from g3.symm)]; exact hr
  have HM10 : Hid (Mv [g] [g] w V10) := by show Mv _ _ _ _; rw [← hV]; exact mv_setNew (HM9.out.trans hm) hw3 _ _
  have HV := Lib.hid hV
  have np : V10.cell? ⟨b5, 2, none⟩ = some (.pointer (some ⟨b3, 10, none⟩)) := by rw [Lib.cell_of_heap HP10.out]; rfl
  clear hV hr hm hb hc hp HB9 HC9 HR9 HM9 HP9
  go_wp2_with fail
  rw [HV.out]
  clear HV oc of
  rw [rounds_succ]
  go_wp2_with fail
  clear np
  refine (gNum_any g s Q11.out K10.out hs _ HR10.out).mono ?_
  rintro e w11 ⟨rfl, hr, hm⟩
  have hb := (hm.block b3 (Blk.lt (t := 23) HB10.out) (by simpa using g3)).trans HB10.out
  have hc := (hm.block b2 (Blk.lt (t := 23) HC10.out) (by simpa using g2)).trans HC10.out
  have hp := (hm.block b5 (Blk.lt (t := 103) HP10.out) (by simpa using g5)).trans HP10.out
  have oc : w11.cell? ⟨b3, 10, none⟩ = some (.int .i64 0) := by rw [Lib.cell_of_heap hb]; rfl
  have of : w11.frozen? ⟨b3, 10, none⟩ = false := Lib.frozen_of_heap hb 10
  obtain ⟨V11, hV⟩ : ∃ V11, w11.setCell ⟨b3, 10, none⟩ (.int .i64 dy) = V11 := ⟨_, rfl⟩
  have HB11 : Hid (V11.heap[b3]? = some (.cells #[.string p, .string a, .string m, .string o, .bool dl, .string ss, .string c, .string r, .int .i64 q, .int .i64 am, .int .i64 dy, .int .i64 0] 23 (0, 0))) := by show _ = _; rw [← hV]; exact Blk.set_ (show Blk w11 b3 23 _ from hb) 10 _
  have HC11 : Hid (V11.heap[b2]? = some (.cells #[.string ⟨#[]⟩, .string ⟨#[]⟩, .string ⟨#[]⟩, .string ⟨#[]⟩, .bool false, .string ⟨#[]⟩, .string ⟨#[]⟩, .string ⟨#[]⟩, .int .i64 0, .int .i64 0, .int .i64 0, .int .i64 0] 23 (0, 0))) := by show _ = _; rw [← hV, Below.heap_setCell _ _ _ _ (show b2 ≠ b3 from d32.symm)]; exact hc
  have HP11 : Hid (V11.heap[b5]? = some (.cells #[.pointer (some ⟨b3, 8, none⟩), .pointer (some ⟨b3, 9, none⟩), .pointer (some ⟨b3, 10, none⟩), .pointer (some ⟨b3, 11, none⟩)] 103 (0, 0))) := by show _ = _; rw [← hV, Below.heap_setCell _ _ _ _ (show b5 ≠ b3 from d5)]; exact hp
  have HR11 : Hid (RdAt g r11.e s r11.k V11) := by show _ = _; rw [← hV, Below.heap_setCell _ _ _ _ (show g ≠ b3 from g3.symm)]; exact hr
  have HM11 : Hid (Mv [g] [g] w V11) := by show Mv _ _ _ _; rw [← hV]; exact mv_setNew (HM10.out.trans hm) hw3 _ _
  have HV := Lib.hid hV
  have np : V11.cell? ⟨b5, 3, none⟩ = some (.pointer (some ⟨b3, 11, none⟩)) := by rw [Lib.cell_of_heap HP11.out]; rfl
  clear hV hr hm hb hc hp HB10 HC10 HR10 HM10 HP10
  go_wp2_with fail
  rw [HV.out]
  clear HV oc of
  rw [rounds_succ]
  go_wp2_with fail
  clear np
  refine (gNum_any g s Q12.out K11.out hs _ HR11.out).mono ?_
  rintro e w12 ⟨rfl, hr, hm⟩
  have hb := (hm.block b3 (Blk.lt (t := 23) HB11.out) (by simpa using g3)).trans HB11.out
  have hc := (hm.block b2 (Blk.lt (t := 23) HC11.out) (by simpa using g2)).trans HC11.out
  have hp := (hm.block b5 (Blk.lt (t := 103) HP11.out) (by simpa using g5)).trans HP11.out
  have oc : w12.cell? ⟨b3, 11, none⟩ = some (.int .i64 0) := by rw [Lib.cell_of_heap hb]; rfl
  have of : w12.frozen? ⟨b3, 11, none⟩ = false := Lib.frozen_of_heap hb 11
  obtain ⟨V12, hV⟩ : ∃ V12, w12.setCell ⟨b3, 11, none⟩ (.int .i64 td) = V12 := ⟨_, rfl⟩
  have HB12 : Hid (V12.heap[b3]? = some (.cells #[.string p, .string a, .string m, .string o, .bool dl, .string ss, .string c, .string r, .int .i64 q, .int .i64 am, .int .i64 dy, .int .i64 td] 23 (0, 0))) := by show _ = _; rw [← hV]; exact Blk.set_ (show Blk w12 b3 23 _ from hb) 11 _
  have HC12 : Hid (V12.heap[b2]? = some (.cells #[.string ⟨#[]⟩, .string ⟨#[]⟩, .string ⟨#[]⟩, .string ⟨#[]⟩, .bool false, .string ⟨#[]⟩, .string ⟨#[]⟩, .string ⟨#[]⟩, .int .i64 0, .int .i64 0, .int .i64 0, .int .i64 0] 23 (0, 0))) := by show _ = _; rw [← hV, Below.heap_setCell _ _ _ _ (show b2 ≠ b3 from d32.symm)]; exact hc
  have HP12 : Hid (V12.heap[b5]? = some (.cells #[.pointer (some ⟨b3, 8, none⟩), .pointer (some ⟨b3, 9, none⟩), .pointer (some ⟨b3, 10, none⟩), .pointer (some ⟨b3, 11, none⟩)] 103 (0, 0))) := by show _ = _; rw [← hV, Below.heap_setCell _ _ _ _ (show b5 ≠ b3 from d5)]; exact hp
  have HR12 : Hid (RdAt g r12.e s r12.k V12) := by show _ = _; rw [← hV, Below.heap_setCell _ _ _ _ (show g ≠ b3 from g3.symm)]; exact hr
  have HM12 : Hid (Mv [g] [g] w V12) := by show Mv _ _ _ _; rw [← hV]; exact mv_setNew (HM11.out.trans hm) hw3 _ _
  have HV := Lib.hid hV
  clear hV hr hm hb hc hp HB11 HC11 HR11 HM11 HP11
  go_wp2_with fail
  rw [HV.out]
  clear HV oc of
  rw [rounds_succ]
  go_wp2_with fail
  refine (ioff_any g r12.e s _ _ HR12.out).mono ?_
  rintro e w20 ⟨rfl, rfl⟩
  by_cases he12 : r12.e = 0
  · have hb12 : (r12.e != 0) = false := by simp [he12]
    rw [hb12]
    have hres := HRES.out
    rw [if_neg (by simp [he12])] at hres
    have HRES2 := Lib.hid hres
    clear hb12 hres he12 HRES
    go_wp2_with (first
      | (refine wpList_load_named rfl 23 _ rfl b3 rfl _ _ _ HB12.out Try.underlying23 rfl size_term _ rfl ?_)
      | (refine wpList_store_row rfl 23 _ _ rfl b2 _ rfl rfl _ _ HC12.out size_term rfl (by simp [Value.oneCell']) ?_))
    have hk := setRow_heap V12 b2 _ #[.string p, .string a, .string m, .string o, .bool dl, .string ss, .string c, .string r, .int .i64 q, .int .i64 am, .int .i64 dy, .int .i64 td] _ _ HC12.out
    refine bodyPost_ret (results_cell_row rfl _ _ b2 _ _ _ _ rfl hk Try.underlying23 rfl size_term) rfl ?_
    have hmv := mv_setRowNew HM12.out (Nat.le_of_eq HB2.out) #[.string p, .string a, .string m, .string o, .bool dl, .string ss, .string c, .string r, .int .i64 q, .int .i64 am, .int .i64 dy, .int .i64 td]
    rw [HRES2.out]
    refine ⟨rfl, ?_, hmv⟩
    exact (setRow_other V12 b2 g _ g2.symm).trans HR12.out
  · have hb12 : (r12.e != 0) = true := by simp [he12]
    rw [hb12]
    have hres := HRES.out
    rw [if_pos he12] at hres
    have HRES2 := Lib.hid hres
    clear hb12 hres he12 HRES
    go_wp2_with (first
      | (refine wpList_load_named rfl 23 _ rfl b3 rfl _ _ _ HB12.out Try.underlying23 rfl size_term _ rfl ?_)
      | (refine wpList_store_row rfl 23 _ _ rfl b2 _ rfl rfl _ _ HC12.out size_term rfl (by simp [Value.oneCell']) ?_))
    have hk := setRow_heap V12 b2 _ #[.string ⟨#[]⟩, .string ⟨#[]⟩, .string ⟨#[]⟩, .string ⟨#[]⟩, .bool false, .string ⟨#[]⟩, .string ⟨#[]⟩, .string ⟨#[]⟩, .int .i64 0, .int .i64 0, .int .i64 0, .int .i64 0] _ _ HC12.out
    refine bodyPost_ret (results_cell_row rfl _ _ b2 _ _ _ _ rfl hk Try.underlying23 rfl size_term) rfl ?_
    have hmv := mv_setRowNew HM12.out (Nat.le_of_eq HB2.out) #[.string ⟨#[]⟩, .string ⟨#[]⟩, .string ⟨#[]⟩, .string ⟨#[]⟩, .bool false, .string ⟨#[]⟩, .string ⟨#[]⟩, .string ⟨#[]⟩, .int .i64 0, .int .i64 0, .int .i64 0, .int .i64 0]
    rw [HRES2.out]
    refine ⟨rfl, ?_, hmv⟩
    exact (setRow_other V12 b2 g _ g2.symm).trans HR12.out
end Go.Proofs.Ytkcecijepbceiaa
