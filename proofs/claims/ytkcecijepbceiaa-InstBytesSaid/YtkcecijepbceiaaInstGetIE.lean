/-
  Package inst as a contract: Get, with every error.
  Conditions: a reader that the call has made.
-/
import Derived.Test.YtkcecijepbceiaaInstGetE
import Derived.Test.YtkcecijepbceiaaInstGetI
namespace Go.Proofs.Ytkcecijepbceiaa
open Go.RowKit

set_option maxHeartbeats 40000000 in
set_option maxRecDepth 100000 in
theorem getE_any (g : Nat) (s : ByteArray) (r0 : Rd) (hk : r0.k ≤ s.size) (hs : s.size ≤ 1000000000) (w : World) (h : RdAt g r0.e s r0.k w) :
    Calls Try.prog 24 #[.pointer (some ⟨g, 0, none⟩)] w fun e w' => e = .returned (.agg (rdIns s r0).1.cells) ∧ RdAt g (rdIns s r0).2.e s (rdIns s r0).2.k w' ∧ Mv [g] [g] w w' := by
  obtain ⟨⟨id, r1⟩, q1⟩ : ∃ z, rdNum s r0 = z := ⟨_, rfl⟩
  have k1 : r1.k ≤ s.size := by have z := rdNum_k (s := s) hk; rw [q1] at z; exact z
  obtain ⟨⟨⟨p, a, m, o, dl, ss, c, r, q, am, dy, td⟩, r2⟩, q2⟩ : ∃ z, rdTrm s r1 = z := ⟨_, rfl⟩
  have k2 : r2.k ≤ s.size := by have z := rdTrm_k (s := s) k1; rw [q2] at z; exact z
  obtain ⟨⟨pr, r3⟩, q3⟩ : ∃ z, rdNum s r2 = z := ⟨_, rfl⟩
  have k3 : r3.k ≤ s.size := by have z := rdNum_k (s := s) k2; rw [q3] at z; exact z
  obtain ⟨⟨part, r4⟩, q4⟩ : ∃ z, rdBool s r3 = z := ⟨_, rfl⟩
  have k4 : r4.k ≤ s.size := by have z := rdBool_k (s := s) k3; rw [q4] at z; exact z
  obtain ⟨⟨held, r5⟩, q5⟩ : ∃ z, rdBool s r4 = z := ⟨_, rfl⟩
  have k5 : r5.k ≤ s.size := by have z := rdBool_k (s := s) k4; rw [q5] at z; exact z
  obtain ⟨⟨wish, r6⟩, q6⟩ : ∃ z, rdBool s r5 = z := ⟨_, rfl⟩
  have k6 : r6.k ≤ s.size := by have z := rdBool_k (s := s) k5; rw [q6] at z; exact z
  obtain ⟨⟨st, r7⟩, q7⟩ : ∃ z, rdNum s r6 = z := ⟨_, rfl⟩
  have k7 : r7.k ≤ s.size := by have z := rdNum_k (s := s) k6; rw [q7] at z; exact z
  obtain ⟨⟨ma, r8⟩, q8⟩ : ∃ z, rdNum s r7 = z := ⟨_, rfl⟩
  have k8 : r8.k ≤ s.size := by have z := rdNum_k (s := s) k7; rw [q8] at z; exact z
  obtain ⟨⟨dn, r9⟩, q9⟩ : ∃ z, rdNum s r8 = z := ⟨_, rfl⟩
  have k9 : r9.k ≤ s.size := by have z := rdNum_k (s := s) k8; rw [q9] at z; exact z
  obtain ⟨⟨pd, r10⟩, q10⟩ : ∃ z, rdNum s r9 = z := ⟨_, rfl⟩
  have k10 : r10.k ≤ s.size := by have z := rdNum_k (s := s) k9; rw [q10] at z; exact z
  have hres : rdIns s r0 = if r10.e ≠ 0 then (Ins.zero, r10) else (⟨id, ⟨p, a, m, o, dl, ss, c, r, q, am, dy, td⟩, pr, part, held, wish, st, ma, dn, pd⟩, r10) := by
    unfold rdIns rdIns1
    simp only [q1, q2, q3, q4, q5, q6, q7, q8, q9, q10]
  have GT : Hid (∀ (w : World), RdAt g r1.e s r1.k w → Calls Try.prog 27 #[.pointer (some ⟨g, 0, none⟩)] w fun e w' => e = .returned (.agg #[.string p, .string a, .string m, .string o, .bool dl, .string ss, .string c, .string r, .int .i64 q, .int .i64 am, .int .i64 dy, .int .i64 td]) ∧ RdAt g r2.e s r2.k w' ∧ Mv [g] [g] w w') := by
    intro w h1
    have z := getTermE_any g s r1 k1 hs w h1
    rw [q2] at z
    exact z
  have Y1 := Lib.hid q1; have K1 := Lib.hid k1
  have Y2 := Lib.hid q2; have K2 := Lib.hid k2
  have Y3 := Lib.hid q3; have K3 := Lib.hid k3
  have Y4 := Lib.hid q4; have K4 := Lib.hid k4
  have Y5 := Lib.hid q5; have K5 := Lib.hid k5
  have Y6 := Lib.hid q6; have K6 := Lib.hid k6
  have Y7 := Lib.hid q7; have K7 := Lib.hid k7
  have Y8 := Lib.hid q8; have K8 := Lib.hid k8
  have Y9 := Lib.hid q9; have K9 := Lib.hid k9
  have Y10 := Lib.hid q10; have K10 := Lib.hid k10
  have K0 := Lib.hid hk
  have HRES := Lib.hid hres
  clear hres hk q1 k1 q2 k2 q3 k3 q4 k4 q5 k5 q6 k6 q7 k7 q8 k8 q9 k9 q10 k10
  have hgl := h.lt
  obtain ⟨W0, hW0⟩ : ∃ W0, w.alloc (.cells #[.int .i64 0, .string ⟨#[]⟩, .string ⟨#[]⟩, .string ⟨#[]⟩, .string ⟨#[]⟩, .bool false, .string ⟨#[]⟩, .string ⟨#[]⟩, .string ⟨#[]⟩, .int .i64 0, .int .i64 0, .int .i64 0, .int .i64 0, .int .i64 0, .bool false, .bool false, .bool false, .int .i64 0, .int .i64 0, .int .i64 0, .int .i64 0] 25) = W0 := ⟨_, rfl⟩
  have HC0 : Hid (W0.heap[w.heap.size]? = some (.cells #[.int .i64 0, .string ⟨#[]⟩, .string ⟨#[]⟩, .string ⟨#[]⟩, .string ⟨#[]⟩, .bool false, .string ⟨#[]⟩, .string ⟨#[]⟩, .string ⟨#[]⟩, .int .i64 0, .int .i64 0, .int .i64 0, .int .i64 0, .int .i64 0, .bool false, .bool false, .bool false, .int .i64 0, .int .i64 0, .int .i64 0, .int .i64 0] 25 (0, 0))) := by show _ = _; rw [← hW0]; exact heap_alloc_new w _
  have hbw : Below w.heap.size w W0 := by rw [← hW0]; exact (Below.refl _ _).alloc (Nat.le_refl _) _
  have HR0 : Hid (RdAt g r0.e s r0.k W0) := h.below hbw
  have HM0 : Hid (Mv [g] [g] w W0) := Mv.of_new hbw (fun _ h => .inl h)
  have HW0 := Lib.hid hW0
  clear h hW0 hbw
  go_enter Try.func24, Try.ntmps24
  go_wp2_with fail
  rw [HW0.out]
  obtain ⟨b2, hb2⟩ : ∃ b2, w.heap.size = b2 := ⟨_, rfl⟩
  rw [hb2] at HC0 hgl ⊢
  have HB2 := Lib.hid hb2
  have g2 : b2 ≠ g := by omega
  clear HW0 hb2 hgl
  refine (gNum_any g s Y1.out K0.out hs _ HR0.out).mono ?_
  rintro e w1 ⟨rfl, hr, hm⟩
  have hc := (hm.block b2 (Blk.lt (t := 25) HC0.out) (by simpa using g2)).trans HC0.out
  have hbn : Below w1.heap.size w1 (w1.alloc (.cells #[.int .i64 id, .string ⟨#[]⟩, .string ⟨#[]⟩, .string ⟨#[]⟩, .string ⟨#[]⟩, .bool false, .string ⟨#[]⟩, .string ⟨#[]⟩, .string ⟨#[]⟩, .int .i64 0, .int .i64 0, .int .i64 0, .int .i64 0, .int .i64 0, .bool false, .bool false, .bool false, .int .i64 0, .int .i64 0, .int .i64 0, .int .i64 0] 25)) := (Below.refl _ _).alloc (Nat.le_refl _) _
  have hlt2 := Blk.lt (t := 25) hc
  have hltg := hr.lt
  obtain ⟨V1, hV⟩ : ∃ V1, w1.alloc (.cells #[.int .i64 id, .string ⟨#[]⟩, .string ⟨#[]⟩, .string ⟨#[]⟩, .string ⟨#[]⟩, .bool false, .string ⟨#[]⟩, .string ⟨#[]⟩, .string ⟨#[]⟩, .int .i64 0, .int .i64 0, .int .i64 0, .int .i64 0, .int .i64 0, .bool false, .bool false, .bool false, .int .i64 0, .int .i64 0, .int .i64 0, .int .i64 0] 25) = V1 := ⟨_, rfl⟩
  have hb := heap_alloc_new w1 (.cells #[.int .i64 id, .string ⟨#[]⟩, .string ⟨#[]⟩, .string ⟨#[]⟩, .string ⟨#[]⟩, .bool false, .string ⟨#[]⟩, .string ⟨#[]⟩, .string ⟨#[]⟩, .int .i64 0, .int .i64 0, .int .i64 0, .int .i64 0, .int .i64 0, .bool false, .bool false, .bool false, .int .i64 0, .int .i64 0, .int .i64 0, .int .i64 0] 25)
  have hwz : w.heap.size ≤ w1.heap.size := (HM0.out.trans hm).size
  have HR1 := Lib.hid (hr.below hbn)
  have HC1 := Lib.hid ((hbn.block b2 hlt2).trans hc)
  have HM1 := Lib.hid ((HM0.out.trans hm).trans (Mv.of_new (S' := [g]) hbn (fun _ h => .inl h)))
  obtain ⟨b3, hb3⟩ : ∃ b3, w1.heap.size = b3 := ⟨_, rfl⟩
  rw [hV] at hb HR1 HC1 HM1
  rw [hb3] at hb hlt2 hltg hwz
  have d32 : b3 ≠ b2 := by omega
  have g3 : b3 ≠ g := by omega
  have hw3 : w.heap.size ≤ b3 := hwz
  have HB1 := Lib.hid hb
  have HV := Lib.hid hV; have HB3 := Lib.hid hb3
  clear hr hm hc hbn hlt2 hltg hV hb hwz hb3 HC0 HR0 HM0
  go_wp2_with (refine wpList_store_last rfl 25 _ _ rfl _ 25 _ _ rfl rfl (by exact size_inst) (by rfl) (by simp [Value.oneCell']) ?_)
  rw [HV.out, HB3.out]
  clear HV HB3
  refine (GT.out _ HR1.out).mono ?_
  rintro e w2 ⟨rfl, hr, hm⟩
  have hb := (hm.block b3 (Blk.lt (t := 25) HB1.out) (by simpa using g3)).trans HB1.out
  have hc := (hm.block b2 (Blk.lt (t := 25) HC1.out) (by simpa using g2)).trans HC1.out
  have HBP := Lib.hid hb
  obtain ⟨V2, hV⟩ : ∃ V2, w2.setCells b3 1 [.string p, .string a, .string m, .string o, .bool dl, .string ss, .string c, .string r, .int .i64 q, .int .i64 am, .int .i64 dy, .int .i64 td] = V2 := ⟨_, rfl⟩
  have HB2_ : Hid (V2.heap[b3]? = some (.cells #[.int .i64 id, .string p, .string a, .string m, .string o, .bool dl, .string ss, .string c, .string r, .int .i64 q, .int .i64 am, .int .i64 dy, .int .i64 td, .int .i64 0, .bool false, .bool false, .bool false, .int .i64 0, .int .i64 0, .int .i64 0, .int .i64 0] 25 (0, 0))) := by
    show _ = _
    rw [← hV]
    have hq := setCells_blk [.string p, .string a, .string m, .string o, .bool dl, .string ss, .string c, .string r, .int .i64 q, .int .i64 am, .int .i64 dy, .int .i64 td] 1 _ _ hb
    simp only [setArr, List.setIfInBounds_toArray, List.set_cons_zero, List.set_cons_succ, Nat.reduceAdd] at hq
    exact hq
  have HC2 : Hid (V2.heap[b2]? = some (.cells #[.int .i64 0, .string ⟨#[]⟩, .string ⟨#[]⟩, .string ⟨#[]⟩, .string ⟨#[]⟩, .bool false, .string ⟨#[]⟩, .string ⟨#[]⟩, .string ⟨#[]⟩, .int .i64 0, .int .i64 0, .int .i64 0, .int .i64 0, .int .i64 0, .bool false, .bool false, .bool false, .int .i64 0, .int .i64 0, .int .i64 0, .int .i64 0] 25 (0, 0))) := by show _ = _; rw [← hV, setCells_other d32.symm]; exact hc
  have HR2 : Hid (RdAt g r2.e s r2.k V2) := by show _ = _; rw [← hV, setCells_other g3.symm]; exact hr
  have HM2 : Hid (Mv [g] [g] w V2) := by show Mv _ _ _ _; rw [← hV]; exact mv_setCellsNew hw3 _ 1 _ (HM1.out.trans hm)
  have HV := Lib.hid hV
  clear hV hr hm hb hc HB1 HC1 HR1 HM1 GT
  have q1 : (Try.prog.info? 23).map (·.size) = some ([.string p, .string a, .string m, .string o, .bool dl, .string ss, .string c, .string r, .int .i64 q, .int .i64 am, .int .i64 dy, .int .i64 td] : List Value).length := size_term
  have q2 : ∀ v ∈ ([.string p, .string a, .string m, .string o, .bool dl, .string ss, .string c, .string r, .int .i64 q, .int .i64 am, .int .i64 dy, .int .i64 td] : List Value), v.oneCell' = true := by
    intro v hv
    simp only [List.mem_cons, List.not_mem_nil, or_false] at hv
    rcases hv with rfl | rfl | rfl | rfl | rfl | rfl | rfl | rfl | rfl | rfl | rfl | rfl <;> rfl
  have q3 : 1 + ([.string p, .string a, .string m, .string o, .bool dl, .string ss, .string c, .string r, .int .i64 q, .int .i64 am, .int .i64 dy, .int .i64 td] : List Value).length ≤ (#[.int .i64 id, .string ⟨#[]⟩, .string ⟨#[]⟩, .string ⟨#[]⟩, .string ⟨#[]⟩, .bool false, .string ⟨#[]⟩, .string ⟨#[]⟩, .string ⟨#[]⟩, .int .i64 0, .int .i64 0, .int .i64 0, .int .i64 0, .int .i64 0, .bool false, .bool false, .bool false, .int .i64 0, .int .i64 0, .int .i64 0, .int .i64 0] : Array Value).size := by simp
  have Q1 := Lib.hid q1
  have Q2 := Lib.hid q2
  have Q3 := Lib.hid q3
  clear q1 q2 q3
  go_wp2_with (refine wpList_store_part rfl 23 _ _ rfl b3 1 [.string p, .string a, .string m, .string o, .bool dl, .string ss, .string c, .string r, .int .i64 q, .int .i64 am, .int .i64 dy, .int .i64 td] rfl rfl 25 _ HBP.out Q1.out Q3.out Q2.out ?_; rw [HV.out])
  clear HV HBP
  refine (gNum_any g s Y3.out K2.out hs _ HR2.out).mono ?_
  rintro e w3 ⟨rfl, hr, hm⟩
  have hb := (hm.block b3 (Blk.lt (t := 25) HB2_.out) (by simpa using g3)).trans HB2_.out
  have hc := (hm.block b2 (Blk.lt (t := 25) HC2.out) (by simpa using g2)).trans HC2.out
  have oc : w3.cell? ⟨b3, 13, none⟩ = some (.int .i64 0) := by rw [Lib.cell_of_heap hb]; rfl
  have of : w3.frozen? ⟨b3, 13, none⟩ = false := Lib.frozen_of_heap hb 13
  obtain ⟨V3, hV⟩ : ∃ V3, w3.setCell ⟨b3, 13, none⟩ (.int .i64 pr) = V3 := ⟨_, rfl⟩
  have HB3 : Hid (V3.heap[b3]? = some (.cells #[.int .i64 id, .string p, .string a, .string m, .string o, .bool dl, .string ss, .string c, .string r, .int .i64 q, .int .i64 am, .int .i64 dy, .int .i64 td, .int .i64 pr, .bool false, .bool false, .bool false, .int .i64 0, .int .i64 0, .int .i64 0, .int .i64 0] 25 (0, 0))) := by show _ = _; rw [← hV]; exact Blk.set_ (show Blk w3 b3 25 _ from hb) 13 _
  have HC3 : Hid (V3.heap[b2]? = some (.cells #[.int .i64 0, .string ⟨#[]⟩, .string ⟨#[]⟩, .string ⟨#[]⟩, .string ⟨#[]⟩, .bool false, .string ⟨#[]⟩, .string ⟨#[]⟩, .string ⟨#[]⟩, .int .i64 0, .int .i64 0, .int .i64 0, .int .i64 0, .int .i64 0, .bool false, .bool false, .bool false, .int .i64 0, .int .i64 0, .int .i64 0, .int .i64 0] 25 (0, 0))) := by show _ = _; rw [← hV, Below.heap_setCell _ _ _ _ (show b2 ≠ b3 from d32.symm)]; exact hc
  have HR3 : Hid (RdAt g r3.e s r3.k V3) := by show _ = _; rw [← hV, Below.heap_setCell _ _ _ _ (show g ≠ b3 from g3.symm)]; exact hr
  have HM3 : Hid (Mv [g] [g] w V3) := by show Mv _ _ _ _; rw [← hV]; exact mv_setNew (HM2.out.trans hm) hw3 _ _
  have HV := Lib.hid hV
  have hsz : w3.heap.size = V3.heap.size := by rw [← hV]; simp
  clear hV hr hm hb hc HB2_ HC2 HR2 HM2
  go_wp2_with fail
  rw [HV.out]
  clear HV oc of hsz
  have HP4 : Hid ((V3.alloc (.cells #[.pointer (some ⟨b3, 14, none⟩), .pointer (some ⟨b3, 15, none⟩), .pointer (some ⟨b3, 16, none⟩)] 101)).heap[V3.heap.size]? = some (.cells #[.pointer (some ⟨b3, 14, none⟩), .pointer (some ⟨b3, 15, none⟩), .pointer (some ⟨b3, 16, none⟩)] 101 (0, 0))) := heap_alloc_new _ _
  have hz := Blk.lt (t := 25) HB3.out
  have hz2 := Blk.lt (t := 25) HC3.out
  have hzg := HR3.out.lt
  have db4 : V3.heap.size ≠ b3 := by omega
  have gb4 : V3.heap.size ≠ g := by omega
  have hbn : Below V3.heap.size V3 (V3.alloc (.cells #[.pointer (some ⟨b3, 14, none⟩), .pointer (some ⟨b3, 15, none⟩), .pointer (some ⟨b3, 16, none⟩)] 101)) := (Below.refl _ _).alloc (Nat.le_refl _) _
  have hB := (Below.heap_alloc V3 (.cells #[.pointer (some ⟨b3, 14, none⟩), .pointer (some ⟨b3, 15, none⟩), .pointer (some ⟨b3, 16, none⟩)] 101) b3 hz).trans HB3.out
  have hC := (Below.heap_alloc V3 (.cells #[.pointer (some ⟨b3, 14, none⟩), .pointer (some ⟨b3, 15, none⟩), .pointer (some ⟨b3, 16, none⟩)] 101) b2 hz2).trans HC3.out
  have hR := HR3.out.below hbn
  have hM := HM3.out.trans (Mv.of_new (S' := [g]) hbn (fun _ h => .inl h))
  obtain ⟨U4, hU⟩ : ∃ U, V3.alloc (.cells #[.pointer (some ⟨b3, 14, none⟩), .pointer (some ⟨b3, 15, none⟩), .pointer (some ⟨b3, 16, none⟩)] 101) = U := ⟨_, rfl⟩
  rw [hU] at HP4 hB hC hR hM ⊢
  obtain ⟨b4, hbp⟩ : ∃ b, V3.heap.size = b := ⟨_, rfl⟩
  rw [hbp] at HP4 db4 gb4 ⊢
  have np : U4.cell? ⟨b4, 0, none⟩ = some (.pointer (some ⟨b3, 14, none⟩)) := by rw [Lib.cell_of_heap HP4.out]; rfl
  clear hU hbp hbn hz hz2 hzg HB3 HC3 HR3 HM3
  have HB4 := Lib.hid hB
  have HC4 := Lib.hid hC
  have HR4 := Lib.hid hR
  have HM4 := Lib.hid hM
  clear hB hC hR hM
  refine wp_loop_rounds 4 ?_
  rw [rounds_succ]
  go_wp2_with fail
  clear np
  refine (gBool_any g s Y4.out K3.out hs _ HR4.out).mono ?_
  rintro e w4 ⟨rfl, hr, hm⟩
  have hb := (hm.block b3 (Blk.lt (t := 25) HB4.out) (by simpa using g3)).trans HB4.out
  have hc := (hm.block b2 (Blk.lt (t := 25) HC4.out) (by simpa using g2)).trans HC4.out
  have hp := (hm.block b4 (Blk.lt (t := 101) HP4.out) (by simpa using gb4)).trans HP4.out
  have oc : w4.cell? ⟨b3, 14, none⟩ = some (.bool false) := by rw [Lib.cell_of_heap hb]; rfl
  have of : w4.frozen? ⟨b3, 14, none⟩ = false := Lib.frozen_of_heap hb 14
  obtain ⟨V4, hV⟩ : ∃ V4, w4.setCell ⟨b3, 14, none⟩ (.bool part) = V4 := ⟨_, rfl⟩
  have HB5 : Hid (V4.heap[b3]? = some (.cells #[.int .i64 id, .string p, .string a, .string m, .string o, .bool dl, .string ss, .string c, .string r, .int .i64 q, .int .i64 am, .int .i64 dy, .int .i64 td, .int .i64 pr, .bool part, .bool false, .bool false, .int .i64 0, .int .i64 0, .int .i64 0, .int .i64 0] 25 (0, 0))) := by show _ = _; rw [← hV]; exact Blk.set_ (show Blk w4 b3 25 _ from hb) 14 _
  have HC5 : Hid (V4.heap[b2]? = some (.cells #[.int .i64 0, .string ⟨#[]⟩, .string ⟨#[]⟩, .string ⟨#[]⟩, .string ⟨#[]⟩, .bool false, .string ⟨#[]⟩, .string ⟨#[]⟩, .string ⟨#[]⟩, .int .i64 0, .int .i64 0, .int .i64 0, .int .i64 0, .int .i64 0, .bool false, .bool false, .bool false, .int .i64 0, .int .i64 0, .int .i64 0, .int .i64 0] 25 (0, 0))) := by show _ = _; rw [← hV, Below.heap_setCell _ _ _ _ (show b2 ≠ b3 from d32.symm)]; exact hc
  have HP5 : Hid (V4.heap[b4]? = some (.cells #[.pointer (some ⟨b3, 14, none⟩), .pointer (some ⟨b3, 15, none⟩), .pointer (some ⟨b3, 16, none⟩)] 101 (0, 0))) := by show _ = _; rw [← hV, Below.heap_setCell _ _ _ _ (show b4 ≠ b3 from db4)]; exact hp
  have HR5 : Hid (RdAt g r4.e s r4.k V4) := by show _ = _; rw [← hV, Below.heap_setCell _ _ _ _ (show g ≠ b3 from g3.symm)]; exact hr
  have HM5 : Hid (Mv [g] [g] w V4) := by show Mv _ _ _ _; rw [← hV]; exact mv_setNew (HM4.out.trans hm) hw3 _ _
  have HV := Lib.hid hV
  have np : V4.cell? ⟨b4, 1, none⟩ = some (.pointer (some ⟨b3, 15, none⟩)) := by rw [Lib.cell_of_heap HP5.out]; rfl
  clear hV hr hm hb hc hp HB4 HC4 HR4 HM4 HP4
  go_wp2_with fail
  rw [HV.out]
  clear HV oc of
  rw [rounds_succ]
  go_wp2_with fail
  clear np
  refine (gBool_any g s Y5.out K4.out hs _ HR5.out).mono ?_
  rintro e w5 ⟨rfl, hr, hm⟩
  have hb := (hm.block b3 (Blk.lt (t := 25) HB5.out) (by simpa using g3)).trans HB5.out
  have hc := (hm.block b2 (Blk.lt (t := 25) HC5.out) (by simpa using g2)).trans HC5.out
  have hp := (hm.block b4 (Blk.lt (t := 101) HP5.out) (by simpa using gb4)).trans HP5.out
  have oc : w5.cell? ⟨b3, 15, none⟩ = some (.bool false) := by rw [Lib.cell_of_heap hb]; rfl
  have of : w5.frozen? ⟨b3, 15, none⟩ = false := Lib.frozen_of_heap hb 15
  obtain ⟨V5, hV⟩ : ∃ V5, w5.setCell ⟨b3, 15, none⟩ (.bool held) = V5 := ⟨_, rfl⟩
  have HB6 : Hid (V5.heap[b3]? = some (.cells #[.int .i64 id, .string p, .string a, .string m, .string o, .bool dl, .string ss, .string c, .string r, .int .i64 q, .int .i64 am, .int .i64 dy, .int .i64 td, .int .i64 pr, .bool part, .bool held, .bool false, .int .i64 0, .int .i64 0, .int .i64 0, .int .i64 0] 25 (0, 0))) := by show _ = _; rw [← hV]; exact Blk.set_ (show Blk w5 b3 25 _ from hb) 15 _
  have HC6 : Hid (V5.heap[b2]? = some (.cells #[.int .i64 0, .string ⟨#[]⟩, .string ⟨#[]⟩, .string ⟨#[]⟩, .string ⟨#[]⟩, .bool false, .string ⟨#[]⟩, .string ⟨#[]⟩, .string ⟨#[]⟩, .int .i64 0, .int .i64 0, .int .i64 0, .int .i64 0, .int .i64 0, .bool false, .bool false, .bool false, .int .i64 0, .int .i64 0, .int .i64 0, .int .i64 0] 25 (0, 0))) := by show _ = _; rw [← hV, Below.heap_setCell _ _ _ _ (show b2 ≠ b3 from d32.symm)]; exact hc
  have HP6 : Hid (V5.heap[b4]? = some (.cells #[.pointer (some ⟨b3, 14, none⟩), .pointer (some ⟨b3, 15, none⟩), .pointer (some ⟨b3, 16, none⟩)] 101 (0, 0))) := by show _ = _; rw [← hV, Below.heap_setCell _ _ _ _ (show b4 ≠ b3 from db4)]; exact hp
  have HR6 : Hid (RdAt g r5.e s r5.k V5) := by show _ = _; rw [← hV, Below.heap_setCell _ _ _ _ (show g ≠ b3 from g3.symm)]; exact hr
  have HM6 : Hid (Mv [g] [g] w V5) := by show Mv _ _ _ _; rw [← hV]; exact mv_setNew (HM5.out.trans hm) hw3 _ _
  have HV := Lib.hid hV
  have np : V5.cell? ⟨b4, 2, none⟩ = some (.pointer (some ⟨b3, 16, none⟩)) := by rw [Lib.cell_of_heap HP6.out]; rfl
  clear hV hr hm hb hc hp HB5 HC5 HR5 HM5 HP5
  go_wp2_with fail
  rw [HV.out]
  clear HV oc of
  rw [rounds_succ]
  go_wp2_with fail
  clear np
  refine (gBool_any g s Y6.out K5.out hs _ HR6.out).mono ?_
  rintro e w6 ⟨rfl, hr, hm⟩
  have hb := (hm.block b3 (Blk.lt (t := 25) HB6.out) (by simpa using g3)).trans HB6.out
  have hc := (hm.block b2 (Blk.lt (t := 25) HC6.out) (by simpa using g2)).trans HC6.out
  have hp := (hm.block b4 (Blk.lt (t := 101) HP6.out) (by simpa using gb4)).trans HP6.out
  have oc : w6.cell? ⟨b3, 16, none⟩ = some (.bool false) := by rw [Lib.cell_of_heap hb]; rfl
  have of : w6.frozen? ⟨b3, 16, none⟩ = false := Lib.frozen_of_heap hb 16
  obtain ⟨V6, hV⟩ : ∃ V6, w6.setCell ⟨b3, 16, none⟩ (.bool wish) = V6 := ⟨_, rfl⟩
  have HB7 : Hid (V6.heap[b3]? = some (.cells #[.int .i64 id, .string p, .string a, .string m, .string o, .bool dl, .string ss, .string c, .string r, .int .i64 q, .int .i64 am, .int .i64 dy, .int .i64 td, .int .i64 pr, .bool part, .bool held, .bool wish, .int .i64 0, .int .i64 0, .int .i64 0, .int .i64 0] 25 (0, 0))) := by show _ = _; rw [← hV]; exact Blk.set_ (show Blk w6 b3 25 _ from hb) 16 _
  have HC7 : Hid (V6.heap[b2]? = some (.cells #[.int .i64 0, .string ⟨#[]⟩, .string ⟨#[]⟩, .string ⟨#[]⟩, .string ⟨#[]⟩, .bool false, .string ⟨#[]⟩, .string ⟨#[]⟩, .string ⟨#[]⟩, .int .i64 0, .int .i64 0, .int .i64 0, .int .i64 0, .int .i64 0, .bool false, .bool false, .bool false, .int .i64 0, .int .i64 0, .int .i64 0, .int .i64 0] 25 (0, 0))) := by show _ = _; rw [← hV, Below.heap_setCell _ _ _ _ (show b2 ≠ b3 from d32.symm)]; exact hc
  have HP7 : Hid (V6.heap[b4]? = some (.cells #[.pointer (some ⟨b3, 14, none⟩), .pointer (some ⟨b3, 15, none⟩), .pointer (some ⟨b3, 16, none⟩)] 101 (0, 0))) := by show _ = _; rw [← hV, Below.heap_setCell _ _ _ _ (show b4 ≠ b3 from db4)]; exact hp
  have HR7 : Hid (RdAt g r6.e s r6.k V6) := by show _ = _; rw [← hV, Below.heap_setCell _ _ _ _ (show g ≠ b3 from g3.symm)]; exact hr
  have HM7 : Hid (Mv [g] [g] w V6) := by show Mv _ _ _ _; rw [← hV]; exact mv_setNew (HM6.out.trans hm) hw3 _ _
  have HV := Lib.hid hV
  clear hV hr hm hb hc hp HB6 HC6 HR6 HM6 HP6
  go_wp2_with fail
  rw [HV.out]
  clear HV oc of
  rw [rounds_succ]
  go_wp2_with fail
  have HP8 : Hid ((V6.alloc (.cells #[.pointer (some ⟨b3, 17, none⟩), .pointer (some ⟨b3, 18, none⟩), .pointer (some ⟨b3, 19, none⟩), .pointer (some ⟨b3, 20, none⟩)] 103)).heap[V6.heap.size]? = some (.cells #[.pointer (some ⟨b3, 17, none⟩), .pointer (some ⟨b3, 18, none⟩), .pointer (some ⟨b3, 19, none⟩), .pointer (some ⟨b3, 20, none⟩)] 103 (0, 0))) := heap_alloc_new _ _
  have hz := Blk.lt (t := 25) HB7.out
  have hz2 := Blk.lt (t := 25) HC7.out
  have hzg := HR7.out.lt
  have db5 : V6.heap.size ≠ b3 := by omega
  have gb5 : V6.heap.size ≠ g := by omega
  have hbn : Below V6.heap.size V6 (V6.alloc (.cells #[.pointer (some ⟨b3, 17, none⟩), .pointer (some ⟨b3, 18, none⟩), .pointer (some ⟨b3, 19, none⟩), .pointer (some ⟨b3, 20, none⟩)] 103)) := (Below.refl _ _).alloc (Nat.le_refl _) _
  have hB := (Below.heap_alloc V6 (.cells #[.pointer (some ⟨b3, 17, none⟩), .pointer (some ⟨b3, 18, none⟩), .pointer (some ⟨b3, 19, none⟩), .pointer (some ⟨b3, 20, none⟩)] 103) b3 hz).trans HB7.out
  have hC := (Below.heap_alloc V6 (.cells #[.pointer (some ⟨b3, 17, none⟩), .pointer (some ⟨b3, 18, none⟩), .pointer (some ⟨b3, 19, none⟩), .pointer (some ⟨b3, 20, none⟩)] 103) b2 hz2).trans HC7.out
  have hR := HR7.out.below hbn
  have hM := HM7.out.trans (Mv.of_new (S' := [g]) hbn (fun _ h => .inl h))
  obtain ⟨U8, hU⟩ : ∃ U, V6.alloc (.cells #[.pointer (some ⟨b3, 17, none⟩), .pointer (some ⟨b3, 18, none⟩), .pointer (some ⟨b3, 19, none⟩), .pointer (some ⟨b3, 20, none⟩)] 103) = U := ⟨_, rfl⟩
  rw [hU] at HP8 hB hC hR hM ⊢
  obtain ⟨b5, hbp⟩ : ∃ b, V6.heap.size = b := ⟨_, rfl⟩
  rw [hbp] at HP8 db5 gb5 ⊢
  have np : U8.cell? ⟨b5, 0, none⟩ = some (.pointer (some ⟨b3, 17, none⟩)) := by rw [Lib.cell_of_heap HP8.out]; rfl
  clear hU hbp hbn hz hz2 hzg HB7 HC7 HR7 HM7
  have HB8 := Lib.hid hB
  have HC8 := Lib.hid hC
  have HR8 := Lib.hid hR
  have HM8 := Lib.hid hM
  clear hB hC hR hM
  refine wp_loop_rounds 5 ?_
  rw [rounds_succ]
  go_wp2_with fail
  clear np
  refine (gNum_any g s Y7.out K6.out hs _ HR8.out).mono ?_
  rintro e w7 ⟨rfl, hr, hm⟩
  have hb := (hm.block b3 (Blk.lt (t := 25) HB8.out) (by simpa using g3)).trans HB8.out
  have hc := (hm.block b2 (Blk.lt (t := 25) HC8.out) (by simpa using g2)).trans HC8.out
  have hp := (hm.block b5 (Blk.lt (t := 103) HP8.out) (by simpa using gb5)).trans HP8.out
  have oc : w7.cell? ⟨b3, 17, none⟩ = some (.int .i64 0) := by rw [Lib.cell_of_heap hb]; rfl
  have of : w7.frozen? ⟨b3, 17, none⟩ = false := Lib.frozen_of_heap hb 17
  obtain ⟨V7, hV⟩ : ∃ V7, w7.setCell ⟨b3, 17, none⟩ (.int .i64 st) = V7 := ⟨_, rfl⟩
  have HB9 : Hid (V7.heap[b3]? = some (.cells #[.int .i64 id, .string p, .string a, .string m, .string o, .bool dl, .string ss, .string c, .string r, .int .i64 q, .int .i64 am, .int .i64 dy, .int .i64 td, .int .i64 pr, .bool part, .bool held, .bool wish, .int .i64 st, .int .i64 0, .int .i64 0, .int .i64 0] 25 (0, 0))) := by show _ = _; rw [← hV]; exact Blk.set_ (show Blk w7 b3 25 _ from hb) 17 _
  have HC9 : Hid (V7.heap[b2]? = some (.cells #[.int .i64 0, .string ⟨#[]⟩, .string ⟨#[]⟩, .string ⟨#[]⟩, .string ⟨#[]⟩, .bool false, .string ⟨#[]⟩, .string ⟨#[]⟩, .string ⟨#[]⟩, .int .i64 0, .int .i64 0, .int .i64 0, .int .i64 0, .int .i64 0, .bool false, .bool false, .bool false, .int .i64 0, .int .i64 0, .int .i64 0, .int .i64 0] 25 (0, 0))) := by show _ = _; rw [← hV, Below.heap_setCell _ _ _ _ (show b2 ≠ b3 from d32.symm)]; exact hc
  have HP9 : Hid (V7.heap[b5]? = some (.cells #[.pointer (some ⟨b3, 17, none⟩), .pointer (some ⟨b3, 18, none⟩), .pointer (some ⟨b3, 19, none⟩), .pointer (some ⟨b3, 20, none⟩)] 103 (0, 0))) := by show _ = _; rw [← hV, Below.heap_setCell _ _ _ _ (show b5 ≠ b3 from db5)]; exact hp
  have HR9 : Hid (RdAt g r7.e s r7.k V7) := by show _ = _; rw [← hV, Below.heap_setCell _ _ _ _ (show g ≠ b3 from g3.symm)]; exact hr
  have HM9 : Hid (Mv [g] [g] w V7) := by show Mv _ _ _ _; rw [← hV]; exact mv_setNew (HM8.out.trans hm) hw3 _ _
  have HV := Lib.hid hV
  have np : V7.cell? ⟨b5, 1, none⟩ = some (.pointer (some ⟨b3, 18, none⟩)) := by rw [Lib.cell_of_heap HP9.out]; rfl
  clear hV hr hm hb hc hp HB8 HC8 HR8 HM8 HP8
  go_wp2_with fail
  rw [HV.out]
  clear HV oc of
  rw [rounds_succ]
  go_wp2_with fail
  clear np
  refine (gNum_any g s Y8.out K7.out hs _ HR9.out).mono ?_
  rintro e w8 ⟨rfl, hr, hm⟩
  have hb := (hm.block b3 (Blk.lt (t := 25) HB9.out) (by simpa using g3)).trans HB9.out
  have hc := (hm.block b2 (Blk.lt (t := 25) HC9.out) (by simpa using g2)).trans HC9.out
  have hp := (hm.block b5 (Blk.lt (t := 103) HP9.out) (by simpa using gb5)).trans HP9.out
  have oc : w8.cell? ⟨b3, 18, none⟩ = some (.int .i64 0) := by rw [Lib.cell_of_heap hb]; rfl
  have of : w8.frozen? ⟨b3, 18, none⟩ = false := Lib.frozen_of_heap hb 18
  obtain ⟨V8, hV⟩ : ∃ V8, w8.setCell ⟨b3, 18, none⟩ (.int .i64 ma) = V8 := ⟨_, rfl⟩
  have HB10 : Hid (V8.heap[b3]? = some (.cells #[.int .i64 id, .string p, .string a, .string m, .string o, .bool dl, .string ss, .string c, .string r, .int .i64 q, .int .i64 am, .int .i64 dy, .int .i64 td, .int .i64 pr, .bool part, .bool held, .bool wish, .int .i64 st, .int .i64 ma, .int .i64 0, .int .i64 0] 25 (0, 0))) := by show _ = _; rw [← hV]; exact Blk.set_ (show Blk w8 b3 25 _ from hb) 18 _
  have HC10 : Hid (V8.heap[b2]? = some (.cells #[.int .i64 0, .string ⟨#[]⟩, .string ⟨#[]⟩, .string ⟨#[]⟩, .string ⟨#[]⟩, .bool false, .string ⟨#[]⟩, .string ⟨#[]⟩, .string ⟨#[]⟩, .int .i64 0, .int .i64 0, .int .i64 0, .int .i64 0, .int .i64 0, .bool false, .bool false, .bool false, .int .i64 0, .int .i64 0, .int .i64 0, .int .i64 0] 25 (0, 0))) := by show _ = _; rw [← hV, Below.heap_setCell _ _ _ _ (show b2 ≠ b3 from d32.symm)]; exact hc
  have HP10 : Hid (V8.heap[b5]? = some (.cells #[.pointer (some ⟨b3, 17, none⟩), .pointer (some ⟨b3, 18, none⟩), .pointer (some ⟨b3, 19, none⟩), .pointer (some ⟨b3, 20, none⟩)] 103 (0, 0))) := by show _ = _; rw [← hV, Below.heap_setCell _ _ _ _ (show b5 ≠ b3 from db5)]; exact hp
  have HR10 : Hid (RdAt g r8.e s r8.k V8) := by show _ = _; rw [← hV, Below.heap_setCell _ _ _ _ (show g ≠ b3 from g3.symm)]; exact hr
  have HM10 : Hid (Mv [g] [g] w V8) := by show Mv _ _ _ _; rw [← hV]; exact mv_setNew (HM9.out.trans hm) hw3 _ _
  have HV := Lib.hid hV
  have np : V8.cell? ⟨b5, 2, none⟩ = some (.pointer (some ⟨b3, 19, none⟩)) := by rw [Lib.cell_of_heap HP10.out]; rfl
  clear hV hr hm hb hc hp HB9 HC9 HR9 HM9 HP9
  go_wp2_with fail
  rw [HV.out]
  clear HV oc of
  rw [rounds_succ]
  go_wp2_with fail
  clear np
  refine (gNum_any g s Y9.out K8.out hs _ HR10.out).mono ?_
  rintro e w9 ⟨rfl, hr, hm⟩
  have hb := (hm.block b3 (Blk.lt (t := 25) HB10.out) (by simpa using g3)).trans HB10.out
  have hc := (hm.block b2 (Blk.lt (t := 25) HC10.out) (by simpa using g2)).trans HC10.out
  have hp := (hm.block b5 (Blk.lt (t := 103) HP10.out) (by simpa using gb5)).trans HP10.out
  have oc : w9.cell? ⟨b3, 19, none⟩ = some (.int .i64 0) := by rw [Lib.cell_of_heap hb]; rfl
  have of : w9.frozen? ⟨b3, 19, none⟩ = false := Lib.frozen_of_heap hb 19
  obtain ⟨V9, hV⟩ : ∃ V9, w9.setCell ⟨b3, 19, none⟩ (.int .i64 dn) = V9 := ⟨_, rfl⟩
  have HB11 : Hid (V9.heap[b3]? = some (.cells #[.int .i64 id, .string p, .string a, .string m, .string o, .bool dl, .string ss, .string c, .string r, .int .i64 q, .int .i64 am, .int .i64 dy, .int .i64 td, .int .i64 pr, .bool part, .bool held, .bool wish, .int .i64 st, .int .i64 ma, .int .i64 dn, .int .i64 0] 25 (0, 0))) := by show _ = _; rw [← hV]; exact Blk.set_ (show Blk w9 b3 25 _ from hb) 19 _
  have HC11 : Hid (V9.heap[b2]? = some (.cells #[.int .i64 0, .string ⟨#[]⟩, .string ⟨#[]⟩, .string ⟨#[]⟩, .string ⟨#[]⟩, .bool false, .string ⟨#[]⟩, .string ⟨#[]⟩, .string ⟨#[]⟩, .int .i64 0, .int .i64 0, .int .i64 0, .int .i64 0, .int .i64 0, .bool false, .bool false, .bool false, .int .i64 0, .int .i64 0, .int .i64 0, .int .i64 0] 25 (0, 0))) := by show _ = _; rw [← hV, Below.heap_setCell _ _ _ _ (show b2 ≠ b3 from d32.symm)]; exact hc
  have HP11 : Hid (V9.heap[b5]? = some (.cells #[.pointer (some ⟨b3, 17, none⟩), .pointer (some ⟨b3, 18, none⟩), .pointer (some ⟨b3, 19, none⟩), .pointer (some ⟨b3, 20, none⟩)] 103 (0, 0))) := by show _ = _; rw [← hV, Below.heap_setCell _ _ _ _ (show b5 ≠ b3 from db5)]; exact hp
  have HR11 : Hid (RdAt g r9.e s r9.k V9) := by show _ = _; rw [← hV, Below.heap_setCell _ _ _ _ (show g ≠ b3 from g3.symm)]; exact hr
  have HM11 : Hid (Mv [g] [g] w V9) := by show Mv _ _ _ _; rw [← hV]; exact mv_setNew (HM10.out.trans hm) hw3 _ _
  have HV := Lib.hid hV
  have np : V9.cell? ⟨b5, 3, none⟩ = some (.pointer (some ⟨b3, 20, none⟩)) := by rw [Lib.cell_of_heap HP11.out]; rfl
  clear hV hr hm hb hc hp HB10 HC10 HR10 HM10 HP10
  go_wp2_with fail
  rw [HV.out]
  clear HV oc of
  rw [rounds_succ]
  go_wp2_with fail
  clear np
  refine (gNum_any g s Y10.out K9.out hs _ HR11.out).mono ?_
  rintro e w10 ⟨rfl, hr, hm⟩
  have hb := (hm.block b3 (Blk.lt (t := 25) HB11.out) (by simpa using g3)).trans HB11.out
  have hc := (hm.block b2 (Blk.lt (t := 25) HC11.out) (by simpa using g2)).trans HC11.out
  have hp := (hm.block b5 (Blk.lt (t := 103) HP11.out) (by simpa using gb5)).trans HP11.out
  have oc : w10.cell? ⟨b3, 20, none⟩ = some (.int .i64 0) := by rw [Lib.cell_of_heap hb]; rfl
  have of : w10.frozen? ⟨b3, 20, none⟩ = false := Lib.frozen_of_heap hb 20
  obtain ⟨V10, hV⟩ : ∃ V10, w10.setCell ⟨b3, 20, none⟩ (.int .i64 pd) = V10 := ⟨_, rfl⟩
  have HB12 : Hid (V10.heap[b3]? = some (.cells #[.int .i64 id, .string p, .string a, .string m, .string o, .bool dl, .string ss, .string c, .string r, .int .i64 q, .int .i64 am, .int .i64 dy, .int .i64 td, .int .i64 pr, .bool part, .bool held, .bool wish, .int .i64 st, .int .i64 ma, .int .i64 dn, .int .i64 pd] 25 (0, 0))) := by show _ = _; rw [← hV]; exact Blk.set_ (show Blk w10 b3 25 _ from hb) 20 _
  have HC12 : Hid (V10.heap[b2]? = some (.cells #[.int .i64 0, .string ⟨#[]⟩, .string ⟨#[]⟩, .string ⟨#[]⟩, .string ⟨#[]⟩, .bool false, .string ⟨#[]⟩, .string ⟨#[]⟩, .string ⟨#[]⟩, .int .i64 0, .int .i64 0, .int .i64 0, .int .i64 0, .int .i64 0, .bool false, .bool false, .bool false, .int .i64 0, .int .i64 0, .int .i64 0, .int .i64 0] 25 (0, 0))) := by show _ = _; rw [← hV, Below.heap_setCell _ _ _ _ (show b2 ≠ b3 from d32.symm)]; exact hc
  have HP12 : Hid (V10.heap[b5]? = some (.cells #[.pointer (some ⟨b3, 17, none⟩), .pointer (some ⟨b3, 18, none⟩), .pointer (some ⟨b3, 19, none⟩), .pointer (some ⟨b3, 20, none⟩)] 103 (0, 0))) := by show _ = _; rw [← hV, Below.heap_setCell _ _ _ _ (show b5 ≠ b3 from db5)]; exact hp
  have HR12 : Hid (RdAt g r10.e s r10.k V10) := by show _ = _; rw [← hV, Below.heap_setCell _ _ _ _ (show g ≠ b3 from g3.symm)]; exact hr
  have HM12 : Hid (Mv [g] [g] w V10) := by show Mv _ _ _ _; rw [← hV]; exact mv_setNew (HM11.out.trans hm) hw3 _ _
  have HV := Lib.hid hV
  clear hV hr hm hb hc hp HB11 HC11 HR11 HM11 HP11
  go_wp2_with fail
  rw [HV.out]
  clear HV oc of
  rw [rounds_succ]
  go_wp2_with fail
  refine (ioff_any g r10.e s _ _ HR12.out).mono ?_
  rintro e w20 ⟨rfl, rfl⟩
  by_cases he12 : r10.e = 0
  · have hb12 : (r10.e != 0) = false := by simp [he12]
    rw [hb12]
    have hres := HRES.out
    rw [if_neg (by simp [he12])] at hres
    have HRES2 := Lib.hid hres
    clear hb12 hres he12 HRES
    go_wp2_with (first
      | (refine wpList_load_named rfl 25 _ rfl b3 rfl _ _ _ HB12.out Try.underlying25 rfl size_inst _ rfl ?_)
      | (refine wpList_store_row rfl 25 _ _ rfl b2 _ rfl rfl _ _ HC12.out size_inst rfl (by simp [Value.oneCell']) ?_))
    have hk := setRow_heap V10 b2 _ #[.int .i64 id, .string p, .string a, .string m, .string o, .bool dl, .string ss, .string c, .string r, .int .i64 q, .int .i64 am, .int .i64 dy, .int .i64 td, .int .i64 pr, .bool part, .bool held, .bool wish, .int .i64 st, .int .i64 ma, .int .i64 dn, .int .i64 pd] _ _ HC12.out
    refine bodyPost_ret (results_cell_row rfl _ _ b2 _ _ _ _ rfl hk Try.underlying25 rfl size_inst) rfl ?_
    have hmv := mv_setRowNew HM12.out (Nat.le_of_eq HB2.out) #[.int .i64 id, .string p, .string a, .string m, .string o, .bool dl, .string ss, .string c, .string r, .int .i64 q, .int .i64 am, .int .i64 dy, .int .i64 td, .int .i64 pr, .bool part, .bool held, .bool wish, .int .i64 st, .int .i64 ma, .int .i64 dn, .int .i64 pd]
    rw [HRES2.out]
    refine ⟨rfl, ?_, hmv⟩
    exact (setRow_other V10 b2 g _ g2.symm).trans HR12.out
  · have hb12 : (r10.e != 0) = true := by simp [he12]
    rw [hb12]
    have hres := HRES.out
    rw [if_pos he12] at hres
    have HRES2 := Lib.hid hres
    clear hb12 hres he12 HRES
    go_wp2_with (first
      | (refine wpList_load_named rfl 25 _ rfl b3 rfl _ _ _ HB12.out Try.underlying25 rfl size_inst _ rfl ?_)
      | (refine wpList_store_row rfl 25 _ _ rfl b2 _ rfl rfl _ _ HC12.out size_inst rfl (by simp [Value.oneCell']) ?_))
    have hk := setRow_heap V10 b2 _ #[.int .i64 0, .string ⟨#[]⟩, .string ⟨#[]⟩, .string ⟨#[]⟩, .string ⟨#[]⟩, .bool false, .string ⟨#[]⟩, .string ⟨#[]⟩, .string ⟨#[]⟩, .int .i64 0, .int .i64 0, .int .i64 0, .int .i64 0, .int .i64 0, .bool false, .bool false, .bool false, .int .i64 0, .int .i64 0, .int .i64 0, .int .i64 0] _ _ HC12.out
    refine bodyPost_ret (results_cell_row rfl _ _ b2 _ _ _ _ rfl hk Try.underlying25 rfl size_inst) rfl ?_
    have hmv := mv_setRowNew HM12.out (Nat.le_of_eq HB2.out) #[.int .i64 0, .string ⟨#[]⟩, .string ⟨#[]⟩, .string ⟨#[]⟩, .string ⟨#[]⟩, .bool false, .string ⟨#[]⟩, .string ⟨#[]⟩, .string ⟨#[]⟩, .int .i64 0, .int .i64 0, .int .i64 0, .int .i64 0, .int .i64 0, .bool false, .bool false, .bool false, .int .i64 0, .int .i64 0, .int .i64 0, .int .i64 0]
    rw [HRES2.out]
    refine ⟨rfl, ?_, hmv⟩
    exact (setRow_other V10 b2 g _ g2.symm).trans HR12.out
end Go.Proofs.Ytkcecijepbceiaa
