/-
  Package inst as a contract: GetTerm, where what was put is read.
  Conditions: the bytes that the reader stands at.
-/
import Derived.Test.YtkcecijepbceiaaInstRec
import Derived.Test.YtkcecijepbceiaaOwes
namespace Go.Proofs.Ytkcecijepbceiaa
open Go.RowKit

theorem readText_any (g : Nat) (s t : ByteArray) (k : Nat) (R : List UInt8) (ht : t.size ≤ 1000) (hs : s.size ≤ 1000000000) (w : World) (h : RdAt g 0 s k w) (hr : Rest s k (Wire.enc (Wire.zz t.size) ++ (t.data.toList ++ R))) :
    Calls Try.prog 50 #[.pointer (some ⟨g, 0, none⟩)] w fun x w' => x = .returned (.string t) ∧ ∃ k', RdAt g 0 s k' w' ∧ Rest s k' R ∧ Mv [g] [g] w w' := by
  obtain ⟨k', h1, h2, h3, h4⟩ := rest_text ht hr
  refine (rText_ok g s k k' t.size w h hr.1 hs h1 ht h2).mono ?_
  rintro e w' ⟨rfl, hr', hm⟩
  rw [h3]
  exact ⟨rfl, _, hr', h4, hm⟩
theorem readNum_any (g : Nat) (s : ByteArray) (v : Int) (k : Nat) (R : List UInt8) (hv : In64 v) (hs : s.size ≤ 1000000000) (w : World) (h : RdAt g 0 s k w) (hr : Rest s k (Wire.enc (Wire.zz v) ++ R)) :
    Calls Try.prog 45 #[.pointer (some ⟨g, 0, none⟩)] w fun x w' => x = .returned (.int .i64 v) ∧ ∃ k', RdAt g 0 s k' w' ∧ Rest s k' R ∧ Mv [g] [g] w w' := by
  obtain ⟨k', h1, h2⟩ := rest_num hv.1 hv.2 hr
  have hrd : rdNum s ⟨0, k⟩ = (v, ⟨0, k'⟩) := by
    unfold rdNum
    rw [h1]
    rfl
  have RN := rNum_any g s ⟨0, k⟩ w h hr.1 hs
  rw [hrd] at RN
  refine RN.mono ?_
  rintro e w' ⟨rfl, hr', hm⟩
  exact ⟨rfl, k', hr', h2, hm⟩
theorem readBool_any (g : Nat) (s : ByteArray) (c : Bool) (k : Nat) (R : List UInt8) (hs : s.size ≤ 1000000000) (w : World) (h : RdAt g 0 s k w) (hr : Rest s k ((if c then 1 else 0) :: R)) :
    Calls Try.prog 46 #[.pointer (some ⟨g, 0, none⟩)] w fun x w' => x = .returned (.bool c) ∧ ∃ k', RdAt g 0 s k' w' ∧ Rest s k' R ∧ Mv [g] [g] w w' := by
  obtain ⟨hk, h1, h2⟩ := rest_bool hr
  refine (rBool_ok g s k c w h hk hs h1).mono ?_
  rintro e w' ⟨rfl, hr', hm⟩
  exact ⟨rfl, _, hr', h2, hm⟩
theorem ioff_any (g : Nat) (e : Int) (s : ByteArray) (k : Nat) (w : World) (h : RdAt g e s k w) :
    Calls Try.prog 47 #[.pointer (some ⟨g, 0, none⟩)] w fun r w' => r = .returned (.bool (e != 0)) ∧ w = w' := by
  have c0 := h.cell0
  go_enter Try.func47, Try.ntmps47
  go_wp2_with (go_at_call 26; refine (wrong_any g e _ c0).mono ?_; rintro e w1 ⟨rfl, rfl⟩)
  go_ret
  exact ⟨rfl, rfl⟩
/-- What a term is in bytes, piece by piece. -/
def encT (t : ByteArray) (R : List UInt8) : List UInt8 := Wire.enc (Wire.zz t.size) ++ (t.data.toList ++ R)
def encN (v : Int) (R : List UInt8) : List UInt8 := Wire.enc (Wire.zz v) ++ R
def encB (c : Bool) (R : List UInt8) : List UInt8 := (if c then 1 else 0) :: R
def encTrm (x : Trm) (R : List UInt8) : List UInt8 := encT x.p (encT x.a (encT x.m (encT x.o (encT x.s (encT x.c (encT x.r (encB x.dl (encN x.q (encN x.am (encN x.dy (encN x.td R)))))))))))
theorem trm_enc (x : Trm) (R : List UInt8) : Wire.flatAll x.ops ++ R = encTrm x R := by
  unfold Trm.ops Wire.flatAll Wire.flat3 Trm.texts Trm.nums
  simp only [List.map_cons, List.map_nil, List.flatten_cons, List.flatten_nil, List.append_nil]
  have hc : ∀ (t : ByteArray) (l : List (List UInt8)), Wire.flatT (t.data.toList :: l) = Wire.enc (Wire.zz t.size) ++ (t.data.toList ++ Wire.flatT l) := by
    intro t l
    have e : ((t.data.toList.length : Nat) : Int) = (t.size : Int) := by rw [Array.length_toList]; rfl
    simp only [Wire.flatT, List.map_cons, List.flatten_cons, List.append_assoc, e]
  simp only [hc]
  simp [encTrm, encT, encN, encB, Wire.flatN, Wire.flatB, Wire.flatT]

theorem size_term : (Try.prog.info? 23).map (·.size) = some 12 := by kernel_rfl
set_option maxHeartbeats 40000000 in
set_option maxRecDepth 100000 in
theorem getTerm_any (g : Nat) (s : ByteArray) (k : Nat) (R : List UInt8) (x : Trm) (hx : ∀ t ∈ x.texts, t.size ≤ 1000) (hv : ∀ v ∈ x.nums, In64 v) (hs : s.size ≤ 1000000000) (w : World) (h : RdAt g 0 s k w) (hr : Rest s k (encTrm x R)) :
    Calls Try.prog 27 #[.pointer (some ⟨g, 0, none⟩)] w fun e w' => ∃ k', e = .returned (.agg x.cells) ∧ Rest s k' R ∧ RdAt g 0 s k' w' ∧ Mv [g] [g] w w' := by
  obtain ⟨p, a, m, o, dl, ss, c, r, q, am, dy, td⟩ := x
  have x1 : p.size ≤ 1000 := hx _ (by simp [Trm.texts])
  have x2 : a.size ≤ 1000 := hx _ (by simp [Trm.texts])
  have x3 : m.size ≤ 1000 := hx _ (by simp [Trm.texts])
  have x4 : o.size ≤ 1000 := hx _ (by simp [Trm.texts])
  have x5 : ss.size ≤ 1000 := hx _ (by simp [Trm.texts])
  have x6 : c.size ≤ 1000 := hx _ (by simp [Trm.texts])
  have x7 : r.size ≤ 1000 := hx _ (by simp [Trm.texts])
  have n1 := Lib.hid (hv q (by simp [Trm.nums]))
  have n2 := Lib.hid (hv am (by simp [Trm.nums]))
  have n3 := Lib.hid (hv dy (by simp [Trm.nums]))
  have n4 := Lib.hid (hv td (by simp [Trm.nums]))
  have X1 := Lib.hid x1; have X2 := Lib.hid x2; have X3 := Lib.hid x3; have X4 := Lib.hid x4; have X5 := Lib.hid x5; have X6 := Lib.hid x6; have X7 := Lib.hid x7
  clear hx hv x1 x2 x3 x4 x5 x6 x7
  have HE0 := Lib.hid hr
  have hgl := h.lt
  obtain ⟨W0, hW0⟩ : ∃ W0, ((w.alloc (.cells #[.string ⟨#[]⟩, .string ⟨#[]⟩, .string ⟨#[]⟩, .string ⟨#[]⟩, .bool false, .string ⟨#[]⟩, .string ⟨#[]⟩, .string ⟨#[]⟩, .int .i64 0, .int .i64 0, .int .i64 0, .int .i64 0] 23)).alloc (.cells #[.string ⟨#[]⟩, .string ⟨#[]⟩, .string ⟨#[]⟩, .string ⟨#[]⟩, .bool false, .string ⟨#[]⟩, .string ⟨#[]⟩, .string ⟨#[]⟩, .int .i64 0, .int .i64 0, .int .i64 0, .int .i64 0] 23)).alloc (.cells #[.pointer (some ⟨w.heap.size + 1, 0, none⟩), .pointer (some ⟨w.heap.size + 1, 1, none⟩), .pointer (some ⟨w.heap.size + 1, 2, none⟩), .pointer (some ⟨w.heap.size + 1, 3, none⟩), .pointer (some ⟨w.heap.size + 1, 5, none⟩), .pointer (some ⟨w.heap.size + 1, 6, none⟩), .pointer (some ⟨w.heap.size + 1, 7, none⟩)] 107) = W0 := ⟨_, rfl⟩
  have HB0 : Hid (W0.heap[w.heap.size + 1]? = some (.cells #[.string ⟨#[]⟩, .string ⟨#[]⟩, .string ⟨#[]⟩, .string ⟨#[]⟩, .bool false, .string ⟨#[]⟩, .string ⟨#[]⟩, .string ⟨#[]⟩, .int .i64 0, .int .i64 0, .int .i64 0, .int .i64 0] 23 (0, 0))) := by show _ = _; rw [← hW0, Below.heap_alloc _ _ _ (by simp)]; have := heap_alloc_new (w.alloc (.cells #[.string ⟨#[]⟩, .string ⟨#[]⟩, .string ⟨#[]⟩, .string ⟨#[]⟩, .bool false, .string ⟨#[]⟩, .string ⟨#[]⟩, .string ⟨#[]⟩, .int .i64 0, .int .i64 0, .int .i64 0, .int .i64 0] 23)) (.cells #[.string ⟨#[]⟩, .string ⟨#[]⟩, .string ⟨#[]⟩, .string ⟨#[]⟩, .bool false, .string ⟨#[]⟩, .string ⟨#[]⟩, .string ⟨#[]⟩, .int .i64 0, .int .i64 0, .int .i64 0, .int .i64 0] 23); simpa using this
  have HC0 : Hid (W0.heap[w.heap.size]? = some (.cells #[.string ⟨#[]⟩, .string ⟨#[]⟩, .string ⟨#[]⟩, .string ⟨#[]⟩, .bool false, .string ⟨#[]⟩, .string ⟨#[]⟩, .string ⟨#[]⟩, .int .i64 0, .int .i64 0, .int .i64 0, .int .i64 0] 23 (0, 0))) := by show _ = _; rw [← hW0, Below.heap_alloc _ _ _ (by simp <;> omega), Below.heap_alloc _ _ _ (by simp)]; exact heap_alloc_new w _
  have HP0 : Hid (W0.heap[w.heap.size + 1 + 1]? = some (.cells #[.pointer (some ⟨w.heap.size + 1, 0, none⟩), .pointer (some ⟨w.heap.size + 1, 1, none⟩), .pointer (some ⟨w.heap.size + 1, 2, none⟩), .pointer (some ⟨w.heap.size + 1, 3, none⟩), .pointer (some ⟨w.heap.size + 1, 5, none⟩), .pointer (some ⟨w.heap.size + 1, 6, none⟩), .pointer (some ⟨w.heap.size + 1, 7, none⟩)] 107 (0, 0))) := by show _ = _; rw [← hW0]; have := heap_alloc_new ((w.alloc (.cells #[.string ⟨#[]⟩, .string ⟨#[]⟩, .string ⟨#[]⟩, .string ⟨#[]⟩, .bool false, .string ⟨#[]⟩, .string ⟨#[]⟩, .string ⟨#[]⟩, .int .i64 0, .int .i64 0, .int .i64 0, .int .i64 0] 23)).alloc (.cells #[.string ⟨#[]⟩, .string ⟨#[]⟩, .string ⟨#[]⟩, .string ⟨#[]⟩, .bool false, .string ⟨#[]⟩, .string ⟨#[]⟩, .string ⟨#[]⟩, .int .i64 0, .int .i64 0, .int .i64 0, .int .i64 0] 23)) (.cells #[.pointer (some ⟨w.heap.size + 1, 0, none⟩), .pointer (some ⟨w.heap.size + 1, 1, none⟩), .pointer (some ⟨w.heap.size + 1, 2, none⟩), .pointer (some ⟨w.heap.size + 1, 3, none⟩), .pointer (some ⟨w.heap.size + 1, 5, none⟩), .pointer (some ⟨w.heap.size + 1, 6, none⟩), .pointer (some ⟨w.heap.size + 1, 7, none⟩)] 107); simpa using this
  have hbw : Below w.heap.size w W0 := by rw [← hW0]; exact (((Below.refl _ _).alloc (Nat.le_refl _) _).alloc (by simp) _).alloc (by simp <;> omega) _
  have HR0 : Hid (RdAt g 0 s k W0) := h.below hbw
  have HM0 : Hid (Mv [g] [g] w W0) := Mv.of_new hbw (fun _ h => .inl h)
  have HW0 := Lib.hid hW0
  clear hr h hW0 hbw
  go_enter Try.func27, Try.ntmps27
  go_wp2
  refine wp_loop_rounds 8 ?_
  rw [rounds_succ]
  go_wp2_with fail
  rw [HW0.out]
  obtain ⟨b4, hb4⟩ : ∃ b4, w.heap.size + 1 + 1 = b4 := ⟨_, rfl⟩
  rw [hb4] at HP0 ⊢
  obtain ⟨b3, hb3⟩ : ∃ b3, w.heap.size + 1 = b3 := ⟨_, rfl⟩
  rw [hb3] at HP0 HB0 hb4 ⊢
  obtain ⟨b2, hb2⟩ : ∃ b2, w.heap.size = b2 := ⟨_, rfl⟩
  rw [hb2] at HC0 hb3 hgl ⊢
  have HB2 := Lib.hid hb2
  have d32 : b3 ≠ b2 := by omega
  have d34 : b3 ≠ b4 := by omega
  have d24 : b2 ≠ b4 := by omega
  have g2 : b2 ≠ g := by omega
  have g3 : b3 ≠ g := by omega
  have g4 : b4 ≠ g := by omega
  have hw3 : w.heap.size ≤ b3 := by omega
  clear HW0 hb4 hb3 hb2 hgl
  refine (readText_any g s p _ _ X1.out hs _ HR0.out HE0.out).mono ?_
  rintro e w1 ⟨rfl, k1, hr, he, hm⟩
  have hb := (hm.block b3 (Blk.lt (t := 23) HB0.out) (by simpa using g3)).trans HB0.out
  have hc := (hm.block b2 (Blk.lt (t := 23) HC0.out) (by simpa using g2)).trans HC0.out
  have hp := (hm.block b4 (Blk.lt (t := 107) HP0.out) (by simpa using g4)).trans HP0.out
  have oc : w1.cell? ⟨b3, 0, none⟩ = some (.string ⟨#[]⟩) := by rw [Lib.cell_of_heap hb]; rfl
  have of : w1.frozen? ⟨b3, 0, none⟩ = false := Lib.frozen_of_heap hb 0
  obtain ⟨V1, hV⟩ : ∃ V1, w1.setCell ⟨b3, 0, none⟩ (.string p) = V1 := ⟨_, rfl⟩
  have HB1 : Hid (V1.heap[b3]? = some (.cells #[.string p, .string ⟨#[]⟩, .string ⟨#[]⟩, .string ⟨#[]⟩, .bool false, .string ⟨#[]⟩, .string ⟨#[]⟩, .string ⟨#[]⟩, .int .i64 0, .int .i64 0, .int .i64 0, .int .i64 0] 23 (0, 0))) := by show _ = _; rw [← hV]; exact Blk.set_ (show Blk w1 b3 23 _ from hb) 0 _
  have HC1 : Hid (V1.heap[b2]? = some (.cells #[.string ⟨#[]⟩, .string ⟨#[]⟩, .string ⟨#[]⟩, .string ⟨#[]⟩, .bool false, .string ⟨#[]⟩, .string ⟨#[]⟩, .string ⟨#[]⟩, .int .i64 0, .int .i64 0, .int .i64 0, .int .i64 0] 23 (0, 0))) := by show _ = _; rw [← hV, Below.heap_setCell _ _ _ _ (show b2 ≠ b3 from d32.symm)]; exact hc
  have HP1 : Hid (V1.heap[b4]? = some (.cells #[.pointer (some ⟨b3, 0, none⟩), .pointer (some ⟨b3, 1, none⟩), .pointer (some ⟨b3, 2, none⟩), .pointer (some ⟨b3, 3, none⟩), .pointer (some ⟨b3, 5, none⟩), .pointer (some ⟨b3, 6, none⟩), .pointer (some ⟨b3, 7, none⟩)] 107 (0, 0))) := by show _ = _; rw [← hV, Below.heap_setCell _ _ _ _ (show b4 ≠ b3 from d34.symm)]; exact hp
  have HR1 : Hid (RdAt g 0 s k1 V1) := by show _ = _; rw [← hV, Below.heap_setCell _ _ _ _ (show g ≠ b3 from g3.symm)]; exact hr
  have HM1 : Hid (Mv [g] [g] w V1) := by show Mv _ _ _ _; rw [← hV]; exact mv_setNew (HM0.out.trans hm) hw3 _ _
  have HE1 := Lib.hid he
  have HV := Lib.hid hV
  have np : V1.cell? ⟨b4, 1, none⟩ = some (.pointer (some ⟨b3, 1, none⟩)) := by rw [Lib.cell_of_heap HP1.out]; rfl
  clear hV hr he hm hb hc hp HB0 HC0 HR0 HM0 HE0 HP0
  go_wp2_with fail
  rw [HV.out]
  clear HV oc of
  rw [rounds_succ]
  go_wp2_with fail
  clear np
  refine (readText_any g s a _ _ X2.out hs _ HR1.out HE1.out).mono ?_
  rintro e w2 ⟨rfl, k2, hr, he, hm⟩
  have hb := (hm.block b3 (Blk.lt (t := 23) HB1.out) (by simpa using g3)).trans HB1.out
  have hc := (hm.block b2 (Blk.lt (t := 23) HC1.out) (by simpa using g2)).trans HC1.out
  have hp := (hm.block b4 (Blk.lt (t := 107) HP1.out) (by simpa using g4)).trans HP1.out
  have oc : w2.cell? ⟨b3, 1, none⟩ = some (.string ⟨#[]⟩) := by rw [Lib.cell_of_heap hb]; rfl
  have of : w2.frozen? ⟨b3, 1, none⟩ = false := Lib.frozen_of_heap hb 1
  obtain ⟨V2, hV⟩ : ∃ V2, w2.setCell ⟨b3, 1, none⟩ (.string a) = V2 := ⟨_, rfl⟩
  have HB2 : Hid (V2.heap[b3]? = some (.cells #[.string p, .string a, .string ⟨#[]⟩, .string ⟨#[]⟩, .bool false, .string ⟨#[]⟩, .string ⟨#[]⟩, .string ⟨#[]⟩, .int .i64 0, .int .i64 0, .int .i64 0, .int .i64 0] 23 (0, 0))) := by show _ = _; rw [← hV]; exact Blk.set_ (show Blk w2 b3 23 _ from hb) 1 _
  have HC2 : Hid (V2.heap[b2]? = some (.cells #[.string ⟨#[]⟩, .string ⟨#[]⟩, .string ⟨#[]⟩, .string ⟨#[]⟩, .bool false, .string ⟨#[]⟩, .string ⟨#[]⟩, .string ⟨#[]⟩, .int .i64 0, .int .i64 0, .int .i64 0, .int .i64 0] 23 (0, 0))) := by show _ = _; rw [← hV, Below.heap_setCell _ _ _ _ (show b2 ≠ b3 from d32.symm)]; exact hc
  have HP2 : Hid (V2.heap[b4]? = some (.cells #[.pointer (some ⟨b3, 0, none⟩), .pointer (some ⟨b3, 1, none⟩), .pointer (some ⟨b3, 2, none⟩), .pointer (some ⟨b3, 3, none⟩), .pointer (some ⟨b3, 5, none⟩), .pointer (some ⟨b3, 6, none⟩), .pointer (some ⟨b3, 7, none⟩)] 107 (0, 0))) := by show _ = _; rw [← hV, Below.heap_setCell _ _ _ _ (show b4 ≠ b3 from d34.symm)]; exact hp
  have HR2 : Hid (RdAt g 0 s k2 V2) := by show _ = _; rw [← hV, Below.heap_setCell _ _ _ _ (show g ≠ b3 from g3.symm)]; exact hr
  have HM2 : Hid (Mv [g] [g] w V2) := by show Mv _ _ _ _; rw [← hV]; exact mv_setNew (HM1.out.trans hm) hw3 _ _
  have HE2 := Lib.hid he
  have HV := Lib.hid hV
  have np : V2.cell? ⟨b4, 2, none⟩ = some (.pointer (some ⟨b3, 2, none⟩)) := by rw [Lib.cell_of_heap HP2.out]; rfl
  clear hV hr he hm hb hc hp HB1 HC1 HR1 HM1 HE1 HP1
  go_wp2_with fail
  rw [HV.out]
  clear HV oc of
  rw [rounds_succ]
  go_wp2_with fail
  clear np
  refine (readText_any g s m _ _ X3.out hs _ HR2.out HE2.out).mono ?_
  rintro e w3 ⟨rfl, k3, hr, he, hm⟩
  have hb := (hm.block b3 (Blk.lt (t := 23) HB2.out) (by simpa using g3)).trans HB2.out
  have hc := (hm.block b2 (Blk.lt (t := 23) HC2.out) (by simpa using g2)).trans HC2.out
  have hp := (hm.block b4 (Blk.lt (t := 107) HP2.out) (by simpa using g4)).trans HP2.out
  have oc : w3.cell? ⟨b3, 2, none⟩ = some (.string ⟨#[]⟩) := by rw [Lib.cell_of_heap hb]; rfl
  have of : w3.frozen? ⟨b3, 2, none⟩ = false := Lib.frozen_of_heap hb 2
  obtain ⟨V3, hV⟩ : ∃ V3, w3.setCell ⟨b3, 2, none⟩ (.string m) = V3 := ⟨_, rfl⟩
  have HB3 : Hid (V3.heap[b3]? = some (.cells #[.string p, .string a, .string m, .string ⟨#[]⟩, .bool false, .string ⟨#[]⟩, .string ⟨#[]⟩, .string ⟨#[]⟩, .int .i64 0, .int .i64 0, .int .i64 0, .int .i64 0] 23 (0, 0))) := by show _ = _; rw [← hV]; exact Blk.set_ (show Blk w3 b3 23 _ from hb) 2 _
  have HC3 : Hid (V3.heap[b2]? = some (.cells #[.string ⟨#[]⟩, .string ⟨#[]⟩, .string ⟨#[]⟩, .string ⟨#[]⟩, .bool false, .string ⟨#[]⟩, .string ⟨#[]⟩, .string ⟨#[]⟩, .int .i64 0, .int .i64 0, .int .i64 0, .int .i64 0] 23 (0, 0))) := by show _ = _; rw [← hV, Below.heap_setCell _ _ _ _ (show b2 ≠ b3 from d32.symm)]; exact hc
  have HP3 : Hid (V3.heap[b4]? = some (.cells #[.pointer (some ⟨b3, 0, none⟩), .pointer (some ⟨b3, 1, none⟩), .pointer (some ⟨b3, 2, none⟩), .pointer (some ⟨b3, 3, none⟩), .pointer (some ⟨b3, 5, none⟩), .pointer (some ⟨b3, 6, none⟩), .pointer (some ⟨b3, 7, none⟩)] 107 (0, 0))) := by show _ = _; rw [← hV, Below.heap_setCell _ _ _ _ (show b4 ≠ b3 from d34.symm)]; exact hp
  have HR3 : Hid (RdAt g 0 s k3 V3) := by show _ = _; rw [← hV, Below.heap_setCell _ _ _ _ (show g ≠ b3 from g3.symm)]; exact hr
  have HM3 : Hid (Mv [g] [g] w V3) := by show Mv _ _ _ _; rw [← hV]; exact mv_setNew (HM2.out.trans hm) hw3 _ _
  have HE3 := Lib.hid he
  have HV := Lib.hid hV
  have np : V3.cell? ⟨b4, 3, none⟩ = some (.pointer (some ⟨b3, 3, none⟩)) := by rw [Lib.cell_of_heap HP3.out]; rfl
  clear hV hr he hm hb hc hp HB2 HC2 HR2 HM2 HE2 HP2
  go_wp2_with fail
  rw [HV.out]
  clear HV oc of
  rw [rounds_succ]
  go_wp2_with fail
  clear np
  refine (readText_any g s o _ _ X4.out hs _ HR3.out HE3.out).mono ?_
  rintro e w4 ⟨rfl, k4, hr, he, hm⟩
  have hb := (hm.block b3 (Blk.lt (t := 23) HB3.out) (by simpa using g3)).trans HB3.out
  have hc := (hm.block b2 (Blk.lt (t := 23) HC3.out) (by simpa using g2)).trans HC3.out
  have hp := (hm.block b4 (Blk.lt (t := 107) HP3.out) (by simpa using g4)).trans HP3.out
  have oc : w4.cell? ⟨b3, 3, none⟩ = some (.string ⟨#[]⟩) := by rw [Lib.cell_of_heap hb]; rfl
  have of : w4.frozen? ⟨b3, 3, none⟩ = false := Lib.frozen_of_heap hb 3
  obtain ⟨V4, hV⟩ : ∃ V4, w4.setCell ⟨b3, 3, none⟩ (.string o) = V4 := ⟨_, rfl⟩
  have HB4 : Hid (V4.heap[b3]? = some (.cells #[.string p, .string a, .string m, .string o, .bool false, .string ⟨#[]⟩, .string ⟨#[]⟩, .string ⟨#[]⟩, .int .i64 0, .int .i64 0, .int .i64 0, .int .i64 0] 23 (0, 0))) := by show _ = _; rw [← hV]; exact Blk.set_ (show Blk w4 b3 23 _ from hb) 3 _
  have HC4 : Hid (V4.heap[b2]? = some (.cells #[.string ⟨#[]⟩, .string ⟨#[]⟩, .string ⟨#[]⟩, .string ⟨#[]⟩, .bool false, .string ⟨#[]⟩, .string ⟨#[]⟩, .string ⟨#[]⟩, .int .i64 0, .int .i64 0, .int .i64 0, .int .i64 0] 23 (0, 0))) := by show _ = _; rw [← hV, Below.heap_setCell _ _ _ _ (show b2 ≠ b3 from d32.symm)]; exact hc
  have HP4 : Hid (V4.heap[b4]? = some (.cells #[.pointer (some ⟨b3, 0, none⟩), .pointer (some ⟨b3, 1, none⟩), .pointer (some ⟨b3, 2, none⟩), .pointer (some ⟨b3, 3, none⟩), .pointer (some ⟨b3, 5, none⟩), .pointer (some ⟨b3, 6, none⟩), .pointer (some ⟨b3, 7, none⟩)] 107 (0, 0))) := by show _ = _; rw [← hV, Below.heap_setCell _ _ _ _ (show b4 ≠ b3 from d34.symm)]; exact hp
  have HR4 : Hid (RdAt g 0 s k4 V4) := by show _ = _; rw [← hV, Below.heap_setCell _ _ _ _ (show g ≠ b3 from g3.symm)]; exact hr
  have HM4 : Hid (Mv [g] [g] w V4) := by show Mv _ _ _ _; rw [← hV]; exact mv_setNew (HM3.out.trans hm) hw3 _ _
  have HE4 := Lib.hid he
  have HV := Lib.hid hV
  have np : V4.cell? ⟨b4, 4, none⟩ = some (.pointer (some ⟨b3, 5, none⟩)) := by rw [Lib.cell_of_heap HP4.out]; rfl
  clear hV hr he hm hb hc hp HB3 HC3 HR3 HM3 HE3 HP3
  go_wp2_with fail
  rw [HV.out]
  clear HV oc of
  rw [rounds_succ]
  go_wp2_with fail
  clear np
  refine (readText_any g s ss _ _ X5.out hs _ HR4.out HE4.out).mono ?_
  rintro e w5 ⟨rfl, k5, hr, he, hm⟩
  have hb := (hm.block b3 (Blk.lt (t := 23) HB4.out) (by simpa using g3)).trans HB4.out
  have hc := (hm.block b2 (Blk.lt (t := 23) HC4.out) (by simpa using g2)).trans HC4.out
  have hp := (hm.block b4 (Blk.lt (t := 107) HP4.out) (by simpa using g4)).trans HP4.out
  have oc : w5.cell? ⟨b3, 5, none⟩ = some (.string ⟨#[]⟩) := by rw [Lib.cell_of_heap hb]; rfl
  have of : w5.frozen? ⟨b3, 5, none⟩ = false := Lib.frozen_of_heap hb 5
  obtain ⟨V5, hV⟩ : ∃ V5, w5.setCell ⟨b3, 5, none⟩ (.string ss) = V5 := ⟨_, rfl⟩
  have HB5 : Hid (V5.heap[b3]? = some (.cells #[.string p, .string a, .string m, .string o, .bool false, .string ss, .string ⟨#[]⟩, .string ⟨#[]⟩, .int .i64 0, .int .i64 0, .int .i64 0, .int .i64 0] 23 (0, 0))) := by show _ = _; rw [← hV]; exact Blk.set_ (show Blk w5 b3 23 _ from hb) 5 _
  have HC5 : Hid (V5.heap[b2]? = some (.cells #[.string ⟨#[]⟩, .string ⟨#[]⟩, .string ⟨#[]⟩, .string ⟨#[]⟩, .bool false, .string ⟨#[]⟩, .string ⟨#[]⟩, .string ⟨#[]⟩, .int .i64 0, .int .i64 0, .int .i64 0, .int .i64 0] 23 (0, 0))) := by show _ = _; rw [← hV, Below.heap_setCell _ _ _ _ (show b2 ≠ b3 from d32.symm)]; exact hc
  have HP5 : Hid (V5.heap[b4]? = some (.cells #[.pointer (some ⟨b3, 0, none⟩), .pointer (some ⟨b3, 1, none⟩), .pointer (some ⟨b3, 2, none⟩), .pointer (some ⟨b3, 3, none⟩), .pointer (some ⟨b3, 5, none⟩), .pointer (some ⟨b3, 6, none⟩), .pointer (some ⟨b3, 7, none⟩)] 107 (0, 0))) := by show _ = _; rw [← hV, Below.heap_setCell _ _ _ _ (show b4 ≠ b3 from d34.symm)]; exact hp
  have HR5 : Hid (RdAt g 0 s k5 V5) := by show _ = _; rw [← hV, Below.heap_setCell _ _ _ _ (show g ≠ b3 from g3.symm)]; exact hr
  have HM5 : Hid (Mv [g] [g] w V5) := by show Mv _ _ _ _; rw [← hV]; exact mv_setNew (HM4.out.trans hm) hw3 _ _
  have HE5 := Lib.hid he
  have HV := Lib.hid hV
  have np : V5.cell? ⟨b4, 5, none⟩ = some (.pointer (some ⟨b3, 6, none⟩)) := by rw [Lib.cell_of_heap HP5.out]; rfl
  clear hV hr he hm hb hc hp HB4 HC4 HR4 HM4 HE4 HP4
  go_wp2_with fail
  rw [HV.out]
  clear HV oc of
  rw [rounds_succ]
  go_wp2_with fail
  clear np
  refine (readText_any g s c _ _ X6.out hs _ HR5.out HE5.out).mono ?_
  rintro e w6 ⟨rfl, k6, hr, he, hm⟩
  have hb := (hm.block b3 (Blk.lt (t := 23) HB5.out) (by simpa using g3)).trans HB5.out
  have hc := (hm.block b2 (Blk.lt (t := 23) HC5.out) (by simpa using g2)).trans HC5.out
  have hp := (hm.block b4 (Blk.lt (t := 107) HP5.out) (by simpa using g4)).trans HP5.out
  have oc : w6.cell? ⟨b3, 6, none⟩ = some (.string ⟨#[]⟩) := by rw [Lib.cell_of_heap hb]; rfl
  have of : w6.frozen? ⟨b3, 6, none⟩ = false := Lib.frozen_of_heap hb 6
  obtain ⟨V6, hV⟩ : ∃ V6, w6.setCell ⟨b3, 6, none⟩ (.string c) = V6 := ⟨_, rfl⟩
  have HB6 : Hid (V6.heap[b3]? = some (.cells #[.string p, .string a, .string m, .string o, .bool false, .string ss, .string c, .string ⟨#[]⟩, .int .i64 0, .int .i64 0, .int .i64 0, .int .i64 0] 23 (0, 0))) := by show _ = _; rw [← hV]; exact Blk.set_ (show Blk w6 b3 23 _ from hb) 6 _
  have HC6 : Hid (V6.heap[b2]? = some (.cells #[.string ⟨#[]⟩, .string ⟨#[]⟩, .string ⟨#[]⟩, .string ⟨#[]⟩, .bool false, .string ⟨#[]⟩, .string ⟨#[]⟩, .string ⟨#[]⟩, .int .i64 0, .int .i64 0, .int .i64 0, .int .i64 0] 23 (0, 0))) := by show _ = _; rw [← hV, Below.heap_setCell _ _ _ _ (show b2 ≠ b3 from d32.symm)]; exact hc
  have HP6 : Hid (V6.heap[b4]? = some (.cells #[.pointer (some ⟨b3, 0, none⟩), .pointer (some ⟨b3, 1, none⟩), .pointer (some ⟨b3, 2, none⟩), .pointer (some ⟨b3, 3, none⟩), .pointer (some ⟨b3, 5, none⟩), .pointer (some ⟨b3, 6, none⟩), .pointer (some ⟨b3, 7, none⟩)] 107 (0, 0))) := by show _ = _; rw [← hV, Below.heap_setCell _ _ _ _ (show b4 ≠ b3 from d34.symm)]; exact hp
  have HR6 : Hid (RdAt g 0 s k6 V6) := by show _ = _; rw [← hV, Below.heap_setCell _ _ _ _ (show g ≠ b3 from g3.symm)]; exact hr
  have HM6 : Hid (Mv [g] [g] w V6) := by show Mv _ _ _ _; rw [← hV]; exact mv_setNew (HM5.out.trans hm) hw3 _ _
  have HE6 := Lib.hid he
  have HV := Lib.hid hV
  have np : V6.cell? ⟨b4, 6, none⟩ = some (.pointer (some ⟨b3, 7, none⟩)) := by rw [Lib.cell_of_heap HP6.out]; rfl
  clear hV hr he hm hb hc hp HB5 HC5 HR5 HM5 HE5 HP5
  go_wp2_with fail
  rw [HV.out]
  clear HV oc of
  rw [rounds_succ]
  go_wp2_with fail
  clear np
  refine (readText_any g s r _ _ X7.out hs _ HR6.out HE6.out).mono ?_
  rintro e w7 ⟨rfl, k7, hr, he, hm⟩
  have hb := (hm.block b3 (Blk.lt (t := 23) HB6.out) (by simpa using g3)).trans HB6.out
  have hc := (hm.block b2 (Blk.lt (t := 23) HC6.out) (by simpa using g2)).trans HC6.out
  have hp := (hm.block b4 (Blk.lt (t := 107) HP6.out) (by simpa using g4)).trans HP6.out
  have oc : w7.cell? ⟨b3, 7, none⟩ = some (.string ⟨#[]⟩) := by rw [Lib.cell_of_heap hb]; rfl
  have of : w7.frozen? ⟨b3, 7, none⟩ = false := Lib.frozen_of_heap hb 7
  obtain ⟨V7, hV⟩ : ∃ V7, w7.setCell ⟨b3, 7, none⟩ (.string r) = V7 := ⟨_, rfl⟩
  have HB7 : Hid (V7.heap[b3]? = some (.cells #[.string p, .string a, .string m, .string o, .bool false, .string ss, .string c, .string r, .int .i64 0, .int .i64 0, .int .i64 0, .int .i64 0] 23 (0, 0))) := by show _ = _; rw [← hV]; exact Blk.set_ (show Blk w7 b3 23 _ from hb) 7 _
  have HC7 : Hid (V7.heap[b2]? = some (.cells #[.string ⟨#[]⟩, .string ⟨#[]⟩, .string ⟨#[]⟩, .string ⟨#[]⟩, .bool false, .string ⟨#[]⟩, .string ⟨#[]⟩, .string ⟨#[]⟩, .int .i64 0, .int .i64 0, .int .i64 0, .int .i64 0] 23 (0, 0))) := by show _ = _; rw [← hV, Below.heap_setCell _ _ _ _ (show b2 ≠ b3 from d32.symm)]; exact hc
  have HP7 : Hid (V7.heap[b4]? = some (.cells #[.pointer (some ⟨b3, 0, none⟩), .pointer (some ⟨b3, 1, none⟩), .pointer (some ⟨b3, 2, none⟩), .pointer (some ⟨b3, 3, none⟩), .pointer (some ⟨b3, 5, none⟩), .pointer (some ⟨b3, 6, none⟩), .pointer (some ⟨b3, 7, none⟩)] 107 (0, 0))) := by show _ = _; rw [← hV, Below.heap_setCell _ _ _ _ (show b4 ≠ b3 from d34.symm)]; exact hp
  have HR7 : Hid (RdAt g 0 s k7 V7) := by show _ = _; rw [← hV, Below.heap_setCell _ _ _ _ (show g ≠ b3 from g3.symm)]; exact hr
  have HM7 : Hid (Mv [g] [g] w V7) := by show Mv _ _ _ _; rw [← hV]; exact mv_setNew (HM6.out.trans hm) hw3 _ _
  have HE7 := Lib.hid he
  have HV := Lib.hid hV
  clear hV hr he hm hb hc hp HB6 HC6 HR6 HM6 HE6 HP6
  go_wp2_with fail
  rw [HV.out]
  clear HV oc of
  rw [rounds_succ]
  go_wp2_with fail
  refine (readBool_any g s dl _ _ hs _ HR7.out HE7.out).mono ?_
  rintro e w8 ⟨rfl, k8, hr, he, hm⟩
  have hb := (hm.block b3 (Blk.lt (t := 23) HB7.out) (by simpa using g3)).trans HB7.out
  have hc := (hm.block b2 (Blk.lt (t := 23) HC7.out) (by simpa using g2)).trans HC7.out
  have oc : w8.cell? ⟨b3, 4, none⟩ = some (.bool false) := by rw [Lib.cell_of_heap hb]; rfl
  have of : w8.frozen? ⟨b3, 4, none⟩ = false := Lib.frozen_of_heap hb 4
  obtain ⟨V8, hV⟩ : ∃ V8, w8.setCell ⟨b3, 4, none⟩ (.bool dl) = V8 := ⟨_, rfl⟩
  have HB8 : Hid (V8.heap[b3]? = some (.cells #[.string p, .string a, .string m, .string o, .bool dl, .string ss, .string c, .string r, .int .i64 0, .int .i64 0, .int .i64 0, .int .i64 0] 23 (0, 0))) := by show _ = _; rw [← hV]; exact Blk.set_ (show Blk w8 b3 23 _ from hb) 4 _
  have HC8 : Hid (V8.heap[b2]? = some (.cells #[.string ⟨#[]⟩, .string ⟨#[]⟩, .string ⟨#[]⟩, .string ⟨#[]⟩, .bool false, .string ⟨#[]⟩, .string ⟨#[]⟩, .string ⟨#[]⟩, .int .i64 0, .int .i64 0, .int .i64 0, .int .i64 0] 23 (0, 0))) := by show _ = _; rw [← hV, Below.heap_setCell _ _ _ _ (show b2 ≠ b3 from d32.symm)]; exact hc
  have HR8 : Hid (RdAt g 0 s k8 V8) := by show _ = _; rw [← hV, Below.heap_setCell _ _ _ _ (show g ≠ b3 from g3.symm)]; exact hr
  have HM8 : Hid (Mv [g] [g] w V8) := by show Mv _ _ _ _; rw [← hV]; exact mv_setNew (HM7.out.trans hm) hw3 _ _
  have HE8 := Lib.hid he
  have HV := Lib.hid hV
  have hsz : w8.heap.size = V8.heap.size := by rw [← hV]; simp
  clear hV hr he hm hb hc HB7 HC7 HR7 HM7 HE7
  go_wp2_with fail
  rw [HV.out]
  clear HV oc of hsz
  have HP8 : Hid ((V8.alloc (.cells #[.pointer (some ⟨b3, 8, none⟩), .pointer (some ⟨b3, 9, none⟩), .pointer (some ⟨b3, 10, none⟩), .pointer (some ⟨b3, 11, none⟩)] 103)).heap[V8.heap.size]? = some (.cells #[.pointer (some ⟨b3, 8, none⟩), .pointer (some ⟨b3, 9, none⟩), .pointer (some ⟨b3, 10, none⟩), .pointer (some ⟨b3, 11, none⟩)] 103 (0, 0))) := heap_alloc_new _ _
  have hz := Blk.lt (t := 23) HB8.out
  have hz2 := Blk.lt (t := 23) HC8.out
  have hzg := HR8.out.lt
  have d5 : V8.heap.size ≠ b3 := by omega
  have d6 : V8.heap.size ≠ b2 := by omega
  have g5 : V8.heap.size ≠ g := by omega
  have hbn : Below V8.heap.size V8 (V8.alloc (.cells #[.pointer (some ⟨b3, 8, none⟩), .pointer (some ⟨b3, 9, none⟩), .pointer (some ⟨b3, 10, none⟩), .pointer (some ⟨b3, 11, none⟩)] 103)) := (Below.refl _ _).alloc (Nat.le_refl _) _
  have hB := (Below.heap_alloc V8 (.cells #[.pointer (some ⟨b3, 8, none⟩), .pointer (some ⟨b3, 9, none⟩), .pointer (some ⟨b3, 10, none⟩), .pointer (some ⟨b3, 11, none⟩)] 103) b3 hz).trans HB8.out
  have hC := (Below.heap_alloc V8 (.cells #[.pointer (some ⟨b3, 8, none⟩), .pointer (some ⟨b3, 9, none⟩), .pointer (some ⟨b3, 10, none⟩), .pointer (some ⟨b3, 11, none⟩)] 103) b2 hz2).trans HC8.out
  have hR := HR8.out.below hbn
  have hM := HM8.out.trans (Mv.of_new (S' := [g]) hbn (fun _ h => .inl h))
  obtain ⟨U, hU⟩ : ∃ U, V8.alloc (.cells #[.pointer (some ⟨b3, 8, none⟩), .pointer (some ⟨b3, 9, none⟩), .pointer (some ⟨b3, 10, none⟩), .pointer (some ⟨b3, 11, none⟩)] 103) = U := ⟨_, rfl⟩
  rw [hU] at HP8 hB hC hR hM ⊢
  obtain ⟨b5, hb5⟩ : ∃ b5, V8.heap.size = b5 := ⟨_, rfl⟩
  rw [hb5] at HP8 d5 d6 g5 ⊢
  clear hU hb5 hbn hz hz2 hzg HB8 HC8 HR8 HM8
  have HB8 := Lib.hid hB
  have HC8 := Lib.hid hC
  have HR8 := Lib.hid hR
  have HM8 := Lib.hid hM
  have np : U.cell? ⟨b5, 0, none⟩ = some (.pointer (some ⟨b3, 8, none⟩)) := by rw [Lib.cell_of_heap HP8.out]; rfl
  clear hB hC hR hM
  refine wp_loop_rounds 5 ?_
  rw [rounds_succ]
  go_wp2_with fail
  clear np
  refine (readNum_any g s q _ _ n1.out hs _ HR8.out HE8.out).mono ?_
  rintro e w9 ⟨rfl, k9, hr, he, hm⟩
  have hb := (hm.block b3 (Blk.lt (t := 23) HB8.out) (by simpa using g3)).trans HB8.out
  have hc := (hm.block b2 (Blk.lt (t := 23) HC8.out) (by simpa using g2)).trans HC8.out
  have hp := (hm.block b5 (Blk.lt (t := 103) HP8.out) (by simpa using g5)).trans HP8.out
  have oc : w9.cell? ⟨b3, 8, none⟩ = some (.int .i64 0) := by rw [Lib.cell_of_heap hb]; rfl
  have of : w9.frozen? ⟨b3, 8, none⟩ = false := Lib.frozen_of_heap hb 8
  obtain ⟨V9, hV⟩ : ∃ V9, w9.setCell ⟨b3, 8, none⟩ (.int .i64 q) = V9 := ⟨_, rfl⟩
  have HB9 : Hid (V9.heap[b3]? = some (.cells #[.string p, .string a, .string m, .string o, .bool dl, .string ss, .string c, .string r, .int .i64 q, .int .i64 0, .int .i64 0, .int .i64 0] 23 (0, 0))) := by show _ = _; rw [← hV]; exact Blk.set_ (show Blk w9 b3 23 _ from hb) 8 _
  have HC9 : Hid (V9.heap[b2]? = some (.cells #[.string ⟨#[]⟩, .string ⟨#[]⟩, .string ⟨#[]⟩, .string ⟨#[]⟩, .bool false, .string ⟨#[]⟩, .string ⟨#[]⟩, .string ⟨#[]⟩, .int .i64 0, .int .i64 0, .int .i64 0, .int .i64 0] 23 (0, 0))) := by show _ = _; rw [← hV, Below.heap_setCell _ _ _ _ (show b2 ≠ b3 from d32.symm)]; exact hc
  have HP9 : Hid (V9.heap[b5]? = some (.cells #[.pointer (some ⟨b3, 8, none⟩), .pointer (some ⟨b3, 9, none⟩), .pointer (some ⟨b3, 10, none⟩), .pointer (some ⟨b3, 11, none⟩)] 103 (0, 0))) := by show _ = _; rw [← hV, Below.heap_setCell _ _ _ _ (show b5 ≠ b3 from d5)]; exact hp
  have HR9 : Hid (RdAt g 0 s k9 V9) := by show _ = _; rw [← hV, Below.heap_setCell _ _ _ _ (show g ≠ b3 from g3.symm)]; exact hr
  have HM9 : Hid (Mv [g] [g] w V9) := by show Mv _ _ _ _; rw [← hV]; exact mv_setNew (HM8.out.trans hm) hw3 _ _
  have HE9 := Lib.hid he
  have HV := Lib.hid hV
  have np : V9.cell? ⟨b5, 1, none⟩ = some (.pointer (some ⟨b3, 9, none⟩)) := by rw [Lib.cell_of_heap HP9.out]; rfl
  clear hV hr he hm hb hc hp HB8 HC8 HR8 HM8 HE8 HP8
  go_wp2_with fail
  rw [HV.out]
  clear HV oc of
  rw [rounds_succ]
  go_wp2_with fail
  clear np
  refine (readNum_any g s am _ _ n2.out hs _ HR9.out HE9.out).mono ?_
  rintro e w10 ⟨rfl, k10, hr, he, hm⟩
  have hb := (hm.block b3 (Blk.lt (t := 23) HB9.out) (by simpa using g3)).trans HB9.out
  have hc := (hm.block b2 (Blk.lt (t := 23) HC9.out) (by simpa using g2)).trans HC9.out
  have hp := (hm.block b5 (Blk.lt (t := 103) HP9.out) (by simpa using g5)).trans HP9.out
  have oc : w10.cell? ⟨b3, 9, none⟩ = some (.int .i64 0) := by rw [Lib.cell_of_heap hb]; rfl
  have of : w10.frozen? ⟨b3, 9, none⟩ = false := Lib.frozen_of_heap hb 9
  obtain ⟨V10, hV⟩ : ∃ V10, w10.setCell ⟨b3, 9, none⟩ (.int .i64 am) = V10 := ⟨_, rfl⟩
  have HB10 : Hid (V10.heap[b3]? = some (.cells #[.string p, .string a, .string m, .string o, .bool dl, .string ss, .string c, .string r, .int .i64 q, .int .i64 am, .int .i64 0, .int .i64 0] 23 (0, 0))) := by show _ = _; rw [← hV]; exact Blk.set_ (show Blk w10 b3 23 _ from hb) 9 _
  have HC10 : Hid (V10.heap[b2]? = some (.cells #[.string ⟨#[]⟩, .string ⟨#[]⟩, .string ⟨#[]⟩, .string ⟨#[]⟩, .bool false, .string ⟨#[]⟩, .string ⟨#[]⟩, .string ⟨#[]⟩, .int .i64 0, .int .i64 0, .int .i64 0, .int .i64 0] 23 (0, 0))) := by show _ = _; rw [← hV, Below.heap_setCell _ _ _ _ (show b2 ≠ b3 from d32.symm)]; exact hc
  have HP10 : Hid (V10.heap[b5]? = some (.cells #[.pointer (some ⟨b3, 8, none⟩), .pointer (some ⟨b3, 9, none⟩), .pointer (some ⟨b3, 10, none⟩), .pointer (some ⟨b3, 11, none⟩)] 103 (0, 0))) := by show _ = _; rw [← hV, Below.heap_setCell _ _ _ _ (show b5 ≠ b3 from d5)]; exact hp
  have HR10 : Hid (RdAt g 0 s k10 V10) := by show _ = _; rw [← hV, Below.heap_setCell _ _ _ _ (show g ≠ b3 from g3.symm)]; exact hr
  have HM10 : Hid (Mv [g] [g] w V10) := by show Mv _ _ _ _; rw [← hV]; exact mv_setNew (HM9.out.trans hm) hw3 _ _
  have HE10 := Lib.hid he
  have HV := Lib.hid hV
  have np : V10.cell? ⟨b5, 2, none⟩ = some (.pointer (some ⟨b3, 10, none⟩)) := by rw [Lib.cell_of_heap HP10.out]; rfl
  clear hV hr he hm hb hc hp HB9 HC9 HR9 HM9 HE9 HP9
  go_wp2_with fail
  rw [HV.out]
  clear HV oc of
  rw [rounds_succ]
  go_wp2_with fail
  clear np
  refine (readNum_any g s dy _ _ n3.out hs _ HR10.out HE10.out).mono ?_
  rintro e w11 ⟨rfl, k11, hr, he, hm⟩
  have hb := (hm.block b3 (Blk.lt (t := 23) HB10.out) (by simpa using g3)).trans HB10.out
  have hc := (hm.block b2 (Blk.lt (t := 23) HC10.out) (by simpa using g2)).trans HC10.out
  have hp := (hm.block b5 (Blk.lt (t := 103) HP10.out) (by simpa using g5)).trans HP10.out
  have oc : w11.cell? ⟨b3, 10, none⟩ = some (.int .i64 0) := by rw [Lib.cell_of_heap hb]; rfl
  have of : w11.frozen? ⟨b3, 10, none⟩ = false := Lib.frozen_of_heap hb 10
  obtain ⟨V11, hV⟩ : ∃ V11, w11.setCell ⟨b3, 10, none⟩ (.int .i64 dy) = V11 := ⟨_, rfl⟩
  have HB11 : Hid (V11.heap[b3]? = some (.cells #[.string p, .string a, .string m, .string o, .bool dl, .string ss, .string c, .string r, .int .i64 q, .int .i64 am, .int .i64 dy, .int .i64 0] 23 (0, 0))) := by show _ = _; rw [← hV]; exact Blk.set_ (show Blk w11 b3 23 _ from hb) 10 _
  have HC11 : Hid (V11.heap[b2]? = some (.cells #[.string ⟨#[]⟩, .string ⟨#[]⟩, .string ⟨#[]⟩, .string ⟨#[]⟩, .bool false, .string ⟨#[]⟩, .string ⟨#[]⟩, .string ⟨#[]⟩, .int .i64 0, .int .i64 0, .int .i64 0, .int .i64 0] 23 (0, 0))) := by show _ = _; rw [← hV, Below.heap_setCell _ _ _ _ (show b2 ≠ b3 from d32.symm)]; exact hc
  have HP11 : Hid (V11.heap[b5]? = some (.cells #[.pointer (some ⟨b3, 8, none⟩), .pointer (some ⟨b3, 9, none⟩), .pointer (some ⟨b3, 10, none⟩), .pointer (some ⟨b3, 11, none⟩)] 103 (0, 0))) := by show _ = _; rw [← hV, Below.heap_setCell _ _ _ _ (show b5 ≠ b3 from d5)]; exact hp
  have HR11 : Hid (RdAt g 0 s k11 V11) := by show _ = _; rw [← hV, Below.heap_setCell _ _ _ _ (show g ≠ b3 from g3.symm)]; exact hr
  have HM11 : Hid (Mv [g] [g] w V11) := by show Mv _ _ _ _; rw [← hV]; exact mv_setNew (HM10.out.trans hm) hw3 _ _
  have HE11 := Lib.hid he
  have HV := Lib.hid hV
  have np : V11.cell? ⟨b5, 3, none⟩ = some (.pointer (some ⟨b3, 11, none⟩)) := by rw [Lib.cell_of_heap HP11.out]; rfl
  clear hV hr he hm hb hc hp HB10 HC10 HR10 HM10 HE10 HP10
  go_wp2_with fail
  rw [HV.out]
  clear HV oc of
  rw [rounds_succ]
  go_wp2_with fail
  clear np
  refine (readNum_any g s td _ _ n4.out hs _ HR11.out HE11.out).mono ?_
  rintro e w12 ⟨rfl, k12, hr, he, hm⟩
  have hb := (hm.block b3 (Blk.lt (t := 23) HB11.out) (by simpa using g3)).trans HB11.out
  have hc := (hm.block b2 (Blk.lt (t := 23) HC11.out) (by simpa using g2)).trans HC11.out
  have hp := (hm.block b5 (Blk.lt (t := 103) HP11.out) (by simpa using g5)).trans HP11.out
  have oc : w12.cell? ⟨b3, 11, none⟩ = some (.int .i64 0) := by rw [Lib.cell_of_heap hb]; rfl
  have of : w12.frozen? ⟨b3, 11, none⟩ = false := Lib.frozen_of_heap hb 11
  obtain ⟨V12, hV⟩ : ∃ V12, w12.setCell ⟨b3, 11, none⟩ (.int .i64 td) = V12 := ⟨_, rfl⟩
  have HB12 : Hid (V12.heap[b3]? = some (.cells #[.string p, .string a, .string m, .string o, .bool dl, .string ss, .string c, .string r, .int .i64 q, .int .i64 am, .int .i64 dy, .int .i64 td] 23 (0, 0))) := by show _ = _; rw [← hV]; exact Blk.set_ (show Blk w12 b3 23 _ from hb) 11 _
  have HC12 : Hid (V12.heap[b2]? = some (.cells #[.string ⟨#[]⟩, .string ⟨#[]⟩, .string ⟨#[]⟩, .string ⟨#[]⟩, .bool false, .string ⟨#[]⟩, .string ⟨#[]⟩, .string ⟨#[]⟩, .int .i64 0, .int .i64 0, .int .i64 0, .int .i64 0] 23 (0, 0))) := by show _ = _; rw [← hV, Below.heap_setCell _ _ _ _ (show b2 ≠ b3 from d32.symm)]; exact hc
  have HP12 : Hid (V12.heap[b5]? = some (.cells #[.pointer (some ⟨b3, 8, none⟩), .pointer (some ⟨b3, 9, none⟩), .pointer (some ⟨b3, 10, none⟩), .pointer (some ⟨b3, 11, none⟩)] 103 (0, 0))) := by show _ = _; rw [← hV, Below.heap_setCell _ _ _ _ (show b5 ≠ b3 from d5)]; exact hp
  have HR12 : Hid (RdAt g 0 s k12 V12) := by show _ = _; rw [← hV, Below.heap_setCell _ _ _ _ (show g ≠ b3 from g3.symm)]; exact hr
  have HM12 : Hid (Mv [g] [g] w V12) := by show Mv _ _ _ _; rw [← hV]; exact mv_setNew (HM11.out.trans hm) hw3 _ _
  have HE12 := Lib.hid he
  have HV := Lib.hid hV
  clear hV hr he hm hb hc hp HB11 HC11 HR11 HM11 HE11 HP11
  go_wp2_with fail
  rw [HV.out]
  clear HV oc of
  rw [rounds_succ]
  go_wp2_with fail
  refine (ioff_any g 0 s _ _ HR12.out).mono ?_
  rintro e w20 ⟨rfl, rfl⟩
  go_wp2_with (first
    | (refine wpList_load_named rfl 23 _ rfl b3 rfl _ _ _ HB12.out Try.underlying23 rfl size_term _ rfl ?_)
    | (refine wpList_store_row rfl 23 _ _ rfl b2 _ rfl rfl _ _ HC12.out size_term rfl (by simp [Value.oneCell']) ?_))
  have hk := setRow_heap V12 b2 _ #[.string p, .string a, .string m, .string o, .bool dl, .string ss, .string c, .string r, .int .i64 q, .int .i64 am, .int .i64 dy, .int .i64 td] _ _ HC12.out
  refine bodyPost_ret (results_cell_row rfl _ _ b2 _ _ _ _ rfl hk Try.underlying23 rfl size_term) rfl ?_
  have hmv := mv_setRowNew HM12.out (Nat.le_of_eq HB2.out) #[.string p, .string a, .string m, .string o, .bool dl, .string ss, .string c, .string r, .int .i64 q, .int .i64 am, .int .i64 dy, .int .i64 td]
  refine ⟨k12, rfl, HE12.out, ?_, hmv⟩
  exact (setRow_other V12 b2 g _ g2.symm).trans HR12.out
end Go.Proofs.Ytkcecijepbceiaa
