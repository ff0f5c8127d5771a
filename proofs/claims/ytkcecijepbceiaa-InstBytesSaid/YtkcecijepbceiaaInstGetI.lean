/-
  Package inst as a contract: Get, where what was put is read.
  Conditions: the bytes that the reader stands at.
-/
import Derived.Test.YtkcecijepbceiaaInstGet
import Derived.Test.YtkcecijepbceiaaInstA
namespace Go.Proofs.Ytkcecijepbceiaa
open Go.RowKit

/-- Cells that are stored from an offset on. -/
def setArr : Array Value → Nat → List Value → Array Value
  | cs, _, [] => cs
  | cs, o, v :: r => setArr (cs.setIfInBounds o v) (o + 1) r
theorem setCells_blk {b : Nat} {T : TypeId} : ∀ (vs : List Value) (o : Nat) (w : World) (cs : Array Value), w.heap[b]? = some (.cells cs T (0, 0)) → (w.setCells b o vs).heap[b]? = some (.cells (setArr cs o vs) T (0, 0))
  | [], _, _, _, h => h
  | v :: r, o, w, _, h => setCells_blk r (o + 1) _ _ (Blk.set_ (show Blk w b T _ from h) o v)
theorem setCells_other {b k : Nat} (hk : k ≠ b) : ∀ (vs : List Value) (o : Nat) (w : World), (w.setCells b o vs).heap[k]? = w.heap[k]?
  | [], _, _ => rfl
  | _ :: r, o, _ => (setCells_other hk r (o + 1) _).trans (Below.heap_setCell _ _ _ _ hk)
theorem mv_setCellsNew {g b : Nat} {w : World} (hb : w.heap.size ≤ b) : ∀ (vs : List Value) (o : Nat) (W : World), Mv [g] [g] w W → Mv [g] [g] w (W.setCells b o vs)
  | [], _, _, h => h
  | v :: r, o, _, h => mv_setCellsNew hb r (o + 1) _ (mv_setNew h hb o v)
theorem size_setCells {b : Nat} : ∀ (vs : List Value) (o : Nat) (w : World), (w.setCells b o vs).heap.size = w.heap.size
  | [], _, _ => rfl
  | _ :: r, o, _ => (size_setCells r (o + 1) _).trans (by simp)
/-- A struct stored into a part of a block. -/
theorem wpList_store_part {P : Program} {ops : Array Oper} {rest : List Oper} {o : Oper} {a : Act} {w : World} {Q : Exit → Act → World → Prop} (hw : Region.wanted o (yielded ops a.tmps) = true) (ty : TypeId) (x y : Operand) (ho : o.op = .store ty x y)
    (b off : Nat) (vs : List Value) (hx : a.eval x = .pointer (some ⟨b, off, none⟩)) (hy : a.eval y = .agg vs.toArray) (T : TypeId) (old : Array Value) (hg : w.heap[b]? = some (.cells old T (0, 0)))
    (hi : (P.info? ty).map (·.size) = some vs.length) (hold : off + vs.length ≤ old.size) (h1 : ∀ v ∈ vs, v.oneCell' = true)
    (h : wpList P ops Q rest (a.put o.dst undef) (w.setCells b off vs)) : wpList P ops Q (o :: rest) a w := by
  refine BigFrame.wpList_want hw fun K hK => ?_
  have hst := run_storeCells_cells (P := P) b off vs 0 w (fun j hj => by rw [Lib.cell_of_heap hg, Array.getElem?_eq_getElem (by omega)]; rfl) (fun j _ => Lib.frozen_of_heap hg _) h1
  simp only [Nat.add_zero] at hst
  have hrun : (storeVar ty ⟨b, off, none⟩ (.agg vs.toArray)).run P w = .ok () (w.setCells b off vs) := by
    cases hq : P.info? ty with
    | none => simp [hq] at hi
    | some i =>
      have hs : vs.length = i.size := by simp [hq] at hi; omega
      simp [storeVar, sizeOf, typeInfo, hq, Value.cells, hs, hst]
  unfold Oper.wp execOp
  simp only [ho, hx, hy, Instr.storeAt, Instr.sureAddr, Sem.run_bind, Sem.run_pure, Result.andThen_ok, hrun]
  exact hK _ _ h
def encIns (x : Ins) (R : List UInt8) : List UInt8 := encN x.id (encTrm x.t (encN x.pr (encB x.part (encB x.held (encB x.wish (encN x.st (encN x.ma (encN x.dn (encN x.pd R)))))))))
theorem ins_enc (x : Ins) (R : List UInt8) : Wire.flatAll x.ops ++ R = encIns x R := by
  have h : Wire.flatAll x.ops = Wire.flatAll [([x.id], [], [])] ++ (Wire.flatAll x.t.ops ++ Wire.flatAll [([x.pr], [], [x.part, x.held, x.wish]), ([x.st, x.ma, x.dn, x.pd], [], [])]) := by
    unfold Ins.ops
    simp [Wire.flatAll]
  rw [h, List.append_assoc, List.append_assoc, trm_enc]
  simp [encIns, encN, encB, Wire.flatAll, Wire.flat3, Wire.flatN, Wire.flatB, Wire.flatT]

set_option maxHeartbeats 40000000 in
set_option maxRecDepth 100000 in
theorem get_any (g : Nat) (s : ByteArray) (k : Nat) (R : List UInt8) (x : Ins) (hx : ∀ t ∈ x.t.texts, t.size ≤ 1000) (hf : x.Fits) (hs : s.size ≤ 1000000000) (w : World) (h : RdAt g 0 s k w) (hr : Rest s k (encIns x R)) :
    Calls Try.prog 24 #[.pointer (some ⟨g, 0, none⟩)] w fun e w' => ∃ k', e = .returned (.agg x.cells) ∧ Rest s k' R ∧ RdAt g 0 s k' w' ∧ Mv [g] [g] w w' := by
  have n0 := Lib.hid hf.id
  have n5 := Lib.hid hf.pr
  have n1 := Lib.hid (hf.nums x.st (by simp))
  have n2 := Lib.hid (hf.nums x.ma (by simp))
  have n3 := Lib.hid (hf.nums x.dn (by simp))
  have n4 := Lib.hid (hf.nums x.pd (by simp))
  obtain ⟨id, ⟨p, a, m, o, dl, ss, c, r, q, am, dy, td⟩, pr, part, held, wish, st, ma, dn, pd⟩ := x
  have GT : Hid (∀ (k : Nat) (R : List UInt8) (w : World), RdAt g 0 s k w → Rest s k (encTrm ⟨p, a, m, o, dl, ss, c, r, q, am, dy, td⟩ R) → Calls Try.prog 27 #[.pointer (some ⟨g, 0, none⟩)] w fun e w' => ∃ k', e = .returned (.agg #[.string p, .string a, .string m, .string o, .bool dl, .string ss, .string c, .string r, .int .i64 q, .int .i64 am, .int .i64 dy, .int .i64 td]) ∧ Rest s k' R ∧ RdAt g 0 s k' w' ∧ Mv [g] [g] w w') := fun k R w h1 h2 => getTerm_any g s k R ⟨p, a, m, o, dl, ss, c, r, q, am, dy, td⟩ hx (fun v hv => hf.t.nums v hv) hs w h1 h2
  clear hx hf
  have HE0 := Lib.hid hr
  have hgl := h.lt
  obtain ⟨W0, hW0⟩ : ∃ W0, w.alloc (.cells #[.int .i64 0, .string ⟨#[]⟩, .string ⟨#[]⟩, .string ⟨#[]⟩, .string ⟨#[]⟩, .bool false, .string ⟨#[]⟩, .string ⟨#[]⟩, .string ⟨#[]⟩, .int .i64 0, .int .i64 0, .int .i64 0, .int .i64 0, .int .i64 0, .bool false, .bool false, .bool false, .int .i64 0, .int .i64 0, .int .i64 0, .int .i64 0] 25) = W0 := ⟨_, rfl⟩
  have HC0 : Hid (W0.heap[w.heap.size]? = some (.cells #[.int .i64 0, .string ⟨#[]⟩, .string ⟨#[]⟩, .string ⟨#[]⟩, .string ⟨#[]⟩, .bool false, .string ⟨#[]⟩, .string ⟨#[]⟩, .string ⟨#[]⟩, .int .i64 0, .int .i64 0, .int .i64 0, .int .i64 0, .int .i64 0, .bool false, .bool false, .bool false, .int .i64 0, .int .i64 0, .int .i64 0, .int .i64 0] 25 (0, 0))) := by show _ = _; rw [← hW0]; exact heap_alloc_new w _
  have hbw : Below w.heap.size w W0 := by rw [← hW0]; exact (Below.refl _ _).alloc (Nat.le_refl _) _
  have HR0 : Hid (RdAt g 0 s k W0) := h.below hbw
  have HM0 : Hid (Mv [g] [g] w W0) := Mv.of_new hbw (fun _ h => .inl h)
  have HW0 := Lib.hid hW0
  clear hr h hW0 hbw
  go_enter Try.func24, Try.ntmps24
  go_wp2_with fail
  rw [HW0.out]
  obtain ⟨b2, hb2⟩ : ∃ b2, w.heap.size = b2 := ⟨_, rfl⟩
  rw [hb2] at HC0 hgl ⊢
  have HB2 := Lib.hid hb2
  have g2 : b2 ≠ g := by omega
  clear HW0 hb2 hgl
  refine (readNum_any g s id _ _ n0.out hs _ HR0.out HE0.out).mono ?_
  rintro e w1 ⟨rfl, k1, hr, he, hm⟩
  have hc := (hm.block b2 (Blk.lt (t := 25) HC0.out) (by simpa using g2)).trans HC0.out
  have hbn : Below w1.heap.size w1 (w1.alloc (.cells #[.int .i64 id, .string ⟨#[]⟩, .string ⟨#[]⟩, .string ⟨#[]⟩, .string ⟨#[]⟩, .bool false, .string ⟨#[]⟩, .string ⟨#[]⟩, .string ⟨#[]⟩, .int .i64 0, .int .i64 0, .int .i64 0, .int .i64 0, .int .i64 0, .bool false, .bool false, .bool false, .int .i64 0, .int .i64 0, .int .i64 0, .int .i64 0] 25)) := (Below.refl _ _).alloc (Nat.le_refl _) _
  have hlt2 := Blk.lt (t := 25) hc
  have hltg := hr.lt
  obtain ⟨V1, hV⟩ : ∃ V1, w1.alloc (.cells #[.int .i64 id, .string ⟨#[]⟩, .string ⟨#[]⟩, .string ⟨#[]⟩, .string ⟨#[]⟩, .bool false, .string ⟨#[]⟩, .string ⟨#[]⟩, .string ⟨#[]⟩, .int .i64 0, .int .i64 0, .int .i64 0, .int .i64 0, .int .i64 0, .bool false, .bool false, .bool false, .int .i64 0, .int .i64 0, .int .i64 0, .int .i64 0] 25) = V1 := ⟨_, rfl⟩
  have hb := heap_alloc_new w1 (.cells #[.int .i64 id, .string ⟨#[]⟩, .string ⟨#[]⟩, .string ⟨#[]⟩, .string ⟨#[]⟩, .bool false, .string ⟨#[]⟩, .string ⟨#[]⟩, .string ⟨#[]⟩, .int .i64 0, .int .i64 0, .int .i64 0, .int .i64 0, .int .i64 0, .bool false, .bool false, .bool false, .int .i64 0, .int .i64 0, .int .i64 0, .int .i64 0] 25)
  have hwz : w.heap.size ≤ w1.heap.size := (HM0.out.trans hm).size
  have HR1 := Lib.hid (hr.below hbn)
  have HC1 := Lib.hid ((hbn.block b2 hlt2).trans hc)
  have HM1 := Lib.hid ((HM0.out.trans hm).trans (Mv.of_new (S' := [g]) hbn (fun _ h => .inl h)))
  have HE1 := Lib.hid he
  obtain ⟨b3, hb3⟩ : ∃ b3, w1.heap.size = b3 := ⟨_, rfl⟩
  rw [hV] at hb HR1 HC1 HM1
  rw [hb3] at hb hlt2 hltg hwz
  have d32 : b3 ≠ b2 := by omega
  have g3 : b3 ≠ g := by omega
  have hw3 : w.heap.size ≤ b3 := hwz
  have HB1 := Lib.hid hb
  have HV := Lib.hid hV; have HB3 := Lib.hid hb3
  clear hr he hm hc hbn hlt2 hltg hV hb hwz hb3 HC0 HR0 HM0 HE0
  go_wp2_with (refine wpList_store_last rfl 25 _ _ rfl _ 25 _ _ rfl rfl (by exact size_inst) (by rfl) (by simp [Value.oneCell']) ?_)
  rw [HV.out, HB3.out]
  clear HV HB3
  refine (GT.out _ _ _ HR1.out HE1.out).mono ?_
  rintro e w2 ⟨k2, rfl, he, hr, hm⟩
  have hb := (hm.block b3 (Blk.lt (t := 25) HB1.out) (by simpa using g3)).trans HB1.out
  have hc := (hm.block b2 (Blk.lt (t := 25) HC1.out) (by simpa using g2)).trans HC1.out
  have HBP := Lib.hid hb
  obtain ⟨V2, hV⟩ : ∃ V2, w2.setCells b3 1 [.string p, .string a, .string m, .string o, .bool dl, .string ss, .string c, .string r, .int .i64 q, .int .i64 am, .int .i64 dy, .int .i64 td] = V2 := ⟨_, rfl⟩
  have HB2_ : Hid (V2.heap[b3]? = some (.cells #[.int .i64 id, .string p, .string a, .string m, .string o, .bool dl, .string ss, .string c, .string r, .int .i64 q, .int .i64 am, .int .i64 dy, .int .i64 td, .int .i64 0, .bool false, .bool false, .bool false, .int .i64 0, .int .i64 0, .int .i64 0, .int .i64 0] 25 (0, 0))) := by
    show _ = _
    rw [← hV]
    have hq := setCells_blk [.string p, .string a, .string m, .string o, .bool dl, .string ss, .string c, .string r, .int .i64 q, .int .i64 am, .int .i64 dy, .int .i64 td] 1 _ _ hb
    simp only [setArr, List.setIfInBounds_toArray, List.set_cons_zero, List.set_cons_succ, Nat.reduceAdd] at hq
    exact hq
  have HC2 : Hid (V2.heap[b2]? = some (.cells #[.int .i64 0, .string ⟨#[]⟩, .string ⟨#[]⟩, .string ⟨#[]⟩, .string ⟨#[]⟩, .bool false, .string ⟨#[]⟩, .string ⟨#[]⟩, .string ⟨#[]⟩, .int .i64 0, .int .i64 0, .int .i64 0, .int .i64 0, .int .i64 0, .bool false, .bool false, .bool false, .int .i64 0, .int .i64 0, .int .i64 0, .int .i64 0] 25 (0, 0))) := by show _ = _; rw [← hV, setCells_other d32.symm]; exact hc
  have HR2 : Hid (RdAt g 0 s k2 V2) := by show _ = _; rw [← hV, setCells_other g3.symm]; exact hr
  have HM2 : Hid (Mv [g] [g] w V2) := by show Mv _ _ _ _; rw [← hV]; exact mv_setCellsNew hw3 _ 1 _ (HM1.out.trans hm)
  have HE2 := Lib.hid he
  have HV := Lib.hid hV
  clear hV he hr hm hb hc HB1 HC1 HR1 HM1 HE1 GT
  have q1 : (Try.prog.info? 23).map (·.size) = some ([.string p, .string a, .string m, .string o, .bool dl, .string ss, .string c, .string r, .int .i64 q, .int .i64 am, .int .i64 dy, .int .i64 td] : List Value).length := size_term
  have q2 : ∀ v ∈ ([.string p, .string a, .string m, .string o, .bool dl, .string ss, .string c, .string r, .int .i64 q, .int .i64 am, .int .i64 dy, .int .i64 td] : List Value), v.oneCell' = true := by
    intro v hv
    simp only [List.mem_cons, List.not_mem_nil, or_false] at hv
    rcases hv with rfl | rfl | rfl | rfl | rfl | rfl | rfl | rfl | rfl | rfl | rfl | rfl <;> rfl
  have q3 : 1 + ([.string p, .string a, .string m, .string o, .bool dl, .string ss, .string c, .string r, .int .i64 q, .int .i64 am, .int .i64 dy, .int .i64 td] : List Value).length ≤ (#[.int .i64 id, .string ⟨#[]⟩, .string ⟨#[]⟩, .string ⟨#[]⟩, .string ⟨#[]⟩, .bool false, .string ⟨#[]⟩, .string ⟨#[]⟩, .string ⟨#[]⟩, .int .i64 0, .int .i64 0, .int .i64 0, .int .i64 0, .int .i64 0, .bool false, .bool false, .bool false, .int .i64 0, .int .i64 0, .int .i64 0, .int .i64 0] : Array Value).size := by simp
  have Q1 := Lib.hid q1
  have Q2 := Lib.hid q2
  have Q3 := Lib.hid q3
  clear q1 q2 q3
  go_wp2_with (refine wpList_store_part rfl 23 _ _ rfl b3 1 [.string p, .string a, .string m, .string o, .bool dl, .string ss, .string c, .string r, .int .i64 q, .int .i64 am, .int .i64 dy, .int .i64 td] rfl rfl 25 _ HBP.out Q1.out Q3.out Q2.out ?_; rw [HV.out])
  clear HV HBP
  refine (readNum_any g s pr _ _ n5.out hs _ HR2.out HE2.out).mono ?_
  rintro e w3 ⟨rfl, k3, hr, he, hm⟩
  have hb := (hm.block b3 (Blk.lt (t := 25) HB2_.out) (by simpa using g3)).trans HB2_.out
  have hc := (hm.block b2 (Blk.lt (t := 25) HC2.out) (by simpa using g2)).trans HC2.out
  have oc : w3.cell? ⟨b3, 13, none⟩ = some (.int .i64 0) := by rw [Lib.cell_of_heap hb]; rfl
  have of : w3.frozen? ⟨b3, 13, none⟩ = false := Lib.frozen_of_heap hb 13
  obtain ⟨V3, hV⟩ : ∃ V3, w3.setCell ⟨b3, 13, none⟩ (.int .i64 pr) = V3 := ⟨_, rfl⟩
  have HB3 : Hid (V3.heap[b3]? = some (.cells #[.int .i64 id, .string p, .string a, .string m, .string o, .bool dl, .string ss, .string c, .string r, .int .i64 q, .int .i64 am, .int .i64 dy, .int .i64 td, .int .i64 pr, .bool false, .bool false, .bool false, .int .i64 0, .int .i64 0, .int .i64 0, .int .i64 0] 25 (0, 0))) := by show _ = _; rw [← hV]; exact Blk.set_ (show Blk w3 b3 25 _ from hb) 13 _
  have HC3 : Hid (V3.heap[b2]? = some (.cells #[.int .i64 0, .string ⟨#[]⟩, .string ⟨#[]⟩, .string ⟨#[]⟩, .string ⟨#[]⟩, .bool false, .string ⟨#[]⟩, .string ⟨#[]⟩, .string ⟨#[]⟩, .int .i64 0, .int .i64 0, .int .i64 0, .int .i64 0, .int .i64 0, .bool false, .bool false, .bool false, .int .i64 0, .int .i64 0, .int .i64 0, .int .i64 0] 25 (0, 0))) := by show _ = _; rw [← hV, Below.heap_setCell _ _ _ _ (show b2 ≠ b3 from d32.symm)]; exact hc
  have HR3 : Hid (RdAt g 0 s k3 V3) := by show _ = _; rw [← hV, Below.heap_setCell _ _ _ _ (show g ≠ b3 from g3.symm)]; exact hr
  have HM3 : Hid (Mv [g] [g] w V3) := by show Mv _ _ _ _; rw [← hV]; exact mv_setNew (HM2.out.trans hm) hw3 _ _
  have HE3 := Lib.hid he
  have HV := Lib.hid hV
  have hsz : w3.heap.size = V3.heap.size := by rw [← hV]; simp
  clear hV hr he hm hb hc HB2_ HC2 HR2 HM2 HE2
  go_wp2_with fail
  rw [HV.out]
  clear HV oc of hsz
  have HP4 : Hid ((V3.alloc (.cells #[.pointer (some ⟨b3, 14, none⟩), .pointer (some ⟨b3, 15, none⟩), .pointer (some ⟨b3, 16, none⟩)] 101)).heap[V3.heap.size]? = some (.cells #[.pointer (some ⟨b3, 14, none⟩), .pointer (some ⟨b3, 15, none⟩), .pointer (some ⟨b3, 16, none⟩)] 101 (0, 0))) := heap_alloc_new _ _
  have hz := Blk.lt (t := 25) HB3.out
  have hz2 := Blk.lt (t := 25) HC3.out
  have hzg := HR3.out.lt
  have db4 : V3.heap.size ≠ b3 := by omega
  have gb4 : V3.heap.size ≠ g := by omega
  have hbn : Below V3.heap.size V3 (V3.alloc (.cells #[.pointer (some ⟨b3, 14, none⟩), .pointer (some ⟨b3, 15, none⟩), .pointer (some ⟨b3, 16, none⟩)] 101)) := (Below.refl _ _).alloc (Nat.le_refl _) _
  have hB := (Below.heap_alloc V3 (.cells #[.pointer (some ⟨b3, 14, none⟩), .pointer (some ⟨b3, 15, none⟩), .pointer (some ⟨b3, 16, none⟩)] 101) b3 hz).trans HB3.out
  have hC := (Below.heap_alloc V3 (.cells #[.pointer (some ⟨b3, 14, none⟩), .pointer (some ⟨b3, 15, none⟩), .pointer (some ⟨b3, 16, none⟩)] 101) b2 hz2).trans HC3.out
  have hR := HR3.out.below hbn
  have hM := HM3.out.trans (Mv.of_new (S' := [g]) hbn (fun _ h => .inl h))
  obtain ⟨U4, hU⟩ : ∃ U, V3.alloc (.cells #[.pointer (some ⟨b3, 14, none⟩), .pointer (some ⟨b3, 15, none⟩), .pointer (some ⟨b3, 16, none⟩)] 101) = U := ⟨_, rfl⟩
  rw [hU] at HP4 hB hC hR hM ⊢
  obtain ⟨b4, hbp⟩ : ∃ b, V3.heap.size = b := ⟨_, rfl⟩
  rw [hbp] at HP4 db4 gb4 ⊢
  have np : U4.cell? ⟨b4, 0, none⟩ = some (.pointer (some ⟨b3, 14, none⟩)) := by rw [Lib.cell_of_heap HP4.out]; rfl
  clear hU hbp hbn hz hz2 hzg HB3 HC3 HR3 HM3
  have HB4 := Lib.hid hB
  have HC4 := Lib.hid hC
  have HR4 := Lib.hid hR
  have HM4 := Lib.hid hM
  clear hB hC hR hM
  refine wp_loop_rounds 4 ?_
  rw [rounds_succ]
  go_wp2_with fail
  clear np
  refine (readBool_any g s part _ _ hs _ HR4.out HE3.out).mono ?_
  rintro e w4 ⟨rfl, k4, hr, he, hm⟩
  have hb := (hm.block b3 (Blk.lt (t := 25) HB4.out) (by simpa using g3)).trans HB4.out
  have hc := (hm.block b2 (Blk.lt (t := 25) HC4.out) (by simpa using g2)).trans HC4.out
  have hp := (hm.block b4 (Blk.lt (t := 101) HP4.out) (by simpa using gb4)).trans HP4.out
  have oc : w4.cell? ⟨b3, 14, none⟩ = some (.bool false) := by rw [Lib.cell_of_heap hb]; rfl
  have of : w4.frozen? ⟨b3, 14, none⟩ = false := Lib.frozen_of_heap hb 14
  obtain ⟨V4, hV⟩ : ∃ V4, w4.setCell ⟨b3, 14, none⟩ (.bool part) = V4 := ⟨_, rfl⟩
  have HB5 : Hid (V4.heap[b3]? = some (.cells #[.int .i64 id, .string p, .string a, .string m, .string o, .bool dl, .string ss, .string c, .string r, .int .i64 q, .int .i64 am, .int .i64 dy, .int .i64 td, .int .i64 pr, .bool part, .bool false, .bool false, .int .i64 0, .int .i64 0, .int .i64 0, .int .i64 0] 25 (0, 0))) := by show _ = _; rw [← hV]; exact Blk.set_ (show Blk w4 b3 25 _ from hb) 14 _
  have HC5 : Hid (V4.heap[b2]? = some (.cells #[.int .i64 0, .string ⟨#[]⟩, .string ⟨#[]⟩, .string ⟨#[]⟩, .string ⟨#[]⟩, .bool false, .string ⟨#[]⟩, .string ⟨#[]⟩, .string ⟨#[]⟩, .int .i64 0, .int .i64 0, .int .i64 0, .int .i64 0, .int .i64 0, .bool false, .bool false, .bool false, .int .i64 0, .int .i64 0, .int .i64 0, .int .i64 0] 25 (0, 0))) := by show _ = _; rw [← hV, Below.heap_setCell _ _ _ _ (show b2 ≠ b3 from d32.symm)]; exact hc
  have HP5 : Hid (V4.heap[b4]? = some (.cells #[.pointer (some ⟨b3, 14, none⟩), .pointer (some ⟨b3, 15, none⟩), .pointer (some ⟨b3, 16, none⟩)] 101 (0, 0))) := by show _ = _; rw [← hV, Below.heap_setCell _ _ _ _ (show b4 ≠ b3 from db4)]; exact hp
  have HR5 : Hid (RdAt g 0 s k4 V4) := by show _ = _; rw [← hV, Below.heap_setCell _ _ _ _ (show g ≠ b3 from g3.symm)]; exact hr
  have HM5 : Hid (Mv [g] [g] w V4) := by show Mv _ _ _ _; rw [← hV]; exact mv_setNew (HM4.out.trans hm) hw3 _ _
  have HE5 := Lib.hid he
  have HV := Lib.hid hV
  have np : V4.cell? ⟨b4, 1, none⟩ = some (.pointer (some ⟨b3, 15, none⟩)) := by rw [Lib.cell_of_heap HP5.out]; rfl
  clear hV hr he hm hb hc hp HB4 HC4 HR4 HM4 HE3 HP4
  go_wp2_with fail
  rw [HV.out]
  clear HV oc of
  rw [rounds_succ]
  go_wp2_with fail
  clear np
  refine (readBool_any g s held _ _ hs _ HR5.out HE5.out).mono ?_
  rintro e w5 ⟨rfl, k5, hr, he, hm⟩
  have hb := (hm.block b3 (Blk.lt (t := 25) HB5.out) (by simpa using g3)).trans HB5.out
  have hc := (hm.block b2 (Blk.lt (t := 25) HC5.out) (by simpa using g2)).trans HC5.out
  have hp := (hm.block b4 (Blk.lt (t := 101) HP5.out) (by simpa using gb4)).trans HP5.out
  have oc : w5.cell? ⟨b3, 15, none⟩ = some (.bool false) := by rw [Lib.cell_of_heap hb]; rfl
  have of : w5.frozen? ⟨b3, 15, none⟩ = false := Lib.frozen_of_heap hb 15
  obtain ⟨V5, hV⟩ : ∃ V5, w5.setCell ⟨b3, 15, none⟩ (.bool held) = V5 := ⟨_, rfl⟩
  have HB6 : Hid (V5.heap[b3]? = some (.cells #[.int .i64 id, .string p, .string a, .string m, .string o, .bool dl, .string ss, .string c, .string r, .int .i64 q, .int .i64 am, .int .i64 dy, .int .i64 td, .int .i64 pr, .bool part, .bool held, .bool false, .int .i64 0, .int .i64 0, .int .i64 0, .int .i64 0] 25 (0, 0))) := by show _ = _; rw [← hV]; exact Blk.set_ (show Blk w5 b3 25 _ from hb) 15 _
  have HC6 : Hid (V5.heap[b2]? = some (.cells #[.int .i64 0, .string ⟨#[]⟩, .string ⟨#[]⟩, .string ⟨#[]⟩, .string ⟨#[]⟩, .bool false, .string ⟨#[]⟩, .string ⟨#[]⟩, .string ⟨#[]⟩, .int .i64 0, .int .i64 0, .int .i64 0, .int .i64 0, .int .i64 0, .bool false, .bool false, .bool false, .int .i64 0, .int .i64 0, .int .i64 0, .int .i64 0] 25 (0, 0))) := by show _ = _; rw [← hV, Below.heap_setCell _ _ _ _ (show b2 ≠ b3 from d32.symm)]; exact hc
  have HP6 : Hid (V5.heap[b4]? = some (.cells #[.pointer (some ⟨b3, 14, none⟩), .pointer (some ⟨b3, 15, none⟩), .pointer (some ⟨b3, 16, none⟩)] 101 (0, 0))) := by show _ = _; rw [← hV, Below.heap_setCell _ _ _ _ (show b4 ≠ b3 from db4)]; exact hp
  have HR6 : Hid (RdAt g 0 s k5 V5) := by show _ = _; rw [← hV, Below.heap_setCell _ _ _ _ (show g ≠ b3 from g3.symm)]; exact hr
  have HM6 : Hid (Mv [g] [g] w V5) := by show Mv _ _ _ _; rw [← hV]; exact mv_setNew (HM5.out.trans hm) hw3 _ _
  have HE6 := Lib.hid he
  have HV := Lib.hid hV
  have np : V5.cell? ⟨b4, 2, none⟩ = some (.pointer (some ⟨b3, 16, none⟩)) := by rw [Lib.cell_of_heap HP6.out]; rfl
  clear hV hr he hm hb hc hp HB5 HC5 HR5 HM5 HE5 HP5
  go_wp2_with fail
  rw [HV.out]
  clear HV oc of
  rw [rounds_succ]
  go_wp2_with fail
  clear np
  refine (readBool_any g s wish _ _ hs _ HR6.out HE6.out).mono ?_
  rintro e w6 ⟨rfl, k6, hr, he, hm⟩
  have hb := (hm.block b3 (Blk.lt (t := 25) HB6.out) (by simpa using g3)).trans HB6.out
  have hc := (hm.block b2 (Blk.lt (t := 25) HC6.out) (by simpa using g2)).trans HC6.out
  have hp := (hm.block b4 (Blk.lt (t := 101) HP6.out) (by simpa using gb4)).trans HP6.out
  have oc : w6.cell? ⟨b3, 16, none⟩ = some (.bool false) := by rw [Lib.cell_of_heap hb]; rfl
  have of : w6.frozen? ⟨b3, 16, none⟩ = false := Lib.frozen_of_heap hb 16
  obtain ⟨V6, hV⟩ : ∃ V6, w6.setCell ⟨b3, 16, none⟩ (.bool wish) = V6 := ⟨_, rfl⟩
  have HB7 : Hid (V6.heap[b3]? = some (.cells #[.int .i64 id, .string p, .string a, .string m, .string o, .bool dl, .string ss, .string c, .string r, .int .i64 q, .int .i64 am, .int .i64 dy, .int .i64 td, .int .i64 pr, .bool part, .bool held, .bool wish, .int .i64 0, .int .i64 0, .int .i64 0, .int .i64 0] 25 (0, 0))) := by show _ = _; rw [← hV]; exact Blk.set_ (show Blk w6 b3 25 _ from hb) 16 _
  have HC7 : Hid (V6.heap[b2]? = some (.cells #[.int .i64 0, .string ⟨#[]⟩, .string ⟨#[]⟩, .string ⟨#[]⟩, .string ⟨#[]⟩, .bool false, .string ⟨#[]⟩, .string ⟨#[]⟩, .string ⟨#[]⟩, .int .i64 0, .int .i64 0, .int .i64 0, .int .i64 0, .int .i64 0, .bool false, .bool false, .bool false, .int .i64 0, .int .i64 0, .int .i64 0, .int .i64 0] 25 (0, 0))) := by show _ = _; rw [← hV, Below.heap_setCell _ _ _ _ (show b2 ≠ b3 from d32.symm)]; exact hc
  have HP7 : Hid (V6.heap[b4]? = some (.cells #[.pointer (some ⟨b3, 14, none⟩), .pointer (some ⟨b3, 15, none⟩), .pointer (some ⟨b3, 16, none⟩)] 101 (0, 0))) := by show _ = _; rw [← hV, Below.heap_setCell _ _ _ _ (show b4 ≠ b3 from db4)]; exact hp
  have HR7 : Hid (RdAt g 0 s k6 V6) := by show _ = _; rw [← hV, Below.heap_setCell _ _ _ _ (show g ≠ b3 from g3.symm)]; exact hr
  have HM7 : Hid (Mv [g] [g] w V6) := by show Mv _ _ _ _; rw [← hV]; exact mv_setNew (HM6.out.trans hm) hw3 _ _
  have HE7 := Lib.hid he
  have HV := Lib.hid hV
  clear hV hr he hm hb hc hp HB6 HC6 HR6 HM6 HE6 HP6
  go_wp2_with fail
  rw [HV.out]
  clear HV oc of
  rw [rounds_succ]
  go_wp2_with fail
  have HP8 : Hid ((V6.alloc (.cells #[.pointer (some ⟨b3, 17, none⟩), .pointer (some ⟨b3, 18, none⟩), .pointer (some ⟨b3, 19, none⟩), .pointer (some ⟨b3, 20, none⟩)] 103)).heap[V6.heap.size]? = some (.cells #[.pointer (some ⟨b3, 17, none⟩), .pointer (some ⟨b3, 18, none⟩), .pointer (some ⟨b3, 19, none⟩), .pointer (some ⟨b3, 20, none⟩)] 103 (0, 0))) := heap_alloc_new _ _
  have hz := Blk.lt (t := 25) HB7.out
  have hz2 := Blk.lt (t := 25) HC7.out
  have hzg := HR7.out.lt
  have db5 : V6.heap.size ≠ b3 := by omega
  have gb5 : V6.heap.size ≠ g := by omega
  have hbn : Below V6.heap.size V6 (V6.alloc (.cells #[.pointer (some ⟨b3, 17, none⟩), .pointer (some ⟨b3, 18, none⟩), .pointer (some ⟨b3, 19, none⟩), .pointer (some ⟨b3, 20, none⟩)] 103)) := (Below.refl _ _).alloc (Nat.le_refl _) _
  have hB := (Below.heap_alloc V6 (.cells #[.pointer (some ⟨b3, 17, none⟩), .pointer (some ⟨b3, 18, none⟩), .pointer (some ⟨b3, 19, none⟩), .pointer (some ⟨b3, 20, none⟩)] 103) b3 hz).trans HB7.out
  have hC := (Below.heap_alloc V6 (.cells #[.pointer (some ⟨b3, 17, none⟩), .pointer (some ⟨b3, 18, none⟩), .pointer (some ⟨b3, 19, none⟩), .pointer (some ⟨b3, 20, none⟩)] 103) b2 hz2).trans HC7.out
  have hR := HR7.out.below hbn
  have hM := HM7.out.trans (Mv.of_new (S' := [g]) hbn (fun _ h => .inl h))
  obtain ⟨U8, hU⟩ : ∃ U, V6.alloc (.cells #[.pointer (some ⟨b3, 17, none⟩), .pointer (some ⟨b3, 18, none⟩), .pointer (some ⟨b3, 19, none⟩), .pointer (some ⟨b3, 20, none⟩)] 103) = U := ⟨_, rfl⟩
  rw [hU] at HP8 hB hC hR hM ⊢
  obtain ⟨b5, hbp⟩ : ∃ b, V6.heap.size = b := ⟨_, rfl⟩
  rw [hbp] at HP8 db5 gb5 ⊢
  have np : U8.cell? ⟨b5, 0, none⟩ = some (.pointer (some ⟨b3, 17, none⟩)) := by rw [Lib.cell_of_heap HP8.out]; rfl
  clear hU hbp hbn hz hz2 hzg HB7 HC7 HR7 HM7
  have HB8 := Lib.hid hB
  have HC8 := Lib.hid hC
  have HR8 := Lib.hid hR
  have HM8 := Lib.hid hM
  clear hB hC hR hM
  refine wp_loop_rounds 5 ?_
  rw [rounds_succ]
  go_wp2_with fail
  clear np
  refine (readNum_any g s st _ _ n1.out hs _ HR8.out HE7.out).mono ?_
  rintro e w7 ⟨rfl, k7, hr, he, hm⟩
  have hb := (hm.block b3 (Blk.lt (t := 25) HB8.out) (by simpa using g3)).trans HB8.out
  have hc := (hm.block b2 (Blk.lt (t := 25) HC8.out) (by simpa using g2)).trans HC8.out
  have hp := (hm.block b5 (Blk.lt (t := 103) HP8.out) (by simpa using gb5)).trans HP8.out
  have oc : w7.cell? ⟨b3, 17, none⟩ = some (.int .i64 0) := by rw [Lib.cell_of_heap hb]; rfl
  have of : w7.frozen? ⟨b3, 17, none⟩ = false := Lib.frozen_of_heap hb 17
  obtain ⟨V7, hV⟩ : ∃ V7, w7.setCell ⟨b3, 17, none⟩ (.int .i64 st) = V7 := ⟨_, rfl⟩
  have HB9 : Hid (V7.heap[b3]? = some (.cells #[.int .i64 id, .string p, .string a, .string m, .string o, .bool dl, .string ss, .string c, .string r, .int .i64 q, .int .i64 am, .int .i64 dy, .int .i64 td, .int .i64 pr, .bool part, .bool held, .bool wish, .int .i64 st, .int .i64 0, .int .i64 0, .int .i64 0] 25 (0, 0))) := by show _ = _; rw [← hV]; exact Blk.set_ (show Blk w7 b3 25 _ from hb) 17 _
  have HC9 : Hid (V7.heap[b2]? = some (.cells #[.int .i64 0, .string ⟨#[]⟩, .string ⟨#[]⟩, .string ⟨#[]⟩, .string ⟨#[]⟩, .bool false, .string ⟨#[]⟩, .string ⟨#[]⟩, .string ⟨#[]⟩, .int .i64 0, .int .i64 0, .int .i64 0, .int .i64 0, .int .i64 0, .bool false, .bool false, .bool false, .int .i64 0, .int .i64 0, .int .i64 0, .int .i64 0] 25 (0, 0))) := by show _ = _; rw [← hV, Below.heap_setCell _ _ _ _ (show b2 ≠ b3 from d32.symm)]; exact hc
  have HP9 : Hid (V7.heap[b5]? = some (.cells #[.pointer (some ⟨b3, 17, none⟩), .pointer (some ⟨b3, 18, none⟩), .pointer (some ⟨b3, 19, none⟩), .pointer (some ⟨b3, 20, none⟩)] 103 (0, 0))) := by show _ = _; rw [← hV, Below.heap_setCell _ _ _ _ (show b5 ≠ b3 from db5)]; exact hp
  have HR9 : Hid (RdAt g 0 s k7 V7) := by show _ = _; rw [← hV, Below.heap_setCell _ _ _ _ (show g ≠ b3 from g3.symm)]; exact hr
  have HM9 : Hid (Mv [g] [g] w V7) := by show Mv _ _ _ _; rw [← hV]; exact mv_setNew (HM8.out.trans hm) hw3 _ _
  have HE9 := Lib.hid he
  have HV := Lib.hid hV
  have np : V7.cell? ⟨b5, 1, none⟩ = some (.pointer (some ⟨b3, 18, none⟩)) := by rw [Lib.cell_of_heap HP9.out]; rfl
  clear hV hr he hm hb hc hp HB8 HC8 HR8 HM8 HE7 HP8
  go_wp2_with fail
  rw [HV.out]
  clear HV oc of
  rw [rounds_succ]
  go_wp2_with fail
  clear np
  refine (readNum_any g s ma _ _ n2.out hs _ HR9.out HE9.out).mono ?_
  rintro e w8 ⟨rfl, k8, hr, he, hm⟩
  have hb := (hm.block b3 (Blk.lt (t := 25) HB9.out) (by simpa using g3)).trans HB9.out
  have hc := (hm.block b2 (Blk.lt (t := 25) HC9.out) (by simpa using g2)).trans HC9.out
  have hp := (hm.block b5 (Blk.lt (t := 103) HP9.out) (by simpa using gb5)).trans HP9.out
  have oc : w8.cell? ⟨b3, 18, none⟩ = some (.int .i64 0) := by rw [Lib.cell_of_heap hb]; rfl
  have of : w8.frozen? ⟨b3, 18, none⟩ = false := Lib.frozen_of_heap hb 18
  obtain ⟨V8, hV⟩ : ∃ V8, w8.setCell ⟨b3, 18, none⟩ (.int .i64 ma) = V8 := ⟨_, rfl⟩
  have HB10 : Hid (V8.heap[b3]? = some (.cells #[.int .i64 id, .string p, .string a, .string m, .string o, .bool dl, .string ss, .string c, .string r, .int .i64 q, .int .i64 am, .int .i64 dy, .int .i64 td, .int .i64 pr, .bool part, .bool held, .bool wish, .int .i64 st, .int .i64 ma, .int .i64 0, .int .i64 0] 25 (0, 0))) := by show _ = _; rw [← hV]; exact Blk.set_ (show Blk w8 b3 25 _ from hb) 18 _
  have HC10 : Hid (V8.heap[b2]? = some (.cells #[.int .i64 0, .string ⟨#[]⟩, .string ⟨#[]⟩, .string ⟨#[]⟩, .string ⟨#[]⟩, .bool false, .string ⟨#[]⟩, .string ⟨#[]⟩, .string ⟨#[]⟩, .int .i64 0, .int .i64 0, .int .i64 0, .int .i64 0, .int .i64 0, .bool false, .bool false, .bool false, .int .i64 0, .int .i64 0, .int .i64 0, .int .i64 0] 25 (0, 0))) := by show _ = _; rw [← hV, Below.heap_setCell _ _ _ _ (show b2 ≠ b3 from d32.symm)]; exact hc
  have HP10 : Hid (V8.heap[b5]? = some (.cells #[.pointer (some ⟨b3, 17, none⟩), .pointer (some ⟨b3, 18, none⟩), .pointer (some ⟨b3, 19, none⟩), .pointer (some ⟨b3, 20, none⟩)] 103 (0, 0))) := by show _ = _; rw [← hV, Below.heap_setCell _ _ _ _ (show b5 ≠ b3 from db5)]; exact hp
  have HR10 : Hid (RdAt g 0 s k8 V8) := by show _ = _; rw [← hV, Below.heap_setCell _ _ _ _ (show g ≠ b3 from g3.symm)]; exact hr
  have HM10 : Hid (Mv [g] [g] w V8) := by show Mv _ _ _ _; rw [← hV]; exact mv_setNew (HM9.out.trans hm) hw3 _ _
  have HE10 := Lib.hid he
  have HV := Lib.hid hV
  have np : V8.cell? ⟨b5, 2, none⟩ = some (.pointer (some ⟨b3, 19, none⟩)) := by rw [Lib.cell_of_heap HP10.out]; rfl
  clear hV hr he hm hb hc hp HB9 HC9 HR9 HM9 HE9 HP9
  go_wp2_with fail
  rw [HV.out]
  clear HV oc of
  rw [rounds_succ]
  go_wp2_with fail
  clear np
  refine (readNum_any g s dn _ _ n3.out hs _ HR10.out HE10.out).mono ?_
  rintro e w9 ⟨rfl, k9, hr, he, hm⟩
  have hb := (hm.block b3 (Blk.lt (t := 25) HB10.out) (by simpa using g3)).trans HB10.out
  have hc := (hm.block b2 (Blk.lt (t := 25) HC10.out) (by simpa using g2)).trans HC10.out
  have hp := (hm.block b5 (Blk.lt (t := 103) HP10.out) (by simpa using gb5)).trans HP10.out
  have oc : w9.cell? ⟨b3, 19, none⟩ = some (.int .i64 0) := by rw [Lib.cell_of_heap hb]; rfl
  have of : w9.frozen? ⟨b3, 19, none⟩ = false := Lib.frozen_of_heap hb 19
  obtain ⟨V9, hV⟩ : ∃ V9, w9.setCell ⟨b3, 19, none⟩ (.int .i64 dn) = V9 := ⟨_, rfl⟩
  have HB11 : Hid (V9.heap[b3]? = some (.cells #[.int .i64 id, .string p, .string a, .string m, .string o, .bool dl, .string ss, .string c, .string r, .int .i64 q, .int .i64 am, .int .i64 dy, .int .i64 td, .int .i64 pr, .bool part, .bool held, .bool wish, .int .i64 st, .int .i64 ma, .int .i64 dn, .int .i64 0] 25 (0, 0))) := by show _ = _; rw [← hV]; exact Blk.set_ (show Blk w9 b3 25 _ from hb) 19 _
  have HC11 : Hid (V9.heap[b2]? = some (.cells #[.int .i64 0, .string ⟨#[]⟩, .string ⟨#[]⟩, .string ⟨#[]⟩, .string ⟨#[]⟩, .bool false, .string ⟨#[]⟩, .string ⟨#[]⟩, .string ⟨#[]⟩, .int .i64 0, .int .i64 0, .int .i64 0, .int .i64 0, .int .i64 0, .bool false, .bool false, .bool false, .int .i64 0, .int .i64 0, .int .i64 0, .int .i64 0] 25 (0, 0))) := by show _ = _; rw [← hV, Below.heap_setCell _ _ _ _ (show b2 ≠ b3 from d32.symm)]; exact hc
  have HP11 : Hid (V9.heap[b5]? = some (.cells #[.pointer (some ⟨b3, 17, none⟩), .pointer (some ⟨b3, 18, none⟩), .pointer (some ⟨b3, 19, none⟩), .pointer (some ⟨b3, 20, none⟩)] 103 (0, 0))) := by show _ = _; rw [← hV, Below.heap_setCell _ _ _ _ (show b5 ≠ b3 from db5)]; exact hp
  have HR11 : Hid (RdAt g 0 s k9 V9) := by show _ = _; rw [← hV, Below.heap_setCell _ _ _ _ (show g ≠ b3 from g3.symm)]; exact hr
  have HM11 : Hid (Mv [g] [g] w V9) := by show Mv _ _ _ _; rw [← hV]; exact mv_setNew (HM10.out.trans hm) hw3 _ _
  have HE11 := Lib.hid he
  have HV := Lib.hid hV
  have np : V9.cell? ⟨b5, 3, none⟩ = some (.pointer (some ⟨b3, 20, none⟩)) := by rw [Lib.cell_of_heap HP11.out]; rfl
  clear hV hr he hm hb hc hp HB10 HC10 HR10 HM10 HE10 HP10
  go_wp2_with fail
  rw [HV.out]
  clear HV oc of
  rw [rounds_succ]
  go_wp2_with fail
  clear np
  refine (readNum_any g s pd _ _ n4.out hs _ HR11.out HE11.out).mono ?_
  rintro e w10 ⟨rfl, k10, hr, he, hm⟩
  have hb := (hm.block b3 (Blk.lt (t := 25) HB11.out) (by simpa using g3)).trans HB11.out
  have hc := (hm.block b2 (Blk.lt (t := 25) HC11.out) (by simpa using g2)).trans HC11.out
  have hp := (hm.block b5 (Blk.lt (t := 103) HP11.out) (by simpa using gb5)).trans HP11.out
  have oc : w10.cell? ⟨b3, 20, none⟩ = some (.int .i64 0) := by rw [Lib.cell_of_heap hb]; rfl
  have of : w10.frozen? ⟨b3, 20, none⟩ = false := Lib.frozen_of_heap hb 20
  obtain ⟨V10, hV⟩ : ∃ V10, w10.setCell ⟨b3, 20, none⟩ (.int .i64 pd) = V10 := ⟨_, rfl⟩
  have HB12 : Hid (V10.heap[b3]? = some (.cells #[.int .i64 id, .string p, .string a, .string m, .string o, .bool dl, .string ss, .string c, .string r, .int .i64 q, .int .i64 am, .int .i64 dy, .int .i64 td, .int .i64 pr, .bool part, .bool held, .bool wish, .int .i64 st, .int .i64 ma, .int .i64 dn, .int .i64 pd] 25 (0, 0))) := by show _ = _; rw [← hV]; exact Blk.set_ (show Blk w10 b3 25 _ from hb) 20 _
  have HC12 : Hid (V10.heap[b2]? = some (.cells #[.int .i64 0, .string ⟨#[]⟩, .string ⟨#[]⟩, .string ⟨#[]⟩, .string ⟨#[]⟩, .bool false, .string ⟨#[]⟩, .string ⟨#[]⟩, .string ⟨#[]⟩, .int .i64 0, .int .i64 0, .int .i64 0, .int .i64 0, .int .i64 0, .bool false, .bool false, .bool false, .int .i64 0, .int .i64 0, .int .i64 0, .int .i64 0] 25 (0, 0))) := by show _ = _; rw [← hV, Below.heap_setCell _ _ _ _ (show b2 ≠ b3 from d32.symm)]; exact hc
  have HP12 : Hid (V10.heap[b5]? = some (.cells #[.pointer (some ⟨b3, 17, none⟩), .pointer (some ⟨b3, 18, none⟩), .pointer (some ⟨b3, 19, none⟩), .pointer (some ⟨b3, 20, none⟩)] 103 (0, 0))) := by show _ = _; rw [← hV, Below.heap_setCell _ _ _ _ (show b5 ≠ b3 from db5)]; exact hp
  have HR12 : Hid (RdAt g 0 s k10 V10) := by show _ = _; rw [← hV, Below.heap_setCell _ _ _ _ (show g ≠ b3 from g3.symm)]; exact hr
  have HM12 : Hid (Mv [g] [g] w V10) := by show Mv _ _ _ _; rw [← hV]; exact mv_setNew (HM11.out.trans hm) hw3 _ _
  have HE12 := Lib.hid he
  have HV := Lib.hid hV
  clear hV hr he hm hb hc hp HB11 HC11 HR11 HM11 HE11 HP11
  go_wp2_with fail
  rw [HV.out]
  clear HV oc of
  rw [rounds_succ]
  go_wp2_with fail
  refine (ioff_any g 0 s _ _ HR12.out).mono ?_
  rintro e w20 ⟨rfl, rfl⟩
  go_wp2_with (first
    | (refine wpList_load_named rfl 25 _ rfl b3 rfl _ _ _ HB12.out Try.underlying25 rfl size_inst _ rfl ?_)
    | (refine wpList_store_row rfl 25 _ _ rfl b2 _ rfl rfl _ _ HC12.out size_inst rfl (by simp [Value.oneCell']) ?_))
  have hk := setRow_heap V10 b2 _ #[.int .i64 id, .string p, .string a, .string m, .string o, .bool dl, .string ss, .string c, .string r, .int .i64 q, .int .i64 am, .int .i64 dy, .int .i64 td, .int .i64 pr, .bool part, .bool held, .bool wish, .int .i64 st, .int .i64 ma, .int .i64 dn, .int .i64 pd] _ _ HC12.out
  refine bodyPost_ret (results_cell_row rfl _ _ b2 _ _ _ _ rfl hk Try.underlying25 rfl size_inst) rfl ?_
  have hmv := mv_setRowNew HM12.out (Nat.le_of_eq HB2.out) #[.int .i64 id, .string p, .string a, .string m, .string o, .bool dl, .string ss, .string c, .string r, .int .i64 q, .int .i64 am, .int .i64 dy, .int .i64 td, .int .i64 pr, .bool part, .bool held, .bool wish, .int .i64 st, .int .i64 ma, .int .i64 dn, .int .i64 pd]
  refine ⟨k10, rfl, HE12.out, ?_, hmv⟩
  exact (setRow_other V10 b2 g _ g2.symm).trans HR12.out
end Go.Proofs.Ytkcecijepbceiaa
