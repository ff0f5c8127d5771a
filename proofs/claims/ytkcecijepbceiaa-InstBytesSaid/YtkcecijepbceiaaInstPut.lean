/-
  Package inst as contracts: PutTerm, Put of one.
  Conditions: a writer; what is put lies in a block of its own.
-/
import Derived.Test.YtkcecijepbceiaaInstGetI
namespace Go.Proofs.Ytkcecijepbceiaa
open Go.RowKit

/-- A whole struct read out of cells. -/
theorem wpList_load_cells {P : Program} {ops : Array Oper} {rest : List Oper} {o : Oper} {a : Act} {w : World} {Q : Exit → Act → World → Prop} (hw : Region.wanted o (yielded ops a.tmps) = true) (ty : TypeId) (x : Operand) (ho : o.op = .load ty x)
    (ad : Addr) (hx : a.eval x = .pointer (some ad)) (cs : List Value) (d : TypeDesc) (hc : ∀ j v, cs[j]? = some v → w.cell? (ad.add j) = some v)
    (hu : P.underlying ty = some d) (hd : (match d with | .struct _ | .array _ _ => true | _ => false) = true) (hi : (P.info? ty).map (·.size) = some cs.length)
    (h : wpList P ops Q rest (a.put o.dst (.agg cs.toArray)) w) : wpList P ops Q (o :: rest) a w := by
  refine BigFrame.wpList_want hw fun K hK => ?_
  have hl := run_loadCells_list (P := P) w ad cs hc
  have hrun : (loadVar ty ad).run P w = .ok (.agg cs.toArray) w := by
    cases hq : P.info? ty with
    | none => simp [hq] at hi
    | some i =>
      have hs : i.size = cs.length := by simpa [hq] using hi
      have hagg : (isAgg ty).run P w = .ok true w := by
        unfold isAgg
        rw [Sem.run_bind, run_underlying hu w]
        cases d <;> simp_all
      simp [loadVar, Sem.run_bind, hagg, sizeOf, typeInfo, hq, hs, hl]
  unfold Oper.wp execOp
  simp only [ho, hx, Instr.loadAt, Instr.sureAddr, Sem.run_bind, Sem.run_pure, Result.andThen_ok, hrun]
  exact hK _ _ h
theorem part_cells {w : World} {b : Nat} {T : TypeId} {all : Array Value} (h : w.heap[b]? = some (.cells all T (0, 0))) (off : Nat) (vs : List Value) (hv : ∀ j v, vs[j]? = some v → all[off + j]? = some v) : ∀ j v, vs[j]? = some v → w.cell? ((⟨b, off, none⟩ : Addr).add j) = some v := by
  intro j v hj
  rw [Addr.add_lit, Lib.cell_of_heap h]
  exact hv j v hj
theorem numsNew_any (g : Nat) (S : List Nat) (st : Wire.St) (l : List Int) (n b c : Nat) (w : World) (cs : Array Value) (hcs : cs.toList = ints l) (hn : l.length = n) (hb : b = w.heap.size) (h : WrAt g S st.1 st.2 w) (hN : st.2.length + 10 * n ≤ 1000000000) (hv : ∀ v ∈ l, -9223372036854775808 ≤ v ∧ v ≤ 9223372036854775807) :
    Calls Try.prog 38 #[.pointer (some ⟨g, 0, none⟩), .slice (some ⟨b, 0, none⟩) n c] (w.alloc (.cells cs 3)) fun r w' => r = .returned (.tuple #[]) ∧ ∃ S', WrAt g S' (l.foldl Wire.stNum st).1 (l.foldl Wire.stNum st).2 w' ∧ Mv S S' w w' := by
  subst hn
  refine (nums_any g S st l (some ⟨b, 0, none⟩) c (w.heap.size + 1) _ (h.alloc _) (reads_newV w (ints l) 3 _ hcs (ints_len l) hb (Nat.lt_succ_self _)) (fun ad h' _ => apart_new h hb _ ad h') hN hv).mono ?_
  rintro e w' ⟨rfl, S', hw, hm⟩
  exact ⟨rfl, S', hw, ((Mv.refl _ _).alloc _).trans hm⟩
theorem textsNew_any (g : Nat) (S : List Nat) (st : Wire.St) (l : List ByteArray) (n b c : Nat) (w : World) (cs : Array Value) (hcs : cs.toList = strs l) (hn : l.length = n) (hb : b = w.heap.size) (h : WrAt g S st.1 st.2 w) (hN : st.2.length + 1010 * n ≤ 1000000000) (hv : ∀ s ∈ l, s.size ≤ 9223372036854775807) :
    Calls Try.prog 40 #[.pointer (some ⟨g, 0, none⟩), .slice (some ⟨b, 0, none⟩) n c] (w.alloc (.cells cs 9)) fun r w' => r = .returned (.tuple #[]) ∧ ∃ S', WrAt g S' ((l.map (·.data.toList)).foldl Wire.stText st).1 ((l.map (·.data.toList)).foldl Wire.stText st).2 w' ∧ Mv S S' w w' := by
  subst hn
  refine (texts_any g S st l (some ⟨b, 0, none⟩) c (w.heap.size + 1) _ (h.alloc _) (reads_newV w (strs l) 9 _ hcs (strs_len l) hb (Nat.lt_succ_self _)) (fun ad h' _ => apart_new h hb _ ad h') hN hv).mono ?_
  rintro e w' ⟨rfl, S', hw, hm⟩
  exact ⟨rfl, S', hw, ((Mv.refl _ _).alloc _).trans hm⟩
theorem boolsNew_any (g : Nat) (S : List Nat) (st : Wire.St) (l : List Bool) (n b c : Nat) (w : World) (cs : Array Value) (hcs : cs.toList = bools l) (hn : l.length = n) (hb : b = w.heap.size) (h : WrAt g S st.1 st.2 w) (hN : st.2.length + n ≤ 1000000000) :
    Calls Try.prog 39 #[.pointer (some ⟨g, 0, none⟩), .slice (some ⟨b, 0, none⟩) n c] (w.alloc (.cells cs 4)) fun r w' => r = .returned (.tuple #[]) ∧ ∃ S', WrAt g S' (l.foldl Wire.stBool st).1 (l.foldl Wire.stBool st).2 w' ∧ Mv S S' w w' := by
  subst hn
  refine (bools_any g S st l (some ⟨b, 0, none⟩) c (w.heap.size + 1) _ (h.alloc _) (reads_newV w (bools l) 4 _ hcs (bools_len l) hb (Nat.lt_succ_self _)) (fun ad h' _ => apart_new h hb _ ad h') hN).mono ?_
  rintro e w' ⟨rfl, S', hw, hm⟩
  exact ⟨rfl, S', hw, ((Mv.refl _ _).alloc _).trans hm⟩
theorem new_out {g : Nat} {S : List Nat} {e : Int} {bs : List UInt8} {w : World} (h : WrAt g S e bs w) : w.heap.size ∉ S := fun hk => Nat.lt_irrefl _ (h.there _ hk)

set_option maxHeartbeats 8000000 in
set_option maxRecDepth 100000 in
theorem putTerm_any (g : Nat) (S : List Nat) (st0 : Wire.St) (x : Trm) (hf : x.Fits) (b cap : Nat) (w : World) (h : WrAt g S st0.1 st0.2 w) (hb : w.heap[b]? = some (.cells x.cells 23 (0, 0))) (hN : st0.2.length + 10000 ≤ 1000000000) :
    Calls Try.prog 18 #[.pointer (some ⟨g, 0, none⟩), .slice (some ⟨b, 0, none⟩) 1 cap] w fun e w' => e = .returned (.tuple #[]) ∧ ∃ S', WrAt g S' (x.ops.foldl Wire.stOp st0).1 (x.ops.foldl Wire.stOp st0).2 w' ∧ Mv S S' w w' := by
  have HT := Lib.hid hf.texts
  have HNU := Lib.hid hf.nums
  have hops : x.ops.foldl Wire.stOp st0 = x.nums.foldl Wire.stNum ([x.dl].foldl Wire.stBool ((x.texts.map (·.data.toList)).foldl Wire.stText st0)) := rfl
  rw [hops]
  clear hops hf
  obtain ⟨p, a, m, o, dl, ss, c, r, q, am, dy, td⟩ := x
  have HB : Hid (w.heap[b]? = some (.cells #[.string p, .string a, .string m, .string o, .bool dl, .string ss, .string c, .string r, .int .i64 q, .int .i64 am, .int .i64 dy, .int .i64 td] 23 (0, 0))) := hb
  have hout := new_out h
  have HO := Lib.hid hout
  have HW := Lib.hid h
  clear hb h hout
  go_enter Try.func18, Try.ntmps18
  go_wp2
  refine wp_loop_rounds 2 ?_
  rw [rounds_succ]
  go_wp2_with (first
    | (refine wpList_load_named rfl 23 _ rfl b rfl _ _ _ HB.out Try.underlying23 rfl size_term _ rfl ?_)
    | (refine wpList_store_last rfl 23 _ _ rfl _ 23 _ _ rfl rfl (by exact size_term) (by rfl) (by simp [Value.oneCell']) ?_))
  refine (textsNew_any g S st0 [p, a, m, o, ss, c, r] 7 (w.heap.size + 1) 7 (w.alloc (.cells #[.string p, .string a, .string m, .string o, .bool dl, .string ss, .string c, .string r, .int .i64 q, .int .i64 am, .int .i64 dy, .int .i64 td] 23)) _ rfl rfl (by simp) (HW.out.alloc _) (by omega) (fun s hs => HT.out s hs)).mono ?_
  rintro e w2 ⟨rfl, S2, hw2, hm2⟩
  have hlen2 := Wire.stText_len st0 ([p, a, m, o, ss, c, r].map (·.data.toList))
  rw [List.length_map] at hlen2
  obtain ⟨st2, hst2⟩ : ∃ st2, ([p, a, m, o, ss, c, r].map (·.data.toList)).foldl Wire.stText st0 = st2 := ⟨_, rfl⟩
  rw [hst2] at hlen2 hw2
  have hl2 : st2.2.length + 2000 ≤ 1000000000 := by simp at hlen2; omega
  have hk2 := (hm2.block w.heap.size (by simp) HO.out).trans (heap_alloc_new w (.cells #[.string p, .string a, .string m, .string o, .bool dl, .string ss, .string c, .string r, .int .i64 q, .int .i64 am, .int .i64 dy, .int .i64 td] 23))
  have hm02 : Mv S S2 w w2 := ((Mv.refl S w).alloc _).trans hm2
  have ho2 : w.heap.size ∉ S2 := hm2.out HO.out (by simp)
  obtain ⟨b1, hb1⟩ : ∃ b1, w.heap.size = b1 := ⟨_, rfl⟩
  rw [hb1] at hk2 ho2 ⊢
  have HST2 := Lib.hid hst2
  have HK2 := Lib.hid hk2; have HM2 := Lib.hid hm02; have HO2 := Lib.hid ho2; have HW2 := Lib.hid hw2
  clear hst2 hk2 hm02 ho2 hw2 hm2 hb1 hlen2 HB HO HW
  have c4 : w2.cell? ⟨b1, 4, none⟩ = some (.bool dl) := by rw [Lib.cell_of_heap HK2.out]; rfl
  go_wp2_with fail
  refine (boolsNew_any g S2 st2 [dl] 1 w2.heap.size 1 w2 _ rfl rfl rfl HW2.out (by omega)).mono ?_
  rintro e w3 ⟨rfl, S3, hw3, hm3⟩
  have hlen3 := Wire.stBool_len st2 [dl]
  obtain ⟨st3, hst3⟩ : ∃ st3, [dl].foldl Wire.stBool st2 = st3 := ⟨_, rfl⟩
  rw [hst3] at hlen3 hw3
  have hl3 : st3.2.length + 1000 ≤ 1000000000 := by simp at hlen3; omega
  have hlt1 := Blk.lt (t := 23) HK2.out
  have hk3 := (hm3.block b1 hlt1 HO2.out).trans HK2.out
  have HM3 := Lib.hid (HM2.out.trans hm3)
  have HO3 := Lib.hid (hm3.out HO2.out hlt1)
  have HST3 := Lib.hid hst3
  have HK3 := Lib.hid hk3; have HW3 := Lib.hid hw3
  clear hst3 hk3 hw3 hm3 hlen3 hlt1 c4 HK2 HM2 HO2 HW2
  have c8 : w3.cell? ⟨b1, 8, none⟩ = some (.int .i64 q) := by rw [Lib.cell_of_heap HK3.out]; rfl
  have c9 : w3.cell? ⟨b1, 9, none⟩ = some (.int .i64 am) := by rw [Lib.cell_of_heap HK3.out]; rfl
  have c10 : w3.cell? ⟨b1, 10, none⟩ = some (.int .i64 dy) := by rw [Lib.cell_of_heap HK3.out]; rfl
  have c11 : w3.cell? ⟨b1, 11, none⟩ = some (.int .i64 td) := by rw [Lib.cell_of_heap HK3.out]; rfl
  go_wp2_with fail
  refine (numsNew_any g S3 st3 [q, am, dy, td] 4 w3.heap.size 4 w3 _ rfl rfl rfl HW3.out (by omega) (fun v hv => HNU.out v hv)).mono ?_
  rintro e w4 ⟨rfl, S4, hw4, hm4⟩
  have HM4 := Lib.hid (HM3.out.trans hm4)
  have HW4 := Lib.hid hw4
  clear hw4 hm4 c8 c9 c10 c11 HK3 HM3 HO3 HW3
  go_wp2
  rw [rounds_succ]
  go_wp2
  go_end0
  refine ⟨rfl, S4, ?_, HM4.out⟩
  have hw := HW4.out
  rw [← HST3.out, ← HST2.out] at hw
  exact hw

set_option maxHeartbeats 8000000 in
set_option maxRecDepth 100000 in
theorem put_any (g : Nat) (S : List Nat) (st0 : Wire.St) (x : Ins) (hf : x.Fits) (b cap : Nat) (w : World) (h : WrAt g S st0.1 st0.2 w) (hb : w.heap[b]? = some (.cells x.cells 25 (0, 0))) (hN : st0.2.length + 20000 ≤ 1000000000) :
    Calls Try.prog 17 #[.pointer (some ⟨g, 0, none⟩), .slice (some ⟨b, 0, none⟩) 1 cap] w fun e w' => e = .returned (.tuple #[]) ∧ ∃ S', WrAt g S' (x.ops.foldl Wire.stOp st0).1 (x.ops.foldl Wire.stOp st0).2 w' ∧ Mv S S' w w' := by
  have hops : x.ops.foldl Wire.stOp st0 = [x.st, x.ma, x.dn, x.pd].foldl Wire.stNum ([x.part, x.held, x.wish].foldl Wire.stBool ([x.pr].foldl Wire.stNum (x.t.ops.foldl Wire.stOp ([x.id].foldl Wire.stNum st0)))) := rfl
  rw [hops]
  have HPT := Lib.hid (fun (S : List Nat) (st0 : Wire.St) (b : Nat) (w : World) => putTerm_any g S st0 x.t hf.t b 1 w)
  have HF := Lib.hid hf
  have hlenT : ∀ st : Wire.St, (x.t.ops.foldl Wire.stOp st).2.length ≤ st.2.length + 8000 := by
    intro st
    have h1 := Wire.stOp_len st ([], x.t.texts.map (·.data.toList), [x.t.dl])
    have h2 := Wire.stOp_len (Wire.stOp st ([], x.t.texts.map (·.data.toList), [x.t.dl])) (x.t.nums, [], [])
    have e : x.t.ops.foldl Wire.stOp st = Wire.stOp (Wire.stOp st ([], x.t.texts.map (·.data.toList), [x.t.dl])) (x.t.nums, [], []) := rfl
    rw [e]
    simp [Trm.texts, Trm.nums] at h1 h2 ⊢
    omega
  have HLT := Lib.hid hlenT
  clear hops hf hlenT
  obtain ⟨id, ⟨p, a, m, o, dl, ss, c, r, q, am, dy, td⟩, pr, part, held, wish, st, ma, dn, pd⟩ := x
  have HB : Hid (w.heap[b]? = some (.cells #[.int .i64 id, .string p, .string a, .string m, .string o, .bool dl, .string ss, .string c, .string r, .int .i64 q, .int .i64 am, .int .i64 dy, .int .i64 td, .int .i64 pr, .bool part, .bool held, .bool wish, .int .i64 st, .int .i64 ma, .int .i64 dn, .int .i64 pd] 25 (0, 0))) := hb
  have hout := new_out h
  have HO := Lib.hid hout
  have HW := Lib.hid h
  clear hb h hout
  go_enter Try.func17, Try.ntmps17
  go_wp2
  refine wp_loop_rounds 2 ?_
  rw [rounds_succ]
  go_wp2_with (first
    | (refine wpList_load_named rfl 25 _ rfl b rfl _ _ _ HB.out Try.underlying25 rfl size_inst _ rfl ?_)
    | (refine wpList_store_last rfl 25 _ _ rfl _ 25 _ _ rfl rfl (by exact size_inst) (by rfl) (by simp [Value.oneCell']) ?_))
  refine (numsNew_any g S st0 [id] 1 (w.heap.size + 1) 1 (w.alloc (.cells #[.int .i64 id, .string p, .string a, .string m, .string o, .bool dl, .string ss, .string c, .string r, .int .i64 q, .int .i64 am, .int .i64 dy, .int .i64 td, .int .i64 pr, .bool part, .bool held, .bool wish, .int .i64 st, .int .i64 ma, .int .i64 dn, .int .i64 pd] 25)) _ rfl rfl (by simp) (HW.out.alloc _) (by omega) (by intro v hv; simp at hv; subst hv; exact HF.out.id)).mono ?_
  rintro e w2 ⟨rfl, S2, hw2, hm2⟩
  have hlen2 := Wire.stNum_len st0 [id]
  obtain ⟨st2, hst2⟩ : ∃ st2, [id].foldl Wire.stNum st0 = st2 := ⟨_, rfl⟩
  rw [hst2] at hlen2 hw2
  have hl2 : st2.2.length + 19000 ≤ 1000000000 := by simp at hlen2; omega
  have hk2 := (hm2.block w.heap.size (by simp) HO.out).trans (heap_alloc_new w (.cells #[.int .i64 id, .string p, .string a, .string m, .string o, .bool dl, .string ss, .string c, .string r, .int .i64 q, .int .i64 am, .int .i64 dy, .int .i64 td, .int .i64 pr, .bool part, .bool held, .bool wish, .int .i64 st, .int .i64 ma, .int .i64 dn, .int .i64 pd] 25))
  have hm02 : Mv S S2 w w2 := ((Mv.refl S w).alloc _).trans hm2
  have ho2 : w.heap.size ∉ S2 := hm2.out HO.out (by simp)
  obtain ⟨b1, hb1⟩ : ∃ b1, w.heap.size = b1 := ⟨_, rfl⟩
  rw [hb1] at hk2 ho2 ⊢
  have HST2 := Lib.hid hst2
  have HK2 := Lib.hid hk2; have HM2 := Lib.hid hm02; have HO2 := Lib.hid ho2; have HW2 := Lib.hid hw2
  clear hst2 hk2 hm02 ho2 hw2 hm2 hb1 hlen2 HB HO HW
  have hpc := part_cells HK2.out 1 [.string p, .string a, .string m, .string o, .bool dl, .string ss, .string c, .string r, .int .i64 q, .int .i64 am, .int .i64 dy, .int .i64 td] (by
    intro j v hj
    have hjl := (List.getElem?_eq_some_iff.1 hj).1
    have e : (#[.int .i64 id, .string p, .string a, .string m, .string o, .bool dl, .string ss, .string c, .string r, .int .i64 q, .int .i64 am, .int .i64 dy, .int .i64 td, .int .i64 pr, .bool part, .bool held, .bool wish, .int .i64 st, .int .i64 ma, .int .i64 dn, .int .i64 pd] : Array Value) = ((.int .i64 id :: [.string p, .string a, .string m, .string o, .bool dl, .string ss, .string c, .string r, .int .i64 q, .int .i64 am, .int .i64 dy, .int .i64 td]) ++ [.int .i64 pr, .bool part, .bool held, .bool wish, .int .i64 st, .int .i64 ma, .int .i64 dn, .int .i64 pd] : List Value).toArray := rfl
    rw [e, List.getElem?_toArray, List.getElem?_append_left (by simp at hjl ⊢; omega), Nat.add_comm, List.getElem?_cons_succ]
    exact hj)
  have HPC := Lib.hid hpc
  have q1 : (Try.prog.info? 23).map (·.size) = some ([.string p, .string a, .string m, .string o, .bool dl, .string ss, .string c, .string r, .int .i64 q, .int .i64 am, .int .i64 dy, .int .i64 td] : List Value).length := size_term
  have Q1 := Lib.hid q1
  clear hpc q1
  go_wp2_with (refine wpList_load_cells rfl 23 _ rfl ⟨b1, 1, none⟩ rfl [.string p, .string a, .string m, .string o, .bool dl, .string ss, .string c, .string r, .int .i64 q, .int .i64 am, .int .i64 dy, .int .i64 td] _ HPC.out Try.underlying23 rfl Q1.out ?_)
  have hwa : WrAt g S2 st2.1 st2.2 (w2.alloc (.cells #[.string p, .string a, .string m, .string o, .bool dl, .string ss, .string c, .string r, .int .i64 q, .int .i64 am, .int .i64 dy, .int .i64 td] 23)) := HW2.out.alloc _
  refine (HPT.out S2 st2 w2.heap.size _ hwa (heap_alloc_new w2 _) (by omega)).mono ?_
  rintro e w3 ⟨rfl, S3, hw3, hm3⟩
  have hlen3 := HLT.out st2
  obtain ⟨st3, hst3⟩ : ∃ st3, (Trm.ops ⟨p, a, m, o, dl, ss, c, r, q, am, dy, td⟩).foldl Wire.stOp st2 = st3 := ⟨_, rfl⟩
  have HST3 := Lib.hid hst3
  have hw3' : WrAt g S3 st3.1 st3.2 w3 := by rw [← hst3]; exact hw3
  have hlen3' : st3.2.length ≤ st2.2.length + 8000 := by rw [← hst3]; exact hlen3
  have hl3 : st3.2.length + 10000 ≤ 1000000000 := by omega
  have hm3' : Mv S2 S3 w2 w3 := ((Mv.refl S2 w2).alloc _).trans hm3
  have hlt1 := Blk.lt (t := 25) HK2.out
  have hk3 := (hm3'.block b1 hlt1 HO2.out).trans HK2.out
  have HM3 := Lib.hid (HM2.out.trans hm3')
  have HO3 := Lib.hid (hm3'.out HO2.out hlt1)
  have HK3 := Lib.hid hk3; have HW3 := Lib.hid hw3'
  clear hst3 hk3 hw3 hw3' hm3 hm3' hlen3 hlen3' hlt1 hwa HK2 HM2 HO2 HW2 HPC Q1 HPT HLT
  have c13 : w3.cell? ⟨b1, 13, none⟩ = some (.int .i64 pr) := by rw [Lib.cell_of_heap HK3.out]; rfl
  go_wp2_with fail
  refine (numsNew_any g S3 st3 [pr] 1 w3.heap.size 1 w3 _ rfl rfl rfl HW3.out (by omega) (by intro v hv; simp at hv; subst hv; exact HF.out.pr)).mono ?_
  rintro e w4 ⟨rfl, S4, hw4, hm4⟩
  have hlen4 := Wire.stNum_len st3 [pr]
  obtain ⟨st4, hst4⟩ : ∃ st4, [pr].foldl Wire.stNum st3 = st4 := ⟨_, rfl⟩
  rw [hst4] at hlen4 hw4
  have hl4 : st4.2.length + 9000 ≤ 1000000000 := by simp at hlen4; omega
  have hlt1 := Blk.lt (t := 25) HK3.out
  have hk4 := (hm4.block b1 hlt1 HO3.out).trans HK3.out
  have HM4 := Lib.hid (HM3.out.trans hm4)
  have HO4 := Lib.hid (hm4.out HO3.out hlt1)
  have HST4 := Lib.hid hst4
  have HK4 := Lib.hid hk4; have HW4 := Lib.hid hw4
  clear hst4 hk4 hw4 hm4 hlen4 hlt1 c13 HK3 HM3 HO3 HW3
  have c14 : w4.cell? ⟨b1, 14, none⟩ = some (.bool part) := by rw [Lib.cell_of_heap HK4.out]; rfl
  have c15 : w4.cell? ⟨b1, 15, none⟩ = some (.bool held) := by rw [Lib.cell_of_heap HK4.out]; rfl
  have c16 : w4.cell? ⟨b1, 16, none⟩ = some (.bool wish) := by rw [Lib.cell_of_heap HK4.out]; rfl
  go_wp2_with fail
  refine (boolsNew_any g S4 st4 [part, held, wish] 3 w4.heap.size 3 w4 _ rfl rfl rfl HW4.out (by omega)).mono ?_
  rintro e w5 ⟨rfl, S5, hw5, hm5⟩
  have hlen5 := Wire.stBool_len st4 [part, held, wish]
  obtain ⟨st5, hst5⟩ : ∃ st5, [part, held, wish].foldl Wire.stBool st4 = st5 := ⟨_, rfl⟩
  rw [hst5] at hlen5 hw5
  have hl5 : st5.2.length + 8000 ≤ 1000000000 := by simp at hlen5; omega
  have hlt1 := Blk.lt (t := 25) HK4.out
  have hk5 := (hm5.block b1 hlt1 HO4.out).trans HK4.out
  have HM5 := Lib.hid (HM4.out.trans hm5)
  have HST5 := Lib.hid hst5
  have HK5 := Lib.hid hk5; have HW5 := Lib.hid hw5
  clear hst5 hk5 hw5 hm5 hlen5 hlt1 c14 c15 c16 HK4 HM4 HO4 HW4
  have c17 : w5.cell? ⟨b1, 17, none⟩ = some (.int .i64 st) := by rw [Lib.cell_of_heap HK5.out]; rfl
  have c18 : w5.cell? ⟨b1, 18, none⟩ = some (.int .i64 ma) := by rw [Lib.cell_of_heap HK5.out]; rfl
  have c19 : w5.cell? ⟨b1, 19, none⟩ = some (.int .i64 dn) := by rw [Lib.cell_of_heap HK5.out]; rfl
  have c20 : w5.cell? ⟨b1, 20, none⟩ = some (.int .i64 pd) := by rw [Lib.cell_of_heap HK5.out]; rfl
  go_wp2_with fail
  refine (numsNew_any g S5 st5 [st, ma, dn, pd] 4 w5.heap.size 4 w5 _ rfl rfl rfl HW5.out (by omega) (fun v hv => HF.out.nums v hv)).mono ?_
  rintro e w6 ⟨rfl, S6, hw6, hm6⟩
  have HM6 := Lib.hid (HM5.out.trans hm6)
  have HW6 := Lib.hid hw6
  clear hw6 hm6 c17 c18 c19 c20 HK5 HM5 HW5
  go_wp2
  rw [rounds_succ]
  go_wp2
  go_end0
  refine ⟨rfl, S6, ?_, HM6.out⟩
  have hw := HW6.out
  rw [← HST5.out, ← HST4.out, ← HST3.out, ← HST2.out] at hw
  exact hw
end Go.Proofs.Ytkcecijepbceiaa
