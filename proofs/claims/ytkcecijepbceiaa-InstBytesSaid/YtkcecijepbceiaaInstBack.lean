/-
  The walk of InstBack: an instruction that was put is got, and its term.
  Conditions: an instruction.
-/
import Derived.Test.YtkcecijepbceiaaInstEq
namespace Go.Proofs.Ytkcecijepbceiaa
open Go.RowKit

theorem flatAll_app (l m : List Wire.Op3) : Wire.flatAll (l ++ m) = Wire.flatAll l ++ Wire.flatAll m := by simp [Wire.flatAll]
theorem ops_short {x : Ins} (h : ∀ o ∈ x.ops ++ x.t.ops, ∀ t ∈ o.2.1, t.length ≤ 1000) : ∀ t ∈ x.t.texts, t.size ≤ 1000 := by
  intro t ht
  have h1 := h ([], x.t.texts.map (·.data.toList), [x.t.dl]) (by simp [Trm.ops]) t.data.toList (List.mem_map.2 ⟨t, ht, rfl⟩)
  have e : t.data.toList.length = t.size := Array.length_toList
  omega
theorem ops_len (x : Ins) (st : Wire.St) : (x.ops.foldl Wire.stOp st).2.length ≤ st.2.length + 10000 := by
  have h0 := Wire.stOp_len st ([x.id], [], [])
  have h1 := Wire.stOp_len (Wire.stOp st ([x.id], [], [])) ([], x.t.texts.map (·.data.toList), [x.t.dl])
  have h2 := Wire.stOp_len (Wire.stOp (Wire.stOp st ([x.id], [], [])) ([], x.t.texts.map (·.data.toList), [x.t.dl])) (x.t.nums, [], [])
  have h3 := Wire.stOp_len (Wire.stOp (Wire.stOp (Wire.stOp st ([x.id], [], [])) ([], x.t.texts.map (·.data.toList), [x.t.dl])) (x.t.nums, [], [])) ([x.pr], [], [x.part, x.held, x.wish])
  have h4 := Wire.stOp_len (Wire.stOp (Wire.stOp (Wire.stOp (Wire.stOp st ([x.id], [], [])) ([], x.t.texts.map (·.data.toList), [x.t.dl])) (x.t.nums, [], [])) ([x.pr], [], [x.part, x.held, x.wish])) ([x.st, x.ma, x.dn, x.pd], [], [])
  have e : x.ops.foldl Wire.stOp st = Wire.stOp (Wire.stOp (Wire.stOp (Wire.stOp (Wire.stOp st ([x.id], [], [])) ([], x.t.texts.map (·.data.toList), [x.t.dl])) (x.t.nums, [], [])) ([x.pr], [], [x.part, x.held, x.wish])) ([x.st, x.ma, x.dn, x.pd], [], []) := rfl
  rw [e]
  simp [Trm.texts, Trm.nums] at h0 h1 h2 h3 h4 ⊢
  omega
theorem trm_len (x : Trm) (st : Wire.St) : (x.ops.foldl Wire.stOp st).2.length ≤ st.2.length + 8000 := by
  have h1 := Wire.stOp_len st ([], x.texts.map (·.data.toList), [x.dl])
  have h2 := Wire.stOp_len (Wire.stOp st ([], x.texts.map (·.data.toList), [x.dl])) (x.nums, [], [])
  have e : x.ops.foldl Wire.stOp st = Wire.stOp (Wire.stOp st ([], x.texts.map (·.data.toList), [x.dl])) (x.nums, [], []) := rfl
  rw [e]
  simp [Trm.texts, Trm.nums] at h1 h2 ⊢
  omega
theorem part_term {w : World} {b : Nat} {x : Ins} (h : w.heap[b]? = some (.cells x.cells 25 (0, 0))) : ∀ j v, x.t.cells.toList[j]? = some v → w.cell? ((⟨b, 1, none⟩ : Addr).add j) = some v := by
  refine part_cells h 1 _ ?_
  intro j v hj
  have hjl := (List.getElem?_eq_some_iff.1 hj).1
  have e : x.cells = ((.int .i64 x.id :: x.t.cells.toList) ++ [.int .i64 x.pr, .bool x.part, .bool x.held, .bool x.wish, .int .i64 x.st, .int .i64 x.ma, .int .i64 x.dn, .int .i64 x.pd] : List Value).toArray := rfl
  rw [e, List.getElem?_toArray, List.getElem?_append_left (by simp at hjl ⊢; omega), Nat.add_comm, List.getElem?_cons_succ]
  exact hj
theorem term_len (x : Trm) : (Try.prog.info? 23).map (·.size) = some x.cells.toList.length := size_term
theorem one_inst (x : Ins) : (x.cells).all (·.oneCell') = true := by unfold Ins.cells; simp [Value.oneCell']
theorem one_term (x : Trm) : (x.cells).all (·.oneCell') = true := by unfold Trm.cells; simp [Value.oneCell']
theorem inst_len (x : Ins) : (Try.prog.info? 25).map (·.size) = some x.cells.size := size_inst
theorem term_len2 (x : Trm) : (Try.prog.info? 23).map (·.size) = some x.cells.size := size_term
set_option maxRecDepth 10000 in
theorem fold_inst (x : Ins) : Array.foldl (fun (cs : Array Value) (p : Value × Nat) => cs.setIfInBounds p.snd p.fst) #[.int .i64 0, .string ⟨#[]⟩, .string ⟨#[]⟩, .string ⟨#[]⟩, .string ⟨#[]⟩, .bool false, .string ⟨#[]⟩, .string ⟨#[]⟩, .string ⟨#[]⟩, .int .i64 0, .int .i64 0, .int .i64 0, .int .i64 0, .int .i64 0, .bool false, .bool false, .bool false, .int .i64 0, .int .i64 0, .int .i64 0, .int .i64 0] x.cells.zipIdx 0 21 = x.cells := by
  unfold Ins.cells
  simp
set_option maxRecDepth 10000 in
theorem fold_term (x : Trm) : Array.foldl (fun (cs : Array Value) (p : Value × Nat) => cs.setIfInBounds p.snd p.fst) #[.string ⟨#[]⟩, .string ⟨#[]⟩, .string ⟨#[]⟩, .string ⟨#[]⟩, .bool false, .string ⟨#[]⟩, .string ⟨#[]⟩, .string ⟨#[]⟩, .int .i64 0, .int .i64 0, .int .i64 0, .int .i64 0] x.cells.zipIdx 0 12 = x.cells := by
  unfold Trm.cells
  simp
/-- A struct read out of a part of a block. -/
theorem wpList_load_part {P : Program} {ops : Array Oper} {rest : List Oper} {o : Oper} {a : Act} {w : World} {Q : Exit → Act → World → Prop} (hw : Region.wanted o (yielded ops a.tmps) = true) (ty : TypeId) (x : Operand) (ho : o.op = .load ty x)
    (ad : Addr) (hx : a.eval x = .pointer (some ad)) (cs : Array Value) (d : TypeDesc) (hc : ∀ j v, cs.toList[j]? = some v → w.cell? (ad.add j) = some v)
    (hu : P.underlying ty = some d) (hd : (match d with | .struct _ | .array _ _ => true | _ => false) = true) (hi : (P.info? ty).map (·.size) = some cs.toList.length)
    (h : wpList P ops Q rest (a.put o.dst (.agg cs)) w) : wpList P ops Q (o :: rest) a w :=
  wpList_load_cells hw ty x ho ad hx cs.toList d hc hu hd hi h
set_option maxHeartbeats 40000000 in
set_option maxRecDepth 100000 in
theorem iback_walk (x : Ins) (hf : x.Fits) (w : World) :
    Calls Try.prog 7 #[.agg x.cells] w fun e w' => e = .returned (.bool true) ∧ Below w.heap.size w w' := by
  have hk1 : (w.alloc (.cells x.cells 25)).heap[w.heap.size]? = some (.cells x.cells 25 (0, 0)) := heap_alloc_new _ _
  have HB1 : Hid (Below w.heap.size w (w.alloc (.cells x.cells 25))) := (Below.refl _ _).alloc (Nat.le_refl _) _
  have HSM := Lib.hid (small_any x.t (w.alloc (.cells x.cells 25)))
  have HK1 := Lib.hid hk1; have HF := Lib.hid hf
  have HPC1 := Lib.hid (part_term hk1)
  clear hk1 hf
  cases hsm : smallB x.t
  · rw [hsm] at HSM
    clear hsm
    go_enter Try.func7, Try.ntmps7
    go_wp2_with (refine wpList_load_part rfl 23 _ rfl ⟨w.heap.size, 1, none⟩ rfl x.t.cells _ HPC1.out Try.underlying23 rfl (term_len x.t) ?_)
    refine HSM.out.mono ?_
    rintro e w2 ⟨rfl, hb2⟩
    have HB2 := Lib.hid (HB1.out.trans (hb2.mono HB1.out.size))
    clear hb2
    go_wp2_with fail
    refine (alive12_any _).mono ?_
    rintro e w3 ⟨rfl, hb3⟩
    have HB3 := Lib.hid (HB2.out.trans (hb3.mono HB2.out.size))
    clear hb3
    go_wp2
    go_ret
    exact ⟨rfl, HB3.out⟩
  · rw [hsm] at HSM
    clear hsm
    go_enter Try.func7, Try.ntmps7
    go_wp2_with (refine wpList_load_part rfl 23 _ rfl ⟨w.heap.size, 1, none⟩ rfl x.t.cells _ HPC1.out Try.underlying23 rfl (term_len x.t) ?_)
    refine HSM.out.mono ?_
    rintro e w2 ⟨rfl, hb2⟩
    have HB2 := Lib.hid (HB1.out.trans (hb2.mono HB1.out.size))
    have HK2 := Lib.hid ((hb2.block w.heap.size (by simp)).trans HK1.out)
    obtain ⟨b1, hb1⟩ : ∃ b1, w.heap.size = b1 := ⟨_, rfl⟩
    have HBW := Lib.hid hb1
    rw [hb1] at HK2 ⊢
    clear hb2 HB1 HK1 HPC1 HSM hb1
    go_wp2_with fail
    refine (newWriter_any w2).mono ?_
    rintro e w3 ⟨rfl, hw3, hb3⟩
    have hk3 := (hb3.block b1 (Blk.lt (t := 25) HK2.out)).trans HK2.out
    have hb13 : b1 < w2.heap.size := Blk.lt (t := 25) HK2.out
    obtain ⟨g, hg⟩ : ∃ g, w2.heap.size = g := ⟨_, rfl⟩
    have hBg : w.heap.size ≤ g := by rw [← hg]; exact HB2.out.size
    have HB3 := Lib.hid (HB2.out.trans (hb3.mono HB2.out.size))
    rw [hg] at hw3 hb13 ⊢
    have HW3 := Lib.hid hw3; have HK3 := Lib.hid hk3
    have HS3 : Hid (∀ k, k ∈ [g] → w.heap.size ≤ k) := fun k hk => by simp at hk; omega
    have HO3 : Hid (b1 ∉ [g]) := by show b1 ∉ [g]; simp; omega
    clear hg hw3 hb3 hk3 HB2 HK2
    have h21 : x.cells.size = 21 := rfl
    have h12 : x.t.cells.size = 12 := rfl
    have hwa : WrAt g [g] ((0, []) : Wire.St).1 ((0, []) : Wire.St).2 (w3.alloc (.cells x.cells 25)) := HW3.out.alloc _
    have C1 := Lib.hid (put_any g [g] (0, []) x HF.out w3.heap.size 1 _ hwa (heap_alloc_new w3 _) (by simp))
    clear hwa
    go_wp2_with (refine wpList_load_named rfl 25 _ rfl b1 rfl _ _ _ HK3.out Try.underlying25 rfl (inst_len x) _ rfl ?_)
    rw [fold_inst]
    refine C1.out.mono ?_
    rintro e w4 ⟨rfl, S4, hw4, hm4⟩
    have hlen4 := ops_len x (0, [])
    obtain ⟨st4, hst4⟩ : ∃ st4, x.ops.foldl Wire.stOp (0, []) = st4 := ⟨_, rfl⟩
    rw [hst4] at hw4 hlen4
    have hl4 : st4.2.length ≤ 10000 := by simpa using hlen4
    have hm4' : Mv [g] S4 w3 w4 := ((Mv.refl [g] w3).alloc _).trans hm4
    have hlt1 := Blk.lt (t := 25) HK3.out
    have HK4 := Lib.hid ((hm4'.block b1 hlt1 HO3.out).trans HK3.out)
    have HO4 := Lib.hid (hm4'.out HO3.out hlt1)
    have HB4 := Lib.hid (HB3.out.trans (hm4'.below HS3.out HB3.out.size))
    have HS4 := Lib.hid (hm4'.low HS3.out HB3.out.size)
    have HW4 := Lib.hid hw4; have HST4 := Lib.hid hst4
    clear hw4 hm4 hm4' hlen4 hst4 hlt1 C1 HW3 HK3 HO3 HB3 HS3
    have HPC4 := Lib.hid (part_term HK4.out)
    have hwa : WrAt g S4 st4.1 st4.2 (w4.alloc (.cells x.t.cells 23)) := HW4.out.alloc _
    have C1 := Lib.hid (putTerm_any g S4 st4 x.t HF.out.t w4.heap.size 1 _ hwa (heap_alloc_new w4 _) (by omega))
    clear hwa
    go_wp2_with (refine wpList_load_part rfl 23 _ rfl ⟨b1, 1, none⟩ rfl x.t.cells _ HPC4.out Try.underlying23 rfl (term_len x.t) ?_)
    rw [fold_term]
    refine C1.out.mono ?_
    rintro e w5 ⟨rfl, S5, hw5, hm5⟩
    have hlen5 := trm_len x.t st4
    have hst5 : x.t.ops.foldl Wire.stOp st4 = (x.ops ++ x.t.ops).foldl Wire.stOp (0, []) := by rw [List.foldl_append, HST4.out]
    rw [hst5] at hw5 hlen5
    have hm5' : Mv S4 S5 w4 w5 := ((Mv.refl S4 w4).alloc _).trans hm5
    have hlt1 := Blk.lt (t := 25) HK4.out
    have HK5 := Lib.hid ((hm5'.block b1 hlt1 HO4.out).trans HK4.out)
    have HB5 := Lib.hid (HB4.out.trans (hm5'.below HS4.out HB4.out.size))
    have HW5 := Lib.hid hw5
    clear hw5 hm5 hm5' hst5 hlt1 C1 HW4 HK4 HO4 HB4 HS4 HST4 HPC4
    rcases Wire.stOps_two (x.ops ++ x.t.ops) [] with h2 | ⟨h2, h3⟩
    · have hw := HW5.out.cell0
      rw [h2] at hw
      clear h2 hlen5
      go_wp2_with fail
      refine (bytes_err g 2 (by decide) w5 hw).mono ?_
      rintro e w6 ⟨rfl, rfl⟩
      clear hw
      go_wp2_with fail
      refine (alive12_any _).mono ?_
      rintro e w7 ⟨rfl, hb7⟩
      have HB7 := Lib.hid (HB5.out.trans (hb7.mono HB5.out.size))
      clear hb7
      go_wp2
      go_ret
      exact ⟨rfl, HB7.out⟩
    · rw [h2] at HW5 hlen5
      have HSH := Lib.hid (ops_short h3)
      rw [List.nil_append] at HW5 hlen5
      have hss0 : (Wire.flatAll (x.ops ++ x.t.ops)).length ≤ 20000 := by simp at hlen5 ⊢; omega
      clear h2 h3 hlen5
      have C1 := Lib.hid (bytes_ok g S5 _ w5 HW5.out)
      obtain ⟨s, hs⟩ : ∃ s : ByteArray, s = ⟨(Wire.flatAll (x.ops ++ x.t.ops)).toArray⟩ := ⟨_, rfl⟩
      have hss : s.size ≤ 1000000000 := by rw [hs, bytes_size]; omega
      have HR0 : Hid (Rest s 0 (encIns x (encTrm x.t []))) := by
        refine ⟨Nat.zero_le _, ?_⟩
        rw [← ins_enc, ← trm_enc, List.append_nil, ← flatAll_app, hs]
        rfl
      rw [← hs] at C1
      clear hs hss0
      go_wp2_with fail
      refine C1.out.mono ?_
      rintro e w6 ⟨rfl, rfl⟩
      clear C1 HW5
      go_wp2_with fail
      refine (newReader_any s _ hss).mono ?_
      rintro e w7 ⟨g2, rfl, hg2, hr7, hb7⟩
      have HG2 : w.heap.size ≤ g2 := Nat.le_trans HB5.out.size hg2
      have HK7 := Lib.hid ((hb7.block b1 (Blk.lt (t := 25) HK5.out)).trans HK5.out)
      have hgb : b1 ≠ g2 := by have := Blk.lt (t := 25) HK5.out; omega
      have HB7 := Lib.hid (HB5.out.trans (hb7.mono HB5.out.size))
      have HR7 := Lib.hid hr7
      clear hr7 hb7 hg2 HB5 HK5
      have C1 := Lib.hid (get_any g2 s 0 _ x HSH.out HF.out hss w7 HR7.out HR0.out)
      go_wp2_with fail
      refine C1.out.mono ?_
      rintro e w8 ⟨k8, rfl, hrest, hr8, hm8⟩
      have hk8 := (hm8.block b1 (Blk.lt (t := 25) HK7.out) (by simpa using hgb)).trans HK7.out
      have hb8 : Below w.heap.size w w8 := HB7.out.trans (hm8.below (fun j hj => by simp at hj; omega) HB7.out.size)
      have hlt8 := Blk.lt (t := 25) hk8
      have HB8 := Lib.hid (hb8.alloc hb8.size (.cells x.cells 25))
      have HK8 := Lib.hid ((Below.heap_alloc w8 (.cells x.cells 25) b1 hlt8).trans hk8)
      have HY8 : Hid ((w8.alloc (.cells x.cells 25)).heap[w8.heap.size]? = some (.cells x.cells 25 (0, 0))) := heap_alloc_new _ _
      have HR8 := Lib.hid (hr8.below ((Below.refl w8.heap.size w8).alloc (Nat.le_refl _) (.cells x.cells 25)))
      have hgy : w8.heap.size ≠ g2 := by have := hr8.lt; omega
      have HRE8 := Lib.hid hrest
      obtain ⟨W8, hW8⟩ : ∃ W8, w8.alloc (.cells x.cells 25) = W8 := ⟨_, rfl⟩
      rw [hW8] at HB8 HK8 HY8 HR8
      obtain ⟨b7, hb7⟩ : ∃ b7, w8.heap.size = b7 := ⟨_, rfl⟩
      rw [hb7] at HY8 hgy
      have HW8 := Lib.hid hW8; have HB7' := Lib.hid hb7
      clear hk8 hb8 hlt8 hr8 hm8 hrest hW8 hb7 C1 HR0 HR7 HB7 HK7
      have C1 := Lib.hid (getTerm_any g2 s k8 [] x.t HSH.out HF.out.t.nums hss W8 HR8.out HRE8.out)
      go_wp2_with (refine wpList_store_last rfl 25 _ _ rfl _ 25 _ _ rfl rfl (inst_len x) (by rfl) (one_inst x) ?_)
      rw [HW8.out, HB7'.out]
      clear HW8 HB7'
      refine C1.out.mono ?_
      rintro e w9 ⟨k9, rfl, hrest, hr9, hm9⟩
      have hk9 := (hm9.block b1 (Blk.lt (t := 25) HK8.out) (by simpa using hgb)).trans HK8.out
      have hy9 := (hm9.block b7 (Blk.lt (t := 25) HY8.out) (by simpa using hgy)).trans HY8.out
      have hb9 : Below w.heap.size w w9 := HB8.out.trans (hm9.below (fun j hj => by simp at hj; omega) HB8.out.size)
      have hbn : Below w9.heap.size w9 (w9.alloc (.cells x.t.cells 23)) := (Below.refl _ _).alloc (Nat.le_refl _) _
      have HB9 := Lib.hid (hb9.alloc hb9.size (.cells x.t.cells 23))
      have HK9 := Lib.hid ((hbn.block b1 (Blk.lt (t := 25) hk9)).trans hk9)
      have HY9 := Lib.hid ((hbn.block b7 (Blk.lt (t := 25) hy9)).trans hy9)
      have HT9 : Hid ((w9.alloc (.cells x.t.cells 23)).heap[w9.heap.size]? = some (.cells x.t.cells 23 (0, 0))) := heap_alloc_new _ _
      have HR9 := Lib.hid (hr9.below hbn)
      have hend := hrest.nil
      obtain ⟨W9, hW9⟩ : ∃ W9, w9.alloc (.cells x.t.cells 23) = W9 := ⟨_, rfl⟩
      rw [hW9] at HB9 HK9 HY9 HT9 HR9
      obtain ⟨b8, hb8⟩ : ∃ b8, w9.heap.size = b8 := ⟨_, rfl⟩
      rw [hb8] at HT9
      have HW9 := Lib.hid hW9; have HB8' := Lib.hid hb8
      have HEND := Lib.hid hend
      clear hk9 hy9 hb9 hbn hr9 hm9 hrest hW9 hb8 C1 HR8 HB8 HK8 HY8 HRE8 hend
      go_wp2_with (refine wpList_store_last rfl 23 _ _ rfl _ 23 _ _ rfl rfl (term_len2 x.t) (by rfl) (one_term x.t) ?_)
      rw [HW9.out, HB8'.out]
      clear HW9 HB8'
      refine (alive12_any _).mono ?_
      rintro e w10 ⟨rfl, hb10⟩
      have HB10 := Lib.hid (HB9.out.trans (hb10.mono HB9.out.size))
      have HK10 := Lib.hid ((hb10.block b1 (Blk.lt (t := 25) HK9.out)).trans HK9.out)
      have HY10 := Lib.hid ((hb10.block b7 (Blk.lt (t := 25) HY9.out)).trans HY9.out)
      have HT10 := Lib.hid ((hb10.block b8 (Blk.lt (t := 23) HT9.out)).trans HT9.out)
      have HR10 := Lib.hid (HR9.out.below hb10)
      have HPC10 := Lib.hid (part_term HK10.out)
      have HEI := Lib.hid (run_eq_inst w10 x)
      have HET := Lib.hid (run_eq_term w10 9998 x.t)
      have HEN := Lib.hid (end_any g2 s ⟨0, k9⟩ w10 HR10.out (by rw [HEND.out]; exact Nat.le_refl _) hss)
      have he0 : endOf s ⟨0, k9⟩ = 0 := by
        unfold endOf
        rw [if_neg (by simp), if_neg (by rw [HEND.out]; exact Nat.lt_irrefl _)]
      rw [he0] at HEN
      clear hb10 HB9 HK9 HY9 HT9 HR9 he0
      go_wp2_with (first
        | (refine wpList_load_named rfl 25 _ rfl b7 rfl _ _ _ HY10.out Try.underlying25 rfl (inst_len x) _ rfl ?_)
        | (refine wpList_load_named rfl 25 _ rfl b1 rfl _ _ _ HK10.out Try.underlying25 rfl (inst_len x) _ rfl ?_)
        | (refine wpList_load_named rfl 23 _ rfl b8 rfl _ _ _ HT10.out Try.underlying23 rfl (term_len2 x.t) _ rfl ?_)
        | (refine wpList_load_part rfl 23 _ rfl ⟨b1, 1, none⟩ rfl x.t.cells _ HPC10.out Try.underlying23 rfl (term_len x.t) ?_)
        | (refine wpList_eq_same rfl 25 _ _ _ rfl x.cells rfl rfl eqg_inst HEI.out ?_)
        | (refine wpList_eq_same rfl 23 _ _ _ rfl x.t.cells rfl rfl eqg_term HET.out ?_))
      refine HEN.out.mono ?_
      rintro e w11 ⟨rfl, q, rfl⟩
      go_wp2
      go_ret
      exact ⟨rfl, drewN_below HB10.out q⟩
end Go.Proofs.Ytkcecijepbceiaa
