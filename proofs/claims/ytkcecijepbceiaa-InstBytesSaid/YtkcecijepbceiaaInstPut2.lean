/-
  Package inst as a contract: Put of one instruction twice.
  Conditions: a writer; what is put lies in a block of its own.
-/
import Derived.Test.YtkcecijepbceiaaInstBack
namespace Go.Proofs.Ytkcecijepbceiaa
open Go.RowKit

structure PwIn (g : Nat) (S0 : List Nat) (w0 : World) (S : List Nat) (st : Wire.St) (w : World) : Prop where
  at_ : WrAt g S st.1 st.2 w
  mv : Mv S0 S w0 w
theorem PwIn.next {g : Nat} {S0 S S' : List Nat} {w0 w w' : World} {st st' : Wire.St} (h : PwIn g S0 w0 S st w) (hw : WrAt g S' st'.1 st'.2 w') (hm : Mv S S' w w') : PwIn g S0 w0 S' st' w' := ⟨hw, h.mv.trans hm⟩
theorem PwIn.block {g : Nat} {S0 S : List Nat} {w0 w : World} {st : Wire.St} (h : PwIn g S0 w0 S st w) {b : Nat} {cs : Array Value} {T : TypeId} (hb : w0.heap[b]? = some (.cells cs T (0, 0))) (hn : b ∉ S0) : w.heap[b]? = some (.cells cs T (0, 0)) := (h.mv.block b (Blk.lt (t := T) hb) hn).trans hb
theorem PwIn.cell {g : Nat} {S0 S : List Nat} {w0 w : World} {st : Wire.St} (h : PwIn g S0 w0 S st w) {b : Nat} {cs : Array Value} {T : TypeId} (hb : w0.heap[b]? = some (.cells cs T (0, 0))) (hn : b ∉ S0) {j : Nat} {v : Value} (hv : cs[j]? = some v) : w.cell? ⟨b, j, none⟩ = some v := by
  rw [Lib.cell_of_heap (h.block hb hn)]
  exact hv
section
variable (g : Nat) {S0 S : List Nat} {w0 w : World} {st : Wire.St}
theorem pnums_in (l : List Int) (n b c : Nat) (cs : Array Value) (hcs : cs.toList = ints l) (hn : l.length = n) (hb : b = w.heap.size) (h : PwIn g S0 w0 S st w) (hN : st.2.length + 10 * n ≤ 1000000000) (hv : ∀ v ∈ l, In64 v) :
    Calls Try.prog 38 #[.pointer (some ⟨g, 0, none⟩), .slice (some ⟨b, 0, none⟩) n c] (w.alloc (.cells cs 3)) fun r w' => r = .returned (.tuple #[]) ∧ ∃ S' st', st' = l.foldl Wire.stNum st ∧ st'.2.length ≤ st.2.length + 10 * n ∧ PwIn g S0 w0 S' st' w' := by
  refine (numsNew_any g S st l n b c w cs hcs hn hb h.at_ hN hv).mono ?_
  rintro e w' ⟨rfl, S', hw, hm⟩
  have hl := Wire.stNum_len st l
  exact ⟨rfl, S', _, rfl, by omega, h.next hw hm⟩
theorem pbools_in (l : List Bool) (n b c : Nat) (cs : Array Value) (hcs : cs.toList = bools l) (hn : l.length = n) (hb : b = w.heap.size) (h : PwIn g S0 w0 S st w) (hN : st.2.length + n ≤ 1000000000) :
    Calls Try.prog 39 #[.pointer (some ⟨g, 0, none⟩), .slice (some ⟨b, 0, none⟩) n c] (w.alloc (.cells cs 4)) fun r w' => r = .returned (.tuple #[]) ∧ ∃ S' st', st' = l.foldl Wire.stBool st ∧ st'.2.length ≤ st.2.length + 10 * n ∧ PwIn g S0 w0 S' st' w' := by
  refine (boolsNew_any g S st l n b c w cs hcs hn hb h.at_ hN).mono ?_
  rintro e w' ⟨rfl, S', hw, hm⟩
  have hl := Wire.stBool_len st l
  exact ⟨rfl, S', _, rfl, by omega, h.next hw hm⟩
theorem pterm_in (x : Trm) (hf : x.Fits) (b c : Nat) (hb : b = w.heap.size) (h : PwIn g S0 w0 S st w) (hN : st.2.length ≤ 999990000) :
    Calls Try.prog 18 #[.pointer (some ⟨g, 0, none⟩), .slice (some ⟨b, 0, none⟩) 1 c] (w.alloc (.cells x.cells 23)) fun r w' => r = .returned (.tuple #[]) ∧ ∃ S' st', st' = x.ops.foldl Wire.stOp st ∧ st'.2.length ≤ st.2.length + 8000 ∧ PwIn g S0 w0 S' st' w' := by
  subst hb
  have hwa : WrAt g S st.1 st.2 (w.alloc (.cells x.cells 23)) := h.at_.alloc _
  refine (putTerm_any g S st x hf w.heap.size c _ hwa (heap_alloc_new w _) (by omega)).mono ?_
  rintro e w' ⟨rfl, S', hw, hm⟩
  exact ⟨rfl, S', _, rfl, trm_len x st, h.next hw (((Mv.refl S w).alloc _).trans hm)⟩
end
theorem two_cells (x : Ins) {w : World} {b : Nat} (h : w.heap[b]? = some (.cells (x.cells ++ x.cells) 25 (0, 0))) (off : Nat) (ho : off = 0 ∨ off = 21) : ∀ j v, x.cells.toList[j]? = some v → w.cell? ((⟨b, off, none⟩ : Addr).add j) = some v := by
  refine part_cells h off _ ?_
  intro j v hj
  have hjl := (List.getElem?_eq_some_iff.1 hj).1
  have h21 : x.cells.size = 21 := rfl
  rw [Array.length_toList, h21] at hjl
  rw [Array.getElem?_toList] at hj
  rcases ho with rfl | rfl
  · rw [Nat.zero_add, Array.getElem?_append_left (by omega)]
    exact hj
  · rw [Array.getElem?_append_right (by omega), h21, Nat.add_sub_cancel_left]
    exact hj
theorem inst_len3 (x : Ins) : (Try.prog.info? 25).map (·.size) = some x.cells.toList.length := size_inst
set_option maxHeartbeats 8000000 in
set_option maxRecDepth 100000 in
theorem put2_any (g : Nat) (S : List Nat) (st0 : Wire.St) (x : Ins) (hf : x.Fits) (b cap : Nat) (w : World) (h : WrAt g S st0.1 st0.2 w) (hb : w.heap[b]? = some (.cells (x.cells ++ x.cells) 25 (0, 0))) (hbS : b ∉ S) (hN : st0.2.length ≤ 900000000) :
    Calls Try.prog 17 #[.pointer (some ⟨g, 0, none⟩), .slice (some ⟨b, 0, none⟩) 2 cap] w fun e w' => e = .returned (.tuple #[]) ∧ ∃ S', WrAt g S' ((x.ops ++ x.ops).foldl Wire.stOp st0).1 ((x.ops ++ x.ops).foldl Wire.stOp st0).2 w' ∧ Mv S S' w w' := by
    have hops : ∀ st, [x.st, x.ma, x.dn, x.pd].foldl Wire.stNum ([x.part, x.held, x.wish].foldl Wire.stBool ([x.pr].foldl Wire.stNum (x.t.ops.foldl Wire.stOp ([x.id].foldl Wire.stNum st)))) = x.ops.foldl Wire.stOp st := fun _ => rfl
    have HOPS := Lib.hid hops
    have HF := Lib.hid hf
    have HB := Lib.hid hb
    have HBS := Lib.hid hbS
    have HOUT0 : Hid (PwIn g S w S st0 w) := ⟨h, Mv.refl _ _⟩
    have HLO0 := Lib.hid (show st0.2.length ≤ 900000000 + 0 by omega)
    have h21 : x.cells.size = 21 := rfl
    clear hops h hb hbS hN hf
    go_enter Try.func17, Try.ntmps17
    go_wp2
    refine wp_loop_rounds 3 ?_
    have HPB := Lib.hid (two_cells x (HOUT0.out.block HB.out HBS.out) 0 (by omega))
    have hnb : w.heap.size ∉ S := fun hk => Nat.lt_irrefl _ (HOUT0.out.at_.there _ hk)
    have HNB := Lib.hid hnb
    have HI0 : Hid (PwIn g S (w.alloc (.cells x.cells 25)) S st0 (w.alloc (.cells x.cells 25))) := ⟨HOUT0.out.at_.alloc _, Mv.refl _ _⟩
    have HK1 : Hid ((w.alloc (.cells x.cells 25)).heap[w.heap.size]? = some (.cells x.cells 25 (0, 0))) := heap_alloc_new _ _
    have HL0 := Lib.hid (show st0.2.length ≤ 900000000 + 0 by have := HLO0.out; omega)
    have cf0 : (w.alloc (.cells x.cells 25)).cell? ⟨w.heap.size, 0, none⟩ = some (.int .i64 x.id) := HI0.out.cell HK1.out HNB.out rfl
    clear hnb
    rw [rounds_succ]
    go_wp2_with (first
      | (refine wpList_load_part rfl 25 _ rfl ⟨b, 0, none⟩ rfl x.cells _ HPB.out Try.underlying25 rfl (inst_len3 x) ?_)
      | (refine wpList_store_last rfl 25 _ _ rfl _ 25 _ _ rfl rfl (inst_len x) (by rfl) (one_inst x) ?_))
    refine (pnums_in g [x.id] 1 (w.heap.size + 1) 1 _ rfl rfl (by simp) HI0.out (by have := HL0.out; omega) (fun v hv => by simp at hv; subst hv; exact HF.out.id)).mono ?_
    rintro e w1 ⟨rfl, S1, st1, hst1, hl1, hi1⟩
    have HI1 := Lib.hid hi1
    have HST1 := Lib.hid hst1
    have HL1 := Lib.hid (show st1.2.length ≤ 900010000 by have := HL0.out; omega)
    clear hi1 hst1 hl1 HI0 HL0 cf0
    obtain ⟨W, hW⟩ : ∃ W, w.alloc (.cells x.cells 25) = W := ⟨_, rfl⟩
    obtain ⟨b1, hb1⟩ : ∃ b1, w.heap.size = b1 := ⟨_, rfl⟩
    have HWA : Hid (Mv S S w W) := by show Mv _ _ _ _; rw [← hW]; exact (Mv.refl _ _).alloc _
    rw [hW] at HI1 HK1
    rw [hb1] at HK1 HNB ⊢
    clear hW hb1
    have HPC := Lib.hid (part_term (HI1.out.block HK1.out HNB.out))
    have h12 : x.t.cells.size = 12 := rfl
    go_wp2_with (refine wpList_load_part rfl 23 _ rfl ⟨b1, 1, none⟩ rfl x.t.cells _ HPC.out Try.underlying23 rfl (term_len x.t) ?_)
    first | rw [fold_term] | skip
    refine (pterm_in g x.t HF.out.t w1.heap.size 1 rfl HI1.out (by have := HL1.out; omega)).mono ?_
    rintro e w2 ⟨rfl, S2, st2, hst2, hl2, hi2⟩
    have HI2 := Lib.hid hi2
    have HST2 := Lib.hid hst2
    have HL2 := Lib.hid (show st2.2.length ≤ 900020000 by have := HL1.out; omega)
    clear hi2 hst2 hl2 HI1 HL1 HPC h12
    have cf_pr : w2.cell? ⟨b1, 13, none⟩ = some (.int .i64 x.pr) := HI2.out.cell HK1.out HNB.out rfl
    go_wp2_with fail
    refine (pnums_in g [x.pr] 1 w2.heap.size 1 _ rfl rfl rfl HI2.out (by have := HL2.out; omega) (fun v hv => by simp at hv; subst hv; exact HF.out.pr)).mono ?_
    rintro e w3 ⟨rfl, S3, st3, hst3, hl3, hi3⟩
    have HI3 := Lib.hid hi3
    have HST3 := Lib.hid hst3
    have HL3 := Lib.hid (show st3.2.length ≤ 900030000 by have := HL2.out; omega)
    clear hi3 hst3 hl3 HI2 HL2 cf_pr
    have cf_part : w3.cell? ⟨b1, 14, none⟩ = some (.bool x.part) := HI3.out.cell HK1.out HNB.out rfl
    have cf_held : w3.cell? ⟨b1, 15, none⟩ = some (.bool x.held) := HI3.out.cell HK1.out HNB.out rfl
    have cf_wish : w3.cell? ⟨b1, 16, none⟩ = some (.bool x.wish) := HI3.out.cell HK1.out HNB.out rfl
    go_wp2_with fail
    refine (pbools_in g [x.part, x.held, x.wish] 3 w3.heap.size 3 _ rfl rfl rfl HI3.out (by have := HL3.out; omega)).mono ?_
    rintro e w4 ⟨rfl, S4, st4, hst4, hl4, hi4⟩
    have HI4 := Lib.hid hi4
    have HST4 := Lib.hid hst4
    have HL4 := Lib.hid (show st4.2.length ≤ 900040000 by have := HL3.out; omega)
    clear hi4 hst4 hl4 HI3 HL3 cf_part cf_held cf_wish
    have cf_st : w4.cell? ⟨b1, 17, none⟩ = some (.int .i64 x.st) := HI4.out.cell HK1.out HNB.out rfl
    have cf_ma : w4.cell? ⟨b1, 18, none⟩ = some (.int .i64 x.ma) := HI4.out.cell HK1.out HNB.out rfl
    have cf_dn : w4.cell? ⟨b1, 19, none⟩ = some (.int .i64 x.dn) := HI4.out.cell HK1.out HNB.out rfl
    have cf_pd : w4.cell? ⟨b1, 20, none⟩ = some (.int .i64 x.pd) := HI4.out.cell HK1.out HNB.out rfl
    go_wp2_with fail
    refine (pnums_in g [x.st, x.ma, x.dn, x.pd] 4 w4.heap.size 4 _ rfl rfl rfl HI4.out (by have := HL4.out; omega) (fun v hv => HF.out.nums v hv)).mono ?_
    rintro e w5 ⟨rfl, S5, st5, hst5, hl5, hi5⟩
    have HI5 := Lib.hid hi5
    have HST5 := Lib.hid hst5
    have HL5 := Lib.hid (show st5.2.length ≤ 900050000 by have := HL4.out; omega)
    clear hi5 hst5 hl5 HI4 HL4 cf_st cf_ma cf_dn cf_pd
    go_wp2
    obtain ⟨su1, hsu1⟩ : ∃ s, s = st5 := ⟨_, rfl⟩
    have HSU1 : Hid (su1 = x.ops.foldl Wire.stOp st0) := by
      show _ = _
      rw [hsu1, HST5.out, HST4.out, HST3.out, HST2.out, HST1.out]
      exact HOPS.out st0
    have HOUT1 : Hid (PwIn g S w S5 su1 w5) := ⟨by rw [hsu1]; exact HI5.out.at_, (HOUT0.out.mv.trans HWA.out).trans HI5.out.mv⟩
    have HLO1 := Lib.hid (show su1.2.length ≤ 900000000 + 100000 by have := HL5.out; rw [hsu1]; omega)
    clear HST1 HST2 HST3 HST4 HST5 HI5 HL5 hsu1 HWA HK1 HNB HPB HOUT0 HLO0
    obtain ⟨v1, hv⟩ : ∃ v, w5 = v := ⟨_, rfl⟩
    obtain ⟨T1, hT⟩ : ∃ T, S5 = T := ⟨_, rfl⟩
    rw [hv] at HOUT1 ⊢
    rw [hT] at HOUT1
    clear hv hT
    have HPB := Lib.hid (two_cells x (HOUT1.out.block HB.out HBS.out) 21 (by omega))
    have hnb : v1.heap.size ∉ T1 := fun hk => Nat.lt_irrefl _ (HOUT1.out.at_.there _ hk)
    have HNB := Lib.hid hnb
    have HI0 : Hid (PwIn g T1 (v1.alloc (.cells x.cells 25)) T1 su1 (v1.alloc (.cells x.cells 25))) := ⟨HOUT1.out.at_.alloc _, Mv.refl _ _⟩
    have HK1 : Hid ((v1.alloc (.cells x.cells 25)).heap[v1.heap.size]? = some (.cells x.cells 25 (0, 0))) := heap_alloc_new _ _
    have HL0 := Lib.hid (show su1.2.length ≤ 900000000 + 100000 by have := HLO1.out; omega)
    have cf0 : (v1.alloc (.cells x.cells 25)).cell? ⟨v1.heap.size, 0, none⟩ = some (.int .i64 x.id) := HI0.out.cell HK1.out HNB.out rfl
    clear hnb
    rw [rounds_succ]
    go_wp2_with (first
      | (refine wpList_load_part rfl 25 _ rfl ⟨b, 21, none⟩ rfl x.cells _ HPB.out Try.underlying25 rfl (inst_len3 x) ?_)
      | (refine wpList_store_last rfl 25 _ _ rfl _ 25 _ _ rfl rfl (inst_len x) (by rfl) (one_inst x) ?_))
    refine (pnums_in g [x.id] 1 (v1.heap.size + 1) 1 _ rfl rfl (by simp) HI0.out (by have := HL0.out; omega) (fun v hv => by simp at hv; subst hv; exact HF.out.id)).mono ?_
    rintro e w1 ⟨rfl, S1, st1, hst1, hl1, hi1⟩
    have HI1 := Lib.hid hi1
    have HST1 := Lib.hid hst1
    have HL1 := Lib.hid (show st1.2.length ≤ 900110000 by have := HL0.out; omega)
    clear hi1 hst1 hl1 HI0 HL0 cf0
    obtain ⟨W, hW⟩ : ∃ W, v1.alloc (.cells x.cells 25) = W := ⟨_, rfl⟩
    obtain ⟨b1, hb1⟩ : ∃ b1, v1.heap.size = b1 := ⟨_, rfl⟩
    have HWA : Hid (Mv T1 T1 v1 W) := by show Mv _ _ _ _; rw [← hW]; exact (Mv.refl _ _).alloc _
    rw [hW] at HI1 HK1
    rw [hb1] at HK1 HNB ⊢
    clear hW hb1
    have HPC := Lib.hid (part_term (HI1.out.block HK1.out HNB.out))
    have h12 : x.t.cells.size = 12 := rfl
    go_wp2_with (refine wpList_load_part rfl 23 _ rfl ⟨b1, 1, none⟩ rfl x.t.cells _ HPC.out Try.underlying23 rfl (term_len x.t) ?_)
    first | rw [fold_term] | skip
    refine (pterm_in g x.t HF.out.t w1.heap.size 1 rfl HI1.out (by have := HL1.out; omega)).mono ?_
    rintro e w2 ⟨rfl, S2, st2, hst2, hl2, hi2⟩
    have HI2 := Lib.hid hi2
    have HST2 := Lib.hid hst2
    have HL2 := Lib.hid (show st2.2.length ≤ 900120000 by have := HL1.out; omega)
    clear hi2 hst2 hl2 HI1 HL1 HPC h12
    have cf_pr : w2.cell? ⟨b1, 13, none⟩ = some (.int .i64 x.pr) := HI2.out.cell HK1.out HNB.out rfl
    go_wp2_with fail
    refine (pnums_in g [x.pr] 1 w2.heap.size 1 _ rfl rfl rfl HI2.out (by have := HL2.out; omega) (fun v hv => by simp at hv; subst hv; exact HF.out.pr)).mono ?_
    rintro e w3 ⟨rfl, S3, st3, hst3, hl3, hi3⟩
    have HI3 := Lib.hid hi3
    have HST3 := Lib.hid hst3
    have HL3 := Lib.hid (show st3.2.length ≤ 900130000 by have := HL2.out; omega)
    clear hi3 hst3 hl3 HI2 HL2 cf_pr
    have cf_part : w3.cell? ⟨b1, 14, none⟩ = some (.bool x.part) := HI3.out.cell HK1.out HNB.out rfl
    have cf_held : w3.cell? ⟨b1, 15, none⟩ = some (.bool x.held) := HI3.out.cell HK1.out HNB.out rfl
    have cf_wish : w3.cell? ⟨b1, 16, none⟩ = some (.bool x.wish) := HI3.out.cell HK1.out HNB.out rfl
    go_wp2_with fail
    refine (pbools_in g [x.part, x.held, x.wish] 3 w3.heap.size 3 _ rfl rfl rfl HI3.out (by have := HL3.out; omega)).mono ?_
    rintro e w4 ⟨rfl, S4, st4, hst4, hl4, hi4⟩
    have HI4 := Lib.hid hi4
    have HST4 := Lib.hid hst4
    have HL4 := Lib.hid (show st4.2.length ≤ 900140000 by have := HL3.out; omega)
    clear hi4 hst4 hl4 HI3 HL3 cf_part cf_held cf_wish
    have cf_st : w4.cell? ⟨b1, 17, none⟩ = some (.int .i64 x.st) := HI4.out.cell HK1.out HNB.out rfl
    have cf_ma : w4.cell? ⟨b1, 18, none⟩ = some (.int .i64 x.ma) := HI4.out.cell HK1.out HNB.out rfl
    have cf_dn : w4.cell? ⟨b1, 19, none⟩ = some (.int .i64 x.dn) := HI4.out.cell HK1.out HNB.out rfl
    have cf_pd : w4.cell? ⟨b1, 20, none⟩ = some (.int .i64 x.pd) := HI4.out.cell HK1.out HNB.out rfl
    go_wp2_with fail
    refine (pnums_in g [x.st, x.ma, x.dn, x.pd] 4 w4.heap.size 4 _ rfl rfl rfl HI4.out (by have := HL4.out; omega) (fun v hv => HF.out.nums v hv)).mono ?_
    rintro e w5 ⟨rfl, S5, st5, hst5, hl5, hi5⟩
    have HI5 := Lib.hid hi5
    have HST5 := Lib.hid hst5
    have HL5 := Lib.hid (show st5.2.length ≤ 900150000 by have := HL4.out; omega)
    clear hi5 hst5 hl5 HI4 HL4 cf_st cf_ma cf_dn cf_pd
    go_wp2
    obtain ⟨su2, hsu2⟩ : ∃ s, s = st5 := ⟨_, rfl⟩
    have HSU2 : Hid (su2 = x.ops.foldl Wire.stOp su1) := by
      show _ = _
      rw [hsu2, HST5.out, HST4.out, HST3.out, HST2.out, HST1.out]
      exact HOPS.out su1
    have HOUT2 : Hid (PwIn g S w S5 su2 w5) := ⟨by rw [hsu2]; exact HI5.out.at_, (HOUT1.out.mv.trans HWA.out).trans HI5.out.mv⟩
    have HLO2 := Lib.hid (show su2.2.length ≤ 900000000 + 200000 by have := HL5.out; rw [hsu2]; omega)
    clear HST1 HST2 HST3 HST4 HST5 HI5 HL5 hsu2 HWA HK1 HNB HPB HOUT1 HLO1
    obtain ⟨v2, hv⟩ : ∃ v, w5 = v := ⟨_, rfl⟩
    obtain ⟨T2, hT⟩ : ∃ T, S5 = T := ⟨_, rfl⟩
    rw [hv] at HOUT2 ⊢
    rw [hT] at HOUT2
    clear hv hT
    rw [rounds_succ]
    go_wp2
    go_end0
    refine ⟨rfl, T2, ?_, HOUT2.out.mv⟩
    have hw := HOUT2.out.at_
    rw [HSU2.out, HSU1.out, ← List.foldl_append] at hw
    exact hw
end Go.Proofs.Ytkcecijepbceiaa
