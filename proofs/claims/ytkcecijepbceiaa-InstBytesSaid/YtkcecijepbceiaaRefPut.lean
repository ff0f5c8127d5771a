/-
  The reference's PutTerm and Put as contracts.
  Conditions: a writer that the call has made.
-/
import Derived.Test.YtkcecijepbceiaaRw2B
import Derived.Test.YtkcecijepbceiaaInstBack
namespace Go.Proofs.Ytkcecijepbceiaa
open Go.RowKit

/-- How far a writer is: its blocks, what it holds; the world in which it began. -/
structure RwIn (g : Nat) (S0 : List Nat) (w0 : World) (S : List Nat) (st : Wire.St) (w : World) : Prop where
  at_ : RwAt g S st.1 st.2 w
  mv : Mv S0 S w0 w
theorem RwIn.next {g : Nat} {S0 S S' : List Nat} {w0 w w' : World} {st st' : Wire.St} (h : RwIn g S0 w0 S st w) (hw : RwAt g S' st'.1 st'.2 w') (hm : Mv S S' w w') : RwIn g S0 w0 S' st' w' := ⟨hw, h.mv.trans hm⟩
theorem RwIn.cell {g : Nat} {S0 S : List Nat} {w0 w : World} {st : Wire.St} (h : RwIn g S0 w0 S st w) {b : Nat} {cs : Array Value} {T : TypeId} (hb : w0.heap[b]? = some (.cells cs T (0, 0))) (hn : b ∉ S0) {j : Nat} {v : Value} (hv : cs[j]? = some v) : w.cell? ⟨b, j, none⟩ = some v := by
  have h1 := (h.mv.block b (Blk.lt (t := T) hb) hn).trans hb
  rw [Lib.cell_of_heap h1]
  exact hv
section
variable (g : Nat) {S0 S : List Nat} {w0 w : World} {st : Wire.St}
theorem rtext_in (s : ByteArray) (hs : s.size ≤ 9223372036854775807) (h : RwIn g S0 w0 S st w) (hN : st.2.length ≤ 999990000) :
    Calls Try.prog 43 #[.pointer (some ⟨g, 0, none⟩), .string s] w fun r w' => r = .returned (.tuple #[]) ∧ ∃ S' st', st' = Wire.stText st s.data.toList ∧ st'.2.length ≤ st.2.length + 1010 ∧ RwIn g S0 w0 S' st' w' := by
  refine (rwtext_any g S st s hs w h.at_ hN).mono ?_
  rintro e w' ⟨rfl, S', hw, hm⟩
  have hl := Wire.stText_len st [s.data.toList]
  exact ⟨rfl, S', _, rfl, by simpa using hl, h.next hw hm⟩
theorem rnum_in (v : Int) (hv : In64 v) (h : RwIn g S0 w0 S st w) (hN : st.2.length ≤ 1000000000) :
    Calls Try.prog 41 #[.pointer (some ⟨g, 0, none⟩), .int .i64 v] w fun r w' => r = .returned (.tuple #[]) ∧ ∃ S' st', st' = Wire.stNum st v ∧ st'.2.length ≤ st.2.length + 10 ∧ RwIn g S0 w0 S' st' w' := by
  refine (rwnum_any g S st v hv.1 hv.2 w h.at_ hN).mono ?_
  rintro e w' ⟨rfl, S', hw, hm⟩
  have hl := Wire.stNum_len st [v]
  exact ⟨rfl, S', _, rfl, by simpa using hl, h.next hw hm⟩
theorem rbool_in (x : Bool) (h : RwIn g S0 w0 S st w) (hN : st.2.length ≤ 1000000000) :
    Calls Try.prog 42 #[.pointer (some ⟨g, 0, none⟩), .bool x] w fun r w' => r = .returned (.tuple #[]) ∧ ∃ S' st', st' = Wire.stBool st x ∧ st'.2.length ≤ st.2.length + 1 ∧ RwIn g S0 w0 S' st' w' := by
  refine (rwbool_any g S st x w h.at_ hN).mono ?_
  rintro e w' ⟨rfl, S', hw, hm⟩
  have hl := Wire.stBool_len st [x]
  exact ⟨rfl, S', _, rfl, by simpa using hl, h.next hw hm⟩
end

theorem RwAt.alloc {g : Nat} {S : List Nat} {e : Int} {bs : List UInt8} {w : World} (h : RwAt g S e bs w) (x : Obj) : RwAt g S e bs (w.alloc x) := h.keep (fun k hk => Below.heap_alloc _ _ _ (h.there k hk))
set_option maxHeartbeats 8000000 in
set_option maxRecDepth 100000 in
theorem rputTerm_any (g : Nat) (S : List Nat) (st0 : Wire.St) (x : Trm) (hf : x.Fits) (w : World) (h : RwAt g S st0.1 st0.2 w) (hN : st0.2.length ≤ 899990000) :
    Calls Try.prog 20 #[.pointer (some ⟨g, 0, none⟩), .agg x.cells] w fun e w' => e = .returned (.tuple #[]) ∧ ∃ S', RwAt g S' (x.ops.foldl Wire.stOp st0).1 (x.ops.foldl Wire.stOp st0).2 w' ∧ Mv S S' w w' := by
    have HT := Lib.hid hf.texts
    have HNU := Lib.hid hf.nums
    have hops : x.ops.foldl Wire.stOp st0 = x.nums.foldl Wire.stNum ([x.dl].foldl Wire.stBool ((x.texts.map (·.data.toList)).foldl Wire.stText st0)) := rfl
    rw [hops]
    clear hops hf
    obtain ⟨p, a, m, o, dl, ss, c, r, q, am, dy, td⟩ := x
    have hbox : (w.alloc (.cells #[.string p, .string a, .string m, .string o, .bool dl, .string ss, .string c, .string r, .int .i64 q, .int .i64 am, .int .i64 dy, .int .i64 td] 23)).heap[w.heap.size]? = some (.cells #[.string p, .string a, .string m, .string o, .bool dl, .string ss, .string c, .string r, .int .i64 q, .int .i64 am, .int .i64 dy, .int .i64 td] 23 (0, 0)) := heap_alloc_new _ _
    have h1 : RwAt g S st0.1 st0.2 (w.alloc (.cells #[.string p, .string a, .string m, .string o, .bool dl, .string ss, .string c, .string r, .int .i64 q, .int .i64 am, .int .i64 dy, .int .i64 td] 23)) := h.alloc _
    have hm1 : Mv S S w ((w.alloc (.cells #[.string p, .string a, .string m, .string o, .bool dl, .string ss, .string c, .string r, .int .i64 q, .int .i64 am, .int .i64 dy, .int .i64 td] 23)).alloc (.cells #[.string p, .string a, .string m, .string o, .string ss, .string c, .string r] 9)) := ((Mv.refl S w).alloc _).alloc _
    have hk1 : ((w.alloc (.cells #[.string p, .string a, .string m, .string o, .bool dl, .string ss, .string c, .string r, .int .i64 q, .int .i64 am, .int .i64 dy, .int .i64 td] 23)).alloc (.cells #[.string p, .string a, .string m, .string o, .string ss, .string c, .string r] 9)).heap[w.heap.size]? = some (.cells #[.string p, .string a, .string m, .string o, .bool dl, .string ss, .string c, .string r, .int .i64 q, .int .i64 am, .int .i64 dy, .int .i64 td] 23 (0, 0)) := (Below.heap_alloc _ _ _ (Blk.lt (t := 23) hbox)).trans hbox
    have hk2 : ((w.alloc (.cells #[.string p, .string a, .string m, .string o, .bool dl, .string ss, .string c, .string r, .int .i64 q, .int .i64 am, .int .i64 dy, .int .i64 td] 23)).alloc (.cells #[.string p, .string a, .string m, .string o, .string ss, .string c, .string r] 9)).heap[w.heap.size + 1]? = some (.cells #[.string p, .string a, .string m, .string o, .string ss, .string c, .string r] 9 (0, 0)) := by
      have h := heap_alloc_new (w.alloc (.cells #[.string p, .string a, .string m, .string o, .bool dl, .string ss, .string c, .string r, .int .i64 q, .int .i64 am, .int .i64 dy, .int .i64 td] 23)) (.cells #[.string p, .string a, .string m, .string o, .string ss, .string c, .string r] 9)
      simpa using h
    have ho1 : w.heap.size ∉ S := fun hk => Nat.lt_irrefl _ (h.there _ hk)
    have ho2 : w.heap.size + 1 ∉ S := fun hk => absurd (h.there _ hk) (by omega)
    have hi0 : RwIn g S ((w.alloc (.cells #[.string p, .string a, .string m, .string o, .bool dl, .string ss, .string c, .string r, .int .i64 q, .int .i64 am, .int .i64 dy, .int .i64 td] 23)).alloc (.cells #[.string p, .string a, .string m, .string o, .string ss, .string c, .string r] 9)) S st0 ((w.alloc (.cells #[.string p, .string a, .string m, .string o, .bool dl, .string ss, .string c, .string r, .int .i64 q, .int .i64 am, .int .i64 dy, .int .i64 td] 23)).alloc (.cells #[.string p, .string a, .string m, .string o, .string ss, .string c, .string r] 9)) := ⟨h1.alloc _, Mv.refl _ _⟩
    have HL0 := Lib.hid (show st0.2.length ≤ 899990000 + 0 by omega)
    have HB : Hid (w.heap.size = w.heap.size) := rfl
    obtain ⟨W0, hW0⟩ : ∃ W0, (w.alloc (.cells #[.string p, .string a, .string m, .string o, .bool dl, .string ss, .string c, .string r, .int .i64 q, .int .i64 am, .int .i64 dy, .int .i64 td] 23)).alloc (.cells #[.string p, .string a, .string m, .string o, .string ss, .string c, .string r] 9) = W0 := ⟨_, rfl⟩
    rw [hW0] at hm1 hk1 hk2 hi0
    have HM1 := Lib.hid hm1; have HK1 := Lib.hid hk1; have HK2 := Lib.hid hk2; have HO1 := Lib.hid ho1; have HO2 := Lib.hid ho2; have HI0 := Lib.hid hi0; have HW0 := Lib.hid hW0
    clear hbox h1 hm1 hk1 hk2 ho1 ho2 hi0 hW0 h hN HB
    unfold Trm.cells
    go_enter Try.func20, Try.ntmps20
    go_wp2
    refine wp_loop_rounds 8 ?_
    rw [HW0.out]
    obtain ⟨b1, hb1⟩ : ∃ b1, w.heap.size = b1 := ⟨_, rfl⟩
    rw [hb1] at HK1 HK2 HO1 HO2 ⊢
    clear hb1 HW0
    have cf : W0.cell? ⟨b1 + 1, 0, none⟩ = some (.string p) := HI0.out.cell HK2.out HO2.out rfl
    rw [rounds_succ]
    go_wp2_with fail
    refine (rtext_in g p (HT.out _ (by simp [Trm.texts])) HI0.out (by have := HL0.out; omega)).mono ?_
    rintro e w1 ⟨rfl, S1, st1, hst1, hl1, hi1⟩
    have HI1 := Lib.hid hi1
    have HST1 := Lib.hid hst1
    have HL1 := Lib.hid (show st1.2.length ≤ 899990000 + 1010 by have := HL0.out; omega)
    clear hi1 hst1 hl1 HI0 HL0
    clear cf
    go_wp2
    have cf : w1.cell? ⟨b1 + 1, 1, none⟩ = some (.string a) := HI1.out.cell HK2.out HO2.out rfl
    rw [rounds_succ]
    go_wp2_with fail
    refine (rtext_in g a (HT.out _ (by simp [Trm.texts])) HI1.out (by have := HL1.out; omega)).mono ?_
    rintro e w2 ⟨rfl, S2, st2, hst2, hl2, hi2⟩
    have HI2 := Lib.hid hi2
    have HST2 := Lib.hid hst2
    have HL2 := Lib.hid (show st2.2.length ≤ 899990000 + 2020 by have := HL1.out; omega)
    clear hi2 hst2 hl2 HI1 HL1
    clear cf
    go_wp2
    have cf : w2.cell? ⟨b1 + 1, 2, none⟩ = some (.string m) := HI2.out.cell HK2.out HO2.out rfl
    rw [rounds_succ]
    go_wp2_with fail
    refine (rtext_in g m (HT.out _ (by simp [Trm.texts])) HI2.out (by have := HL2.out; omega)).mono ?_
    rintro e w3 ⟨rfl, S3, st3, hst3, hl3, hi3⟩
    have HI3 := Lib.hid hi3
    have HST3 := Lib.hid hst3
    have HL3 := Lib.hid (show st3.2.length ≤ 899990000 + 3030 by have := HL2.out; omega)
    clear hi3 hst3 hl3 HI2 HL2
    clear cf
    go_wp2
    have cf : w3.cell? ⟨b1 + 1, 3, none⟩ = some (.string o) := HI3.out.cell HK2.out HO2.out rfl
    rw [rounds_succ]
    go_wp2_with fail
    refine (rtext_in g o (HT.out _ (by simp [Trm.texts])) HI3.out (by have := HL3.out; omega)).mono ?_
    rintro e w4 ⟨rfl, S4, st4, hst4, hl4, hi4⟩
    have HI4 := Lib.hid hi4
    have HST4 := Lib.hid hst4
    have HL4 := Lib.hid (show st4.2.length ≤ 899990000 + 4040 by have := HL3.out; omega)
    clear hi4 hst4 hl4 HI3 HL3
    clear cf
    go_wp2
    have cf : w4.cell? ⟨b1 + 1, 4, none⟩ = some (.string ss) := HI4.out.cell HK2.out HO2.out rfl
    rw [rounds_succ]
    go_wp2_with fail
    refine (rtext_in g ss (HT.out _ (by simp [Trm.texts])) HI4.out (by have := HL4.out; omega)).mono ?_
    rintro e w5 ⟨rfl, S5, st5, hst5, hl5, hi5⟩
    have HI5 := Lib.hid hi5
    have HST5 := Lib.hid hst5
    have HL5 := Lib.hid (show st5.2.length ≤ 899990000 + 5050 by have := HL4.out; omega)
    clear hi5 hst5 hl5 HI4 HL4
    clear cf
    go_wp2
    have cf : w5.cell? ⟨b1 + 1, 5, none⟩ = some (.string c) := HI5.out.cell HK2.out HO2.out rfl
    rw [rounds_succ]
    go_wp2_with fail
    refine (rtext_in g c (HT.out _ (by simp [Trm.texts])) HI5.out (by have := HL5.out; omega)).mono ?_
    rintro e w6 ⟨rfl, S6, st6, hst6, hl6, hi6⟩
    have HI6 := Lib.hid hi6
    have HST6 := Lib.hid hst6
    have HL6 := Lib.hid (show st6.2.length ≤ 899990000 + 6060 by have := HL5.out; omega)
    clear hi6 hst6 hl6 HI5 HL5
    clear cf
    go_wp2
    have cf : w6.cell? ⟨b1 + 1, 6, none⟩ = some (.string r) := HI6.out.cell HK2.out HO2.out rfl
    rw [rounds_succ]
    go_wp2_with fail
    refine (rtext_in g r (HT.out _ (by simp [Trm.texts])) HI6.out (by have := HL6.out; omega)).mono ?_
    rintro e w7 ⟨rfl, S7, st7, hst7, hl7, hi7⟩
    have HI7 := Lib.hid hi7
    have HST7 := Lib.hid hst7
    have HL7 := Lib.hid (show st7.2.length ≤ 899990000 + 7070 by have := HL6.out; omega)
    clear hi7 hst7 hl7 HI6 HL6
    clear cf
    go_wp2
    rw [rounds_succ]
    have cf : w7.cell? ⟨b1, 4, none⟩ = some (.bool dl) := HI7.out.cell HK1.out HO1.out rfl
    go_wp2_with fail
    refine (rbool_in g dl HI7.out (by have := HL7.out; omega)).mono ?_
    rintro e w8 ⟨rfl, S8, st8, hst8, hl8, hi8⟩
    have HI8 := Lib.hid hi8
    have HST8 := Lib.hid hst8
    have HL8 := Lib.hid (show st8.2.length ≤ 899990000 + 8080 by have := HL7.out; omega)
    clear hi8 hst8 hl8 HI7 HL7
    clear cf
    have cf : w8.cell? ⟨b1, 8, none⟩ = some (.int .i64 q) := HI8.out.cell HK1.out HO1.out rfl
    go_wp2_with fail
    refine (rnum_in g q (HNU.out _ (by simp [Trm.nums])) HI8.out (by have := HL8.out; omega)).mono ?_
    rintro e w9 ⟨rfl, S9, st9, hst9, hl9, hi9⟩
    have HI9 := Lib.hid hi9
    have HST9 := Lib.hid hst9
    have HL9 := Lib.hid (show st9.2.length ≤ 899990000 + 9090 by have := HL8.out; omega)
    clear hi9 hst9 hl9 HI8 HL8
    clear cf
    have cf : w9.cell? ⟨b1, 9, none⟩ = some (.int .i64 am) := HI9.out.cell HK1.out HO1.out rfl
    go_wp2_with fail
    refine (rnum_in g am (HNU.out _ (by simp [Trm.nums])) HI9.out (by have := HL9.out; omega)).mono ?_
    rintro e w10 ⟨rfl, S10, st10, hst10, hl10, hi10⟩
    have HI10 := Lib.hid hi10
    have HST10 := Lib.hid hst10
    have HL10 := Lib.hid (show st10.2.length ≤ 899990000 + 10100 by have := HL9.out; omega)
    clear hi10 hst10 hl10 HI9 HL9
    clear cf
    have cf : w10.cell? ⟨b1, 10, none⟩ = some (.int .i64 dy) := HI10.out.cell HK1.out HO1.out rfl
    go_wp2_with fail
    refine (rnum_in g dy (HNU.out _ (by simp [Trm.nums])) HI10.out (by have := HL10.out; omega)).mono ?_
    rintro e w11 ⟨rfl, S11, st11, hst11, hl11, hi11⟩
    have HI11 := Lib.hid hi11
    have HST11 := Lib.hid hst11
    have HL11 := Lib.hid (show st11.2.length ≤ 899990000 + 11110 by have := HL10.out; omega)
    clear hi11 hst11 hl11 HI10 HL10
    clear cf
    have cf : w11.cell? ⟨b1, 11, none⟩ = some (.int .i64 td) := HI11.out.cell HK1.out HO1.out rfl
    go_wp2_with fail
    refine (rnum_in g td (HNU.out _ (by simp [Trm.nums])) HI11.out (by have := HL11.out; omega)).mono ?_
    rintro e w12 ⟨rfl, S12, st12, hst12, hl12, hi12⟩
    have HI12 := Lib.hid hi12
    have HST12 := Lib.hid hst12
    have HL12 := Lib.hid (show st12.2.length ≤ 899990000 + 12120 by have := HL11.out; omega)
    clear hi12 hst12 hl12 HI11 HL11
    clear cf
    go_wp2
    go_end0
    refine ⟨rfl, S12, ?_, HM1.out.trans HI12.out.mv⟩
    have hw := HI12.out.at_
    rw [HST12.out, HST11.out, HST10.out, HST9.out, HST8.out, HST7.out, HST6.out, HST5.out, HST4.out, HST3.out, HST2.out, HST1.out] at hw
    exact hw

theorem rterm_in (g : Nat) {S0 S : List Nat} {w0 w : World} {st : Wire.St} (x : Trm) (hf : x.Fits) (h : RwIn g S0 w0 S st w) (hN : st.2.length ≤ 899990000) :
    Calls Try.prog 20 #[.pointer (some ⟨g, 0, none⟩), .agg x.cells] w fun r w' => r = .returned (.tuple #[]) ∧ ∃ S' st', st' = x.ops.foldl Wire.stOp st ∧ st'.2.length ≤ st.2.length + 8000 ∧ RwIn g S0 w0 S' st' w' := by
  refine (rputTerm_any g S st x hf w h.at_ hN).mono ?_
  rintro e w' ⟨rfl, S', hw, hm⟩
  exact ⟨rfl, S', _, rfl, trm_len x st, h.next hw hm⟩
theorem rpart_term {g : Nat} {S0 S : List Nat} {w0 w : World} {st : Wire.St} (h : RwIn g S0 w0 S st w) {b : Nat} {x : Ins} (hb : w0.heap[b]? = some (.cells x.cells 25 (0, 0))) (hn : b ∉ S0) : ∀ j v, x.t.cells.toList[j]? = some v → w.cell? ((⟨b, 1, none⟩ : Addr).add j) = some v :=
  part_term ((h.mv.block b (Blk.lt (t := 25) hb) hn).trans hb)

set_option maxHeartbeats 8000000 in
set_option maxRecDepth 100000 in
theorem rput_any (g : Nat) (S : List Nat) (st0 : Wire.St) (x : Ins) (hf : x.Fits) (w : World) (h : RwAt g S st0.1 st0.2 w) (hN : st0.2.length ≤ 899900000) :
    Calls Try.prog 19 #[.pointer (some ⟨g, 0, none⟩), .agg x.cells] w fun e w' => e = .returned (.tuple #[]) ∧ ∃ S', RwAt g S' (x.ops.foldl Wire.stOp st0).1 (x.ops.foldl Wire.stOp st0).2 w' ∧ Mv S S' w w' := by
    have hops : x.ops.foldl Wire.stOp st0 = [x.st, x.ma, x.dn, x.pd].foldl Wire.stNum ([x.part, x.held, x.wish].foldl Wire.stBool ([x.pr].foldl Wire.stNum (x.t.ops.foldl Wire.stOp ([x.id].foldl Wire.stNum st0)))) := rfl
    rw [hops]
    have hbox : (w.alloc (.cells x.cells 25)).heap[w.heap.size]? = some (.cells x.cells 25 (0, 0)) := heap_alloc_new _ _
    have h1 : RwAt g S st0.1 st0.2 (w.alloc (.cells x.cells 25)) := h.alloc _
    have HM1 : Hid (Mv S S w (w.alloc (.cells x.cells 25))) := (Mv.refl S w).alloc _
    have HO1 : Hid (w.heap.size ∉ S) := fun hk => Nat.lt_irrefl _ (h.there _ hk)
    have HI0 : Hid (RwIn g S (w.alloc (.cells x.cells 25)) S st0 (w.alloc (.cells x.cells 25))) := ⟨h1, Mv.refl _ _⟩
    have HL0 := Lib.hid (show st0.2.length ≤ 899900000 + 0 by omega)
    have HK1 := Lib.hid hbox
    have HF := Lib.hid hf
    have h21 : x.cells.size = 21 := rfl
    clear hops h1 hbox h hN hf
    go_enter Try.func19, Try.ntmps19
    have cf : (w.alloc (.cells x.cells 25)).cell? ⟨w.heap.size, 0, none⟩ = some (.int .i64 x.id) := HI0.out.cell HK1.out HO1.out rfl
    go_wp2_with fail
    refine (rnum_in g x.id HF.out.id HI0.out (by have := HL0.out; omega)).mono ?_
    rintro e w1 ⟨rfl, S1, st1, hst1, hl1, hi1⟩
    have HI1 := Lib.hid hi1
    have HST1 := Lib.hid hst1
    have HL1 := Lib.hid (show st1.2.length ≤ 899900000 + 20000 by have := HL0.out; omega)
    clear hi1 hst1 hl1 HI0 HL0
    clear cf
    obtain ⟨b1, hb1⟩ : ∃ b1, w.heap.size = b1 := ⟨_, rfl⟩
    rw [hb1] at HK1 HO1 ⊢
    clear hb1
    have HPC := Lib.hid (rpart_term HI1.out HK1.out HO1.out)
    go_wp2_with (refine wpList_load_part rfl 23 _ rfl ⟨b1, 1, none⟩ rfl x.t.cells _ HPC.out Try.underlying23 rfl (term_len x.t) ?_)
    refine (rterm_in g x.t HF.out.t HI1.out (by have := HL1.out; omega)).mono ?_
    rintro e w2 ⟨rfl, S2, st2, hst2, hl2, hi2⟩
    have HI2 := Lib.hid hi2
    have HST2 := Lib.hid hst2
    have HL2 := Lib.hid (show st2.2.length ≤ 899900000 + 40000 by have := HL1.out; omega)
    clear hi2 hst2 hl2 HI1 HL1
    clear HPC
    have cf : w2.cell? ⟨b1, 13, none⟩ = some (.int .i64 x.pr) := HI2.out.cell HK1.out HO1.out rfl
    go_wp2_with fail
    refine (rnum_in g x.pr HF.out.pr HI2.out (by have := HL2.out; omega)).mono ?_
    rintro e w3 ⟨rfl, S3, st3, hst3, hl3, hi3⟩
    have HI3 := Lib.hid hi3
    have HST3 := Lib.hid hst3
    have HL3 := Lib.hid (show st3.2.length ≤ 899900000 + 60000 by have := HL2.out; omega)
    clear hi3 hst3 hl3 HI2 HL2
    clear cf
    have cf : w3.cell? ⟨b1, 14, none⟩ = some (.bool x.part) := HI3.out.cell HK1.out HO1.out rfl
    go_wp2_with fail
    refine (rbool_in g x.part HI3.out (by have := HL3.out; omega)).mono ?_
    rintro e w4 ⟨rfl, S4, st4, hst4, hl4, hi4⟩
    have HI4 := Lib.hid hi4
    have HST4 := Lib.hid hst4
    have HL4 := Lib.hid (show st4.2.length ≤ 899900000 + 80000 by have := HL3.out; omega)
    clear hi4 hst4 hl4 HI3 HL3
    clear cf
    have cf : w4.cell? ⟨b1, 15, none⟩ = some (.bool x.held) := HI4.out.cell HK1.out HO1.out rfl
    go_wp2_with fail
    refine (rbool_in g x.held HI4.out (by have := HL4.out; omega)).mono ?_
    rintro e w5 ⟨rfl, S5, st5, hst5, hl5, hi5⟩
    have HI5 := Lib.hid hi5
    have HST5 := Lib.hid hst5
    have HL5 := Lib.hid (show st5.2.length ≤ 899900000 + 100000 by have := HL4.out; omega)
    clear hi5 hst5 hl5 HI4 HL4
    clear cf
    have cf : w5.cell? ⟨b1, 16, none⟩ = some (.bool x.wish) := HI5.out.cell HK1.out HO1.out rfl
    go_wp2_with fail
    refine (rbool_in g x.wish HI5.out (by have := HL5.out; omega)).mono ?_
    rintro e w6 ⟨rfl, S6, st6, hst6, hl6, hi6⟩
    have HI6 := Lib.hid hi6
    have HST6 := Lib.hid hst6
    have HL6 := Lib.hid (show st6.2.length ≤ 899900000 + 120000 by have := HL5.out; omega)
    clear hi6 hst6 hl6 HI5 HL5
    clear cf
    have cf : w6.cell? ⟨b1, 17, none⟩ = some (.int .i64 x.st) := HI6.out.cell HK1.out HO1.out rfl
    go_wp2_with fail
    refine (rnum_in g x.st (HF.out.nums _ (by simp)) HI6.out (by have := HL6.out; omega)).mono ?_
    rintro e w7 ⟨rfl, S7, st7, hst7, hl7, hi7⟩
    have HI7 := Lib.hid hi7
    have HST7 := Lib.hid hst7
    have HL7 := Lib.hid (show st7.2.length ≤ 899900000 + 140000 by have := HL6.out; omega)
    clear hi7 hst7 hl7 HI6 HL6
    clear cf
    have cf : w7.cell? ⟨b1, 18, none⟩ = some (.int .i64 x.ma) := HI7.out.cell HK1.out HO1.out rfl
    go_wp2_with fail
    refine (rnum_in g x.ma (HF.out.nums _ (by simp)) HI7.out (by have := HL7.out; omega)).mono ?_
    rintro e w8 ⟨rfl, S8, st8, hst8, hl8, hi8⟩
    have HI8 := Lib.hid hi8
    have HST8 := Lib.hid hst8
    have HL8 := Lib.hid (show st8.2.length ≤ 899900000 + 160000 by have := HL7.out; omega)
    clear hi8 hst8 hl8 HI7 HL7
    clear cf
    have cf : w8.cell? ⟨b1, 19, none⟩ = some (.int .i64 x.dn) := HI8.out.cell HK1.out HO1.out rfl
    go_wp2_with fail
    refine (rnum_in g x.dn (HF.out.nums _ (by simp)) HI8.out (by have := HL8.out; omega)).mono ?_
    rintro e w9 ⟨rfl, S9, st9, hst9, hl9, hi9⟩
    have HI9 := Lib.hid hi9
    have HST9 := Lib.hid hst9
    have HL9 := Lib.hid (show st9.2.length ≤ 899900000 + 180000 by have := HL8.out; omega)
    clear hi9 hst9 hl9 HI8 HL8
    clear cf
    have cf : w9.cell? ⟨b1, 20, none⟩ = some (.int .i64 x.pd) := HI9.out.cell HK1.out HO1.out rfl
    go_wp2_with fail
    refine (rnum_in g x.pd (HF.out.nums _ (by simp)) HI9.out (by have := HL9.out; omega)).mono ?_
    rintro e w10 ⟨rfl, S10, st10, hst10, hl10, hi10⟩
    have HI10 := Lib.hid hi10
    have HST10 := Lib.hid hst10
    have HL10 := Lib.hid (show st10.2.length ≤ 899900000 + 200000 by have := HL9.out; omega)
    clear hi10 hst10 hl10 HI9 HL9
    clear cf
    go_wp2
    go_end0
    refine ⟨rfl, S10, ?_, HM1.out.trans HI10.out.mv⟩
    have hw := HI10.out.at_
    rw [HST10.out, HST9.out, HST8.out, HST7.out, HST6.out, HST5.out, HST4.out, HST3.out, HST2.out, HST1.out] at hw
    exact hw
end Go.Proofs.Ytkcecijepbceiaa
