/-
  Package inst's Left and Owes as contracts: what is left of an instruction, what is to be paid.
  Conditions: ints of 64 bits; the other fields are what they are.
-/
import Derived.Test.YtkcecijepbceiaaMoney
import Derived.Laws.Rows
import Derived.Lib.Builder
namespace Go.Proofs.Ytkcecijepbceiaa
open Go.RowKit

/-- A whole struct read out of a block, also where the operation stands behind a guard that says yes. -/
theorem wpList_load_all {P : Program} {ops : Array Oper} {rest : List Oper} {o : Oper} {a : Act} {w : World} {Q : Exit → Act → World → Prop} (hw : Region.wanted o (yielded ops a.tmps) = true) (ty : TypeId) (x : Operand) (ho : o.op = .load ty x)
    (g : Nat) (hx : a.eval x = .pointer (some ⟨g, 0, none⟩)) (t : TypeId) (cs : Array Value) (d : TypeDesc) (hg : w.heap[g]? = some (.cells cs t (0, 0)))
    (hu : P.underlying ty = some d) (hd : (match d with | .struct _ | .array _ _ => true | _ => false) = true) (hi : (P.info? ty).map (·.size) = some cs.size)
    (h : wpList P ops Q rest (a.put o.dst (.agg cs)) w) : wpList P ops Q (o :: rest) a w :=
  BigFrame.wpList_want hw fun _ hK => wp_load_row ty x ho g hx t cs (0, 0) d hg hu hd hi (hK _ _ h)
theorem wpList_load_named {P : Program} {ops : Array Oper} {rest : List Oper} {o : Oper} {a : Act} {w : World} {Q : Exit → Act → World → Prop} (hw : Region.wanted o (yielded ops a.tmps) = true) (ty : TypeId) (x : Operand) (ho : o.op = .load ty x)
    (g : Nat) (hx : a.eval x = .pointer (some ⟨g, 0, none⟩)) (t : TypeId) (cs : Array Value) (d : TypeDesc) (hg : w.heap[g]? = some (.cells cs t (0, 0)))
    (hu : P.underlying ty = some d) (hd : (match d with | .struct _ | .array _ _ => true | _ => false) = true) (hi : (P.info? ty).map (·.size) = some cs.size)
    (X : Value) (hX : X = .agg cs) (h : wpList P ops Q rest (a.put o.dst X) w) : wpList P ops Q (o :: rest) a w := by
  subst hX
  exact wpList_load_all hw ty x ho g hx t cs d hg hu hd hi h
theorem new_block {w w1 : World} {o : Obj} (hb : Below (w.alloc o).heap.size (w.alloc o) w1) : w1.heap[w.heap.size]? = some o ∧ Below w.heap.size w w1 := by
  refine ⟨?_, ((Below.refl _ w).alloc (Nat.le_refl _) _).trans (hb.mono (by simp))⟩
  rw [hb.block _ (by simp)]
  exact heap_alloc_new w o
theorem drewN_below {B : Nat} {a w : World} (h : Below B a w) (n : Nat) : Below B a (w.drewN n) := ⟨h.os, h.tape, h.output, h.size, h.block⟩
theorem size_inst : (Try.prog.info? 25).map (·.size) = some 21 := by kernel_rfl

set_option maxHeartbeats 1000000 in
set_option maxRecDepth 100000 in
theorem left_any (v0 v1 v2 v3 v4 v5 v6 v7 v8 v11 v12 v13 v14 v15 v16 v17 v18 : Value) (q a d p : Int) (w : World) (hq1 : -9223372036854775808 ≤ q) (hq2 : q ≤ 9223372036854775807) (hd1 : -9223372036854775808 ≤ d) (hd2 : d ≤ 9223372036854775807) :
    Calls Try.prog 13 #[.agg #[v0, v1, v2, v3, v4, v5, v6, v7, v8, .int .i64 q, .int .i64 a, v11, v12, v13, v14, v15, v16, v17, v18, .int .i64 d, .int .i64 p]] w fun e w' => e = .returned (.int .i64 (Ow.left q d)) ∧ Below w.heap.size w w' := by
  unfold Ow.left
  by_cases hbad : d < 0 ∨ q < d
  · rw [if_pos hbad]
    rcases (show d < 0 ∨ (0 ≤ d ∧ q < d) by omega) with h | ⟨h, h'⟩
    all_goals
      clear hbad
      go_enter Try.func13, Try.ntmps13
      go_wp2
      go_ret
      exact ⟨rfl, (Below.refl _ _).alloc (Nat.le_refl _) _⟩
  · rw [if_neg hbad]
    have h1 : 0 ≤ d := by omega
    have h2 : d ≤ q := by omega
    clear hbad
    go_enter Try.func13, Try.ntmps13
    go_wp2
    go_ret
    exact ⟨rfl, (Below.refl _ _).alloc (Nat.le_refl _) _⟩

theorem left_X (X : Value) (v0 v1 v2 v3 v4 v5 v6 v7 v8 v11 v12 v13 v14 v15 v16 v17 v18 : Value) (q a d p : Int) (w : World) (hX : X = .agg #[v0, v1, v2, v3, v4, v5, v6, v7, v8, .int .i64 q, .int .i64 a, v11, v12, v13, v14, v15, v16, v17, v18, .int .i64 d, .int .i64 p]) (hq1 : -9223372036854775808 ≤ q) (hq2 : q ≤ 9223372036854775807) (hd1 : -9223372036854775808 ≤ d) (hd2 : d ≤ 9223372036854775807) :
    Calls Try.prog 13 #[X] w fun e w' => e = .returned (.int .i64 (Ow.left q d)) ∧ Below w.heap.size w w' := by
  subst hX
  exact left_any v0 v1 v2 v3 v4 v5 v6 v7 v8 v11 v12 v13 v14 v15 v16 v17 v18 q a d p w hq1 hq2 hd1 hd2

set_option maxHeartbeats 1000000 in
set_option maxRecDepth 100000 in
theorem owes_any (v0 v1 v2 v3 v4 v5 v6 v7 v8 v11 v12 v13 v14 v15 v16 v17 v18 : Value) (q a d p n : Int) (w : World) (hq1 : -9223372036854775808 ≤ q) (hq2 : q ≤ 9223372036854775807) (ha1 : -9223372036854775808 ≤ a) (ha2 : a ≤ 9223372036854775807)
    (hd1 : -9223372036854775808 ≤ d) (hd2 : d ≤ 9223372036854775807) (hp1 : -9223372036854775808 ≤ p) (hp2 : p ≤ 9223372036854775807) (hn1 : -9223372036854775808 ≤ n) (hn2 : n ≤ 9223372036854775807) :
    Calls Try.prog 10 #[.agg #[v0, v1, v2, v3, v4, v5, v6, v7, v8, .int .i64 q, .int .i64 a, v11, v12, v13, v14, v15, v16, v17, v18, .int .i64 d, .int .i64 p], .int .i64 n] w fun e w' => e = .returned (.tuple #[.int .i64 (Ow.owV q a d p n), .int .i64 (Ow.owE q a d p n)]) ∧ Below w.heap.size w w' := by
  obtain ⟨X, HX⟩ : ∃ X : Value, Hid (X = .agg #[v0, v1, v2, v3, v4, v5, v6, v7, v8, .int .i64 q, .int .i64 a, v11, v12, v13, v14, v15, v16, v17, v18, .int .i64 d, .int .i64 p]) := ⟨_, rfl⟩
  obtain ⟨L, hL⟩ : ∃ L, Ow.left q d = L := ⟨_, rfl⟩
  have hL0 : 0 ≤ L ∧ L ≤ 9223372036854775807 := by rw [← hL]; unfold Ow.left; split <;> omega
  have hLd : n ≤ L → 0 ≤ n → -9223372036854775808 ≤ d + n ∧ d + n ≤ 9223372036854775807 := by rw [← hL]; unfold Ow.left; split <;> omega
  obtain ⟨hL1, hL2⟩ := hL0
  have HL := Lib.hid hL; clear hL
  have HLd := Lib.hid hLd; clear hLd
  have hcs : n < 0 ∨ (0 ≤ n ∧ L < n) ∨ (0 ≤ n ∧ n ≤ L ∧ p < 0) ∨ (0 ≤ n ∧ n ≤ L ∧ 0 ≤ p) := by omega
  rcases hcs with h | ⟨h, h'⟩ | ⟨h, h', h''⟩ | ⟨h, h', h''⟩
  · have he : Ow.owE q a d p n = 1 := by unfold Ow.owE; rw [if_pos (.inl h)]
    have hv : Ow.owV q a d p n = 0 := by unfold Ow.owV; rw [he]; rfl
    rw [he, hv]; clear he hv
    go_enter Try.func10, Try.ntmps10
    go_wp2
    go_ret2
    exact ⟨rfl, (Below.refl _ _).alloc (Nat.le_refl _) _⟩
  · have he : Ow.owE q a d p n = 1 := by unfold Ow.owE; rw [HL.out, if_pos (.inr (.inl h'))]
    have hv : Ow.owV q a d p n = 0 := by unfold Ow.owV; rw [he]; rfl
    rw [he, hv]; clear he hv
    have hn0 : decide (n < 0) = false := by simp; omega
    go_enter Try.func10, Try.ntmps10
    go_wp2_with (refine wpList_load_named rfl 25 _ rfl _ rfl _ _ _ (heap_alloc_new w _) Try.underlying25 rfl size_inst X HX.out ?_)
    refine (left_X X v0 v1 v2 v3 v4 v5 v6 v7 v8 v11 v12 v13 v14 v15 v16 v17 v18 q a d p _ HX.out hq1 hq2 hd1 hd2).mono ?_
    rw [HL.out]
    rintro e w1 ⟨rfl, hb1⟩
    have hb := (new_block hb1).2
    clear hb1
    go_wp2
    go_ret2
    exact ⟨rfl, hb⟩
  · have he : Ow.owE q a d p n = 1 := by unfold Ow.owE; rw [if_pos (.inr (.inr h''))]
    have hv : Ow.owV q a d p n = 0 := by unfold Ow.owV; rw [he]; rfl
    rw [he, hv]; clear he hv
    have hn0 : decide (n < 0) = false := by simp; omega
    go_enter Try.func10, Try.ntmps10
    go_wp2_with (refine wpList_load_named rfl 25 _ rfl _ rfl _ _ _ (heap_alloc_new w _) Try.underlying25 rfl size_inst X HX.out ?_)
    refine (left_X X v0 v1 v2 v3 v4 v5 v6 v7 v8 v11 v12 v13 v14 v15 v16 v17 v18 q a d p _ HX.out hq1 hq2 hd1 hd2).mono ?_
    rw [HL.out]
    rintro e w1 ⟨rfl, hb1⟩
    obtain ⟨hk, hb⟩ := new_block hb1
    have c20 : w1.cell? ⟨w.heap.size, 20, none⟩ = some (.int .i64 p) := by rw [Lib.cell_of_heap hk]; rfl
    clear hb1
    have HK := Lib.hid hk; clear hk
    go_wp2
    go_ret2
    exact ⟨rfl, hb⟩
  · obtain ⟨hdn1, hdn2⟩ := HLd.out h' h
    obtain ⟨m, hm⟩ : ∃ m : Int, d + n = m := ⟨_, rfl⟩
    obtain ⟨E, hE⟩ : ∃ E : Int, Ow.shE a m q = E := ⟨_, rfl⟩
    obtain ⟨V, hV⟩ : ∃ V : Int, Ow.shV a m q = V := ⟨_, rfl⟩
    have hVb : E = 0 → 0 ≤ V ∧ V ≤ 1152921504606846976 := by
      intro h0
      rw [← hV]
      exact Ow.shV_range (hE.trans h0)
    have hcond : ¬ (n < 0 ∨ Ow.left q d < n ∨ p < 0) := by rw [HL.out]; omega
    have he : Ow.owE q a d p n = if E ≠ 0 then E else if V < p then 1 else 0 := by unfold Ow.owE; rw [if_neg hcond, hm, hE, hV]
    have hv : Ow.owV q a d p n = if Ow.owE q a d p n = 0 then V - p else 0 := by unfold Ow.owV; rw [hm, hV]
    rw [hm] at hdn1 hdn2
    have HM := Lib.hid hm
    have HE := Lib.hid hE; clear hE
    have HV := Lib.hid hV; clear hV hcond
    rcases (show E ≠ 0 ∨ (E = 0 ∧ V < p) ∨ (E = 0 ∧ p ≤ V) by omega) with hc | ⟨hc, hc2⟩ | ⟨hc, hc2⟩
    · rw [if_pos hc] at he
      rw [he, if_neg hc] at hv
      have hcb : (E != 0) = true := by simp [hc]
      have Hc := Lib.hid hc; clear hc hVb
      rw [he, hv]; clear he hv
      have hn0 : decide (n < 0) = false := by simp; omega
      go_enter Try.func10, Try.ntmps10
      go_wp2_with (refine wpList_load_named rfl 25 _ rfl _ rfl _ _ _ (heap_alloc_new w _) Try.underlying25 rfl size_inst X HX.out ?_)
      refine (left_X X v0 v1 v2 v3 v4 v5 v6 v7 v8 v11 v12 v13 v14 v15 v16 v17 v18 q a d p _ HX.out hq1 hq2 hd1 hd2).mono ?_
      rw [HL.out]
      rintro e w1 ⟨rfl, hb1⟩
      obtain ⟨hk, hb⟩ := new_block hb1
      have c20 : w1.cell? ⟨w.heap.size, 20, none⟩ = some (.int .i64 p) := by rw [Lib.cell_of_heap hk]; rfl
      have c19 : w1.cell? ⟨w.heap.size, 19, none⟩ = some (.int .i64 d) := by rw [Lib.cell_of_heap hk]; rfl
      have c10 : w1.cell? ⟨w.heap.size, 10, none⟩ = some (.int .i64 a) := by rw [Lib.cell_of_heap hk]; rfl
      have c9 : w1.cell? ⟨w.heap.size, 9, none⟩ = some (.int .i64 q) := by rw [Lib.cell_of_heap hk]; rfl
      clear hb1
      have HK := Lib.hid hk; clear hk
      go_wp2_with fail
      refine (share_any a m q ha1 ha2 hdn1 hdn2 hq1 hq2 _).mono ?_
      rw [HE.out, HV.out]
      rintro e w2 ⟨rfl, k, rfl⟩
      go_wp2
      go_ret2
      exact ⟨rfl, drewN_below hb k⟩
    · subst hc
      rw [if_neg (by simp), if_pos hc2] at he
      rw [he, if_neg (by decide)] at hv
      rw [he, hv]; clear he hv
      have hn0 : decide (n < 0) = false := by simp; omega
      go_enter Try.func10, Try.ntmps10
      go_wp2_with (refine wpList_load_named rfl 25 _ rfl _ rfl _ _ _ (heap_alloc_new w _) Try.underlying25 rfl size_inst X HX.out ?_)
      refine (left_X X v0 v1 v2 v3 v4 v5 v6 v7 v8 v11 v12 v13 v14 v15 v16 v17 v18 q a d p _ HX.out hq1 hq2 hd1 hd2).mono ?_
      rw [HL.out]
      rintro e w1 ⟨rfl, hb1⟩
      obtain ⟨hk, hb⟩ := new_block hb1
      have c20 : w1.cell? ⟨w.heap.size, 20, none⟩ = some (.int .i64 p) := by rw [Lib.cell_of_heap hk]; rfl
      have c19 : w1.cell? ⟨w.heap.size, 19, none⟩ = some (.int .i64 d) := by rw [Lib.cell_of_heap hk]; rfl
      have c10 : w1.cell? ⟨w.heap.size, 10, none⟩ = some (.int .i64 a) := by rw [Lib.cell_of_heap hk]; rfl
      have c9 : w1.cell? ⟨w.heap.size, 9, none⟩ = some (.int .i64 q) := by rw [Lib.cell_of_heap hk]; rfl
      clear hb1
      have HK := Lib.hid hk; clear hk
      go_wp2_with fail
      refine (share_any a m q ha1 ha2 hdn1 hdn2 hq1 hq2 _).mono ?_
      rw [HE.out, HV.out]
      rintro e w2 ⟨rfl, k, rfl⟩
      go_wp2
      go_ret2
      exact ⟨rfl, drewN_below hb k⟩
    · subst hc
      obtain ⟨hV1, hV2⟩ := hVb rfl
      rw [if_neg (by simp), if_neg (by omega)] at he
      rw [he, if_pos rfl] at hv
      rw [he, hv]; clear he hv hVb
      have hn0 : decide (n < 0) = false := by simp; omega
      go_enter Try.func10, Try.ntmps10
      go_wp2_with (refine wpList_load_named rfl 25 _ rfl _ rfl _ _ _ (heap_alloc_new w _) Try.underlying25 rfl size_inst X HX.out ?_)
      refine (left_X X v0 v1 v2 v3 v4 v5 v6 v7 v8 v11 v12 v13 v14 v15 v16 v17 v18 q a d p _ HX.out hq1 hq2 hd1 hd2).mono ?_
      rw [HL.out]
      rintro e w1 ⟨rfl, hb1⟩
      obtain ⟨hk, hb⟩ := new_block hb1
      have c20 : w1.cell? ⟨w.heap.size, 20, none⟩ = some (.int .i64 p) := by rw [Lib.cell_of_heap hk]; rfl
      have c19 : w1.cell? ⟨w.heap.size, 19, none⟩ = some (.int .i64 d) := by rw [Lib.cell_of_heap hk]; rfl
      have c10 : w1.cell? ⟨w.heap.size, 10, none⟩ = some (.int .i64 a) := by rw [Lib.cell_of_heap hk]; rfl
      have c9 : w1.cell? ⟨w.heap.size, 9, none⟩ = some (.int .i64 q) := by rw [Lib.cell_of_heap hk]; rfl
      clear hb1
      have HK := Lib.hid hk; clear hk
      go_wp2_with fail
      refine (share_any a m q ha1 ha2 hdn1 hdn2 hq1 hq2 _).mono ?_
      rw [HE.out, HV.out]
      rintro e w2 ⟨rfl, k, rfl⟩
      go_wp2
      go_ret2
      exact ⟨rfl, drewN_below hb k⟩
end Go.Proofs.Ytkcecijepbceiaa
