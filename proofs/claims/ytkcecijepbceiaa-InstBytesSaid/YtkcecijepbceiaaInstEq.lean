/-
  Two terms, two instructions that are the same compare as the same; is a term small?
  Conditions: none.
-/
import Derived.Laws.StructEq
import Derived.Test.YtkcecijepbceiaaInstPut
namespace Go.Proofs.Ytkcecijepbceiaa
open Go.RowKit

theorem und_term : Try.prog.underlying 23 = some (.struct (Try.prog.fieldsOf 23)) := by kernel_rfl
theorem held_term : Try.prog.stoodInHeld 23 = false := by kernel_rfl
theorem eqg_term : Try.prog.eqGuardType Try.prog.depth 23 = false := by kernel_rfl
theorem und_inst : Try.prog.underlying 25 = some (.struct (Try.prog.fieldsOf 25)) := by kernel_rfl
theorem held_inst : Try.prog.stoodInHeld 25 = false := by kernel_rfl
theorem eqg_inst : Try.prog.eqGuardType Try.prog.depth 25 = false := by kernel_rfl
set_option maxRecDepth 10000 in
theorem run_eq_term (w : World) (d : Nat) (x : Trm) : (Op.equalIn (d + 2) 23 (.agg x.cells) (.agg x.cells)).run Try.prog w = .ok true w := by
  obtain ⟨p, a, m, o, dl, ss, c, r, q, am, dy, td⟩ := x
  unfold Trm.cells
  rw [run_equalIn_struct w (d + 1) _ _ _ und_term held_term]
  have hf : (Try.prog.fieldsOf 23).toList.map (fun f => (decide (f.name ≠ "_"), f.type, f.offset)) = [(true, 9, 0), (true, 9, 1), (true, 9, 2), (true, 9, 3), (true, 4, 4), (true, 9, 5), (true, 9, 6), (true, 9, 7), (true, 3, 8), (true, 3, 9), (true, 3, 10), (true, 3, 11)] := by kernel_rfl
  generalize (Try.prog.fieldsOf 23).toList = fl at hf ⊢
  rcases fl with _ | ⟨f0, _ | ⟨f1, _ | ⟨f2, _ | ⟨f3, _ | ⟨f4, _ | ⟨f5, _ | ⟨f6, _ | ⟨f7, _ | ⟨f8, _ | ⟨f9, _ | ⟨f10, _ | ⟨f11, _ | ⟨f12, rr⟩⟩⟩⟩⟩⟩⟩⟩⟩⟩⟩⟩⟩
  all_goals first
    | (exfalso; simp at hf; done)
    | skip
  simp only [List.map_cons, List.map_nil, List.cons.injEq, Prod.mk.injEq, decide_eq_true_eq, and_true] at hf
  obtain ⟨⟨a0, b0, c0⟩, ⟨a1, b1, c1⟩, ⟨a2, b2, c2⟩, ⟨a3, b3, c3⟩, ⟨a4, b4, c4⟩, ⟨a5, b5, c5⟩, ⟨a6, b6, c6⟩, ⟨a7, b7, c7⟩, ⟨a8, b8, c8⟩, ⟨a9, b9, c9⟩, ⟨a10, b10, c10⟩, a11, b11, c11⟩ := hf
  simp [Op.eqFields, a0, b0, c0, a1, b1, c1, a2, b2, c2, a3, b3, c3, a4, b4, c4, a5, b5, c5, a6, b6, c6, a7, b7, c7, a8, b8, c8, a9, b9, c9, a10, b10, c10, a11, b11, c11, part, sizeOf, typeInfo, isAgg, Sem.run_bind, run_underlying, run_equalIn_string w d _ _ _ Try.underlying9, run_equalIn_bool' w d _ _ _ Try.underlying4, run_equalIn_int w d _ .i64 .i64 _ _ Try.underlying3, Result.andThen]
set_option maxRecDepth 10000 in
theorem run_eq_inst (w : World) (x : Ins) : (Op.equalIn 10000 25 (.agg x.cells) (.agg x.cells)).run Try.prog w = .ok true w := by
  obtain ⟨id, ⟨p, a, m, o, dl, ss, c, r, q, am, dy, td⟩, pr, part_, held, wish, st, ma, dn, pd⟩ := x
  unfold Ins.cells
  rw [run_equalIn_struct w 9999 _ _ _ und_inst held_inst]
  have ht : (Op.equalIn 9999 23 (.agg #[.string p, .string a, .string m, .string o, .bool dl, .string ss, .string c, .string r, .int .i64 q, .int .i64 am, .int .i64 dy, .int .i64 td]) (.agg #[.string p, .string a, .string m, .string o, .bool dl, .string ss, .string c, .string r, .int .i64 q, .int .i64 am, .int .i64 dy, .int .i64 td])).run Try.prog w = .ok true w := run_eq_term w 9997 ⟨p, a, m, o, dl, ss, c, r, q, am, dy, td⟩
  have hi : (Try.prog.info? 23).map (·.size) = some 12 := size_term
  have hf : (Try.prog.fieldsOf 25).toList.map (fun f => (decide (f.name ≠ "_"), f.type, f.offset)) = [(true, 3, 0), (true, 23, 1), (true, 3, 13), (true, 4, 14), (true, 4, 15), (true, 4, 16), (true, 3, 17), (true, 3, 18), (true, 3, 19), (true, 3, 20)] := by kernel_rfl
  generalize (Try.prog.fieldsOf 25).toList = fl at hf ⊢
  rcases fl with _ | ⟨f0, _ | ⟨f1, _ | ⟨f2, _ | ⟨f3, _ | ⟨f4, _ | ⟨f5, _ | ⟨f6, _ | ⟨f7, _ | ⟨f8, _ | ⟨f9, _ | ⟨f10, rr⟩⟩⟩⟩⟩⟩⟩⟩⟩⟩⟩
  all_goals first
    | (exfalso; simp at hf; done)
    | skip
  simp only [List.map_cons, List.map_nil, List.cons.injEq, Prod.mk.injEq, decide_eq_true_eq, and_true] at hf
  obtain ⟨⟨a0, b0, c0⟩, ⟨a1, b1, c1⟩, ⟨a2, b2, c2⟩, ⟨a3, b3, c3⟩, ⟨a4, b4, c4⟩, ⟨a5, b5, c5⟩, ⟨a6, b6, c6⟩, ⟨a7, b7, c7⟩, ⟨a8, b8, c8⟩, a9, b9, c9⟩ := hf
  cases hq : Try.prog.info? 23 with
  | none => rw [hq] at hi; cases hi
  | some i =>
    have hs : i.size = 12 := by simpa [hq] using hi
    simp [Op.eqFields, a0, b0, c0, a1, b1, c1, a2, b2, c2, a3, b3, c3, a4, b4, c4, a5, b5, c5, a6, b6, c6, a7, b7, c7, a8, b8, c8, a9, b9, c9, part, sizeOf, typeInfo, isAgg, Sem.run_bind, run_underlying, hq, hs, Try.underlying23, run_equalIn_int w 9998 _ .i64 .i64 _ _ Try.underlying3, Result.andThen]
    have hint : ∀ v : Int, (Op.equalIn 9999 3 (.int .i64 v) (.int .i64 v)).run Try.prog w = .ok true w := fun v => by rw [run_equalIn_int w 9998 _ .i64 .i64 v v Try.underlying3, beq_self_eq_true]
    have hbool : ∀ v : Bool, (Op.equalIn 9999 4 (.bool v) (.bool v)).run Try.prog w = .ok true w := fun v => by rw [run_equalIn_bool' w 9998 _ v v Try.underlying4, beq_self_eq_true]
    rw [ht]
    simp [hint, hbool]
/-- Two structs that are the same, compared. -/
theorem wpList_eq_same {ops : Array Oper} {rest : List Oper} {o : Oper} {a : Act} {w : World} {Q : Exit → Act → World → Prop} (hw : Region.wanted o (yielded ops a.tmps) = true) (T : TypeId) (x y : Operand) (z : TypeId) (ho : o.op = .binOp .eql T x y z)
    (cs : Array Value) (hx : a.eval x = .agg cs) (hy : a.eval y = .agg cs) (hg : Try.prog.eqGuardType Try.prog.depth T = false) (hrun : (Op.equalIn 10000 T (.agg cs) (.agg cs)).run Try.prog w = .ok true w)
    (h : wpList Try.prog ops Q rest (a.put o.dst (.bool true)) w) : wpList Try.prog ops Q (o :: rest) a w := by
  refine BigFrame.wpList_want hw fun K hK => ?_
  have h1 := run_eqGuard_agg (P := Try.prog) w .eql T x y cs cs hg
  have h2 := run_eql_struct (P := Try.prog) w T cs cs
  rw [hrun] at h2
  unfold Oper.wp execOp
  simp only [ho, hx, hy, Sem.run_bind, h1, h2, Result.andThen_ok]
  exact hK _ _ h
def smallB (x : Trm) : Bool := decide ((x.p.size : Int) ≤ 900) && (decide ((x.a.size : Int) ≤ 900) && (decide ((x.m.size : Int) ≤ 900) && (decide ((x.o.size : Int) ≤ 900) && (decide ((x.s.size : Int) ≤ 900) && (decide ((x.c.size : Int) ≤ 900) && decide ((x.r.size : Int) ≤ 1100))))))
set_option maxHeartbeats 4000000 in
set_option maxRecDepth 100000 in
theorem small_any (x : Trm) (w : World) : Calls Try.prog 15 #[.agg x.cells] w fun e w' => e = .returned (.bool (smallB x)) ∧ Below w.heap.size w w' := by
  obtain ⟨p, a, m, o, dl, ss, c, r, q, am, dy, td⟩ := x
  unfold smallB
  show Calls Try.prog 15 #[.agg #[.string p, .string a, .string m, .string o, .bool dl, .string ss, .string c, .string r, .int .i64 q, .int .i64 am, .int .i64 dy, .int .i64 td]] w _
  by_cases h1 : (p.size : Int) ≤ 900
  · by_cases h2 : (a.size : Int) ≤ 900
    · by_cases h3 : (m.size : Int) ≤ 900
      · by_cases h4 : (o.size : Int) ≤ 900
        · by_cases h5 : (ss.size : Int) ≤ 900
          · by_cases h6 : (c.size : Int) ≤ 900
            · by_cases h7 : (r.size : Int) ≤ 1100
              all_goals
                go_enter Try.func15, Try.ntmps15
                go_wp2
                go_ret
                exact ⟨ret_bool (by first | rfl | (simp; done) | (simp; intros; omega)), (Below.refl _ _).alloc (Nat.le_refl _) _⟩
            · go_enter Try.func15, Try.ntmps15
              go_wp2
              go_ret
              exact ⟨ret_bool (by first | rfl | (simp; done) | (simp; intros; omega)), (Below.refl _ _).alloc (Nat.le_refl _) _⟩
          · go_enter Try.func15, Try.ntmps15
            go_wp2
            go_ret
            exact ⟨ret_bool (by first | rfl | (simp; done) | (simp; intros; omega)), (Below.refl _ _).alloc (Nat.le_refl _) _⟩
        · go_enter Try.func15, Try.ntmps15
          go_wp2
          go_ret
          exact ⟨ret_bool (by first | rfl | (simp; done) | (simp; intros; omega)), (Below.refl _ _).alloc (Nat.le_refl _) _⟩
      · go_enter Try.func15, Try.ntmps15
        go_wp2
        go_ret
        exact ⟨ret_bool (by first | rfl | (simp; done) | (simp; intros; omega)), (Below.refl _ _).alloc (Nat.le_refl _) _⟩
    · go_enter Try.func15, Try.ntmps15
      go_wp2
      go_ret
      exact ⟨ret_bool (by first | rfl | (simp; done) | (simp; intros; omega)), (Below.refl _ _).alloc (Nat.le_refl _) _⟩
  · go_enter Try.func15, Try.ntmps15
    go_wp2
    go_ret
    exact ⟨ret_bool (by first | rfl | (simp; done) | (simp; intros; omega)), (Below.refl _ _).alloc (Nat.le_refl _) _⟩
end Go.Proofs.Ytkcecijepbceiaa
