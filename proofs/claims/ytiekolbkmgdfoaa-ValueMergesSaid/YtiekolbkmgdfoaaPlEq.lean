/-
  Two pledges are the same just if their names and quantities are.
  Conditions: none.
-/
import Derived.Laws.StructEq
import Derived.Deep.QuietTactic
import Derived.BigQuiet
import Derived.Test.YtiekolbkmgdfoaaPick
namespace Go.Proofs.Ytiekolbkmgdfoaa
open Go.RowKit

theorem size_pledge : (Try.prog.info? 36).map (·.size) = some 2 := by kernel_rfl
theorem und_pledge : Try.prog.underlying 36 = some (.struct (Try.prog.fieldsOf 36)) := by kernel_rfl
theorem held_pledge : Try.prog.stoodInHeld 36 = false := by kernel_rfl
theorem eqg_pledge : Try.prog.eqGuardType Try.prog.depth 36 = false := by kernel_rfl
theorem run_eq_pledge (w : World) (s s' : ByteArray) (q q' : Int) : (Op.equalIn 10000 36 (.agg #[.string s, .int .i64 q]) (.agg #[.string s', .int .i64 q'])).run Try.prog w = .ok (s.toList == s'.toList && q == q') w := by
  rw [run_equalIn_struct w 9999 _ _ _ und_pledge held_pledge]
  have hf : (Try.prog.fieldsOf 36).toList.map (fun f => (decide (f.name ≠ "_"), f.type, f.offset)) = [(true, 9, 0), (true, 3, 1)] := by kernel_rfl
  generalize (Try.prog.fieldsOf 36).toList = fl at hf ⊢
  rcases fl with _ | ⟨f, _ | ⟨g, _ | ⟨x, r⟩⟩⟩
  · simp at hf
  · simp at hf
  · simp only [List.map_cons, List.map_nil, List.cons.injEq, Prod.mk.injEq, decide_eq_true_eq, and_true] at hf
    obtain ⟨⟨h1, h2, h3⟩, h4, h5, h6⟩ := hf
    simp [Op.eqFields, h1, h2, h3, h4, h5, h6, part, sizeOf, typeInfo, isAgg, Sem.run_bind, run_underlying]
    rw [run_equalIn_string w 9998 _ s s' Try.underlying9]
    simp only [Result.andThen]
    rw [run_equalIn_int w 9998 _ .i64 .i64 q q' Try.underlying3]
    cases s.toList == s'.toList <;> cases q == q' <;> simp
  · simp at hf
/-- Two pledges compared. -/
theorem wpList_eq_pledge {ops : Array Oper} {rest : List Oper} {o : Oper} {a : Act} {w : World} {Q : Exit → Act → World → Prop} (hw : Region.wanted o (yielded ops a.tmps) = true) (x y : Operand) (z : TypeId) (ho : o.op = .binOp .eql 36 x y z)
    (s s' : ByteArray) (q q' : Int) (hx : a.eval x = .agg #[.string s, .int .i64 q]) (hy : a.eval y = .agg #[.string s', .int .i64 q'])
    (h : wpList Try.prog ops Q rest (a.put o.dst (.bool (s.toList == s'.toList && q == q'))) w) : wpList Try.prog ops Q (o :: rest) a w := by
  refine BigFrame.wpList_want hw fun K hK => ?_
  have h1 := run_eqGuard_agg (P := Try.prog) w .eql 36 x y #[.string s, .int .i64 q] #[.string s', .int .i64 q'] eqg_pledge
  have h2 := run_eql_struct (P := Try.prog) w 36 #[.string s, .int .i64 q] #[.string s', .int .i64 q']
  rw [run_eq_pledge] at h2
  unfold Oper.wp execOp
  simp only [ho, hx, hy, Sem.run_bind, h1, h2, Result.andThen_ok]
  exact hK _ _ h
theorem wpList_ne_pledge {ops : Array Oper} {rest : List Oper} {o : Oper} {a : Act} {w : World} {Q : Exit → Act → World → Prop} (hw : Region.wanted o (yielded ops a.tmps) = true) (x y : Operand) (z : TypeId) (ho : o.op = .binOp .neq 36 x y z)
    (s s' : ByteArray) (q q' : Int) (hx : a.eval x = .agg #[.string s, .int .i64 q]) (hy : a.eval y = .agg #[.string s', .int .i64 q'])
    (h : wpList Try.prog ops Q rest (a.put o.dst (.bool !(s.toList == s'.toList && q == q'))) w) : wpList Try.prog ops Q (o :: rest) a w := by
  refine BigFrame.wpList_want hw fun K hK => ?_
  have h1 := run_eqGuard_agg (P := Try.prog) w .neq 36 x y #[.string s, .int .i64 q] #[.string s', .int .i64 q'] eqg_pledge
  have h2 := run_neq_struct (P := Try.prog) w 36 #[.string s, .int .i64 q] #[.string s', .int .i64 q']
  rw [run_eq_pledge] at h2
  unfold Oper.wp execOp
  simp only [ho, hx, hy, Sem.run_bind, h1, h2, Result.andThen_ok]
  exact hK _ _ h
/-- A whole struct read, in a region that draws its order and only reads. -/
theorem wpQuiet_load_cells {P : Program} {ops : Array Oper} {C : World → Prop} {Q : Act → Prop} {rest : List Oper} {o : Oper} {a : Act} (hw : Region.wanted o (yielded ops a.tmps) = true) (ty : TypeId) (x : Operand) (ho : o.op = .load ty x)
    (ad : Addr) (hx : a.eval x = .pointer (some ad)) (cs : List Value) (d : TypeDesc) (hc : ∀ w, C w → ∀ j v, cs[j]? = some v → w.cell? (ad.add j) = some v)
    (hu : P.underlying ty = some d) (hd : (match d with | .struct _ | .array _ _ => true | _ => false) = true) (hi : (P.info? ty).map (·.size) = some cs.length)
    (h : wpQuiet P ops C Q rest (a.put o.dst (.agg cs.toArray))) : wpQuiet P ops C Q (o :: rest) a := by
  refine BigFrame.wpQuiet_want hw fun K hK => ⟨.agg cs.toArray, fun w hcw => ?_, hK _ h⟩
  have hl := run_loadCells_list (P := P) w ad cs (hc w hcw)
  have hrun : (loadVar ty ad).run P w = .ok (.agg cs.toArray) w := by
    cases hq : P.info? ty with
    | none => simp [hq] at hi
    | some i =>
      have hs : i.size = cs.length := by simpa [hq] using hi
      have hagg : (isAgg ty).run P w = .ok true w := by
        unfold isAgg
        rw [Sem.run_bind, run_underlying hu w]
        cases d <;> simp_all
      simp [loadVar, Sem.run_bind, hagg, sizeOf, typeInfo, hq, hs, hl]
  unfold Oper.quietAt execOp
  simp only [ho, hx, Instr.loadAt, Instr.sureAddr, Sem.run_bind, Sem.run_pure, Result.andThen_ok, hrun]
  exact ⟨rfl, rfl⟩
/-- Two pledges compared, in such a region. -/
theorem wpQuiet_ne_pledge {ops : Array Oper} {C : World → Prop} {Q : Act → Prop} {rest : List Oper} {o : Oper} {a : Act} (hw : Region.wanted o (yielded ops a.tmps) = true) (x y : Operand) (z : TypeId) (ho : o.op = .binOp .neq 36 x y z)
    (s s' : ByteArray) (q q' : Int) (hx : a.eval x = .agg #[.string s, .int .i64 q]) (hy : a.eval y = .agg #[.string s', .int .i64 q'])
    (h : wpQuiet Try.prog ops C Q rest (a.put o.dst (.bool !(s.toList == s'.toList && q == q')))) : wpQuiet Try.prog ops C Q (o :: rest) a := by
  refine BigFrame.wpQuiet_want hw fun K hK => ⟨_, fun w _ => ?_, hK _ h⟩
  have h1 := run_eqGuard_agg (P := Try.prog) w .neq 36 x y #[.string s, .int .i64 q] #[.string s', .int .i64 q'] eqg_pledge
  have h2 := run_neq_struct (P := Try.prog) w 36 #[.string s, .int .i64 q] #[.string s', .int .i64 q']
  rw [run_eq_pledge] at h2
  unfold Oper.quietAt execOp
  simp only [ho, hx, hy, Sem.run_bind, h1, h2, Result.andThen_ok]
  exact ⟨rfl, rfl⟩
end Go.Proofs.Ytiekolbkmgdfoaa
