/-
 Two lists of the same assets are the same.
 Conditions: the lists lie in memory.
-/
import Derived.Laws.StructEq
import Derived.Deep.QuietTactic
import Derived.BigQuiet
import Derived.Test.YtnpkplegeddhcaaGreatRef7
namespace Go.Proofs.YtnpkplegeddhcaaGreat
open Go.RowKit Go.Maps

theorem und_asset : Tryz.prog.underlying 92 = some (.struct (Tryz.prog.fieldsOf 92)) := by kernel_rfl
theorem held_asset : Tryz.prog.stoodInHeld 92 = false := by kernel_rfl
theorem eqg_asset : Tryz.prog.eqGuardType Tryz.prog.depth 92 = false := by kernel_rfl
theorem run_eq_asset (w : World) (x : Asset) : (Op.equalIn 10000 92 (.agg #[.string x.name, .bool x.cash, .bool x.pledge, .int .i64 x.unit, .int .i64 x.least, .int .i64 x.price, .int .i64 x.cut, .int .i64 x.close]) (.agg #[.string x.name, .bool x.cash, .bool x.pledge, .int .i64 x.unit, .int .i64 x.least, .int .i64 x.price, .int .i64 x.cut, .int .i64 x.close])).run Tryz.prog w = .ok true w := by
 rw [run_equalIn_struct w 9999 _ _ _ und_asset held_asset]
 have hf : (Tryz.prog.fieldsOf 92).toList.map (fun f => (decide (f.name ≠ "_"), f.type, f.offset)) = [(true, 9, 0), (true, 4, 1), (true, 4, 2), (true, 3, 3), (true, 3, 4), (true, 3, 5), (true, 3, 6), (true, 3, 7)] := by kernel_rfl
 generalize (Tryz.prog.fieldsOf 92).toList = fl at hf ⊢
 rcases fl with _ | ⟨f0, _ | ⟨f1, _ | ⟨f2, _ | ⟨f3, _ | ⟨f4, _ | ⟨f5, _ | ⟨f6, _ | ⟨f7, _ | ⟨f8, r⟩⟩⟩⟩⟩⟩⟩⟩⟩
 all_goals first
  | (exfalso; simp at hf; done)
  | skip
 simp only [List.map_cons, List.map_nil, List.cons.injEq, Prod.mk.injEq, decide_eq_true_eq, and_true] at hf
 obtain ⟨⟨a1, b1, c1⟩, ⟨a2, b2, c2⟩, ⟨a3, b3, c3⟩, ⟨a4, b4, c4⟩, ⟨a5, b5, c5⟩, ⟨a6, b6, c6⟩, ⟨a7, b7, c7⟩, a8, b8, c8⟩ := hf
 simp [Op.eqFields, a1, b1, c1, a2, b2, c2, a3, b3, c3, a4, b4, c4, a5, b5, c5, a6, b6, c6, a7, b7, c7, a8, b8, c8, part, sizeOf, typeInfo, isAgg, Sem.run_bind, run_underlying]
 rw [run_equalIn_string w 9998 _ x.name x.name Tryz.underlying9]
 simp [Result.andThen, run_equalIn_bool' w 9998 _ _ _ Tryz.underlying4, run_equalIn_int w 9998 _ .i64 .i64 _ _ Tryz.underlying3]
/-- A whole struct read, in a region that draws its order and only reads. -/
theorem wpQuiet_load_cells {P : Program} {ops : Array Oper} {C : World → Prop} {Q : Act → Prop} {rest : List Oper} {o : Oper} {a : Act} (hw : Region.wanted o (yielded ops a.tmps) = true) (ty : TypeId) (x : Operand) (ho : o.op = .load ty x)
  (ad : Addr) (hx : a.eval x = .pointer (some ad)) (cs : List Value) (d : TypeDesc) (hc : ∀ w, C w → ∀ j v, cs[j]? = some v → w.cell? (ad.add j) = some v)
  (hu : P.underlying ty = some d) (hd : (match d with | .struct _ | .array _ _ => true | _ => false) = true) (hi : (P.info? ty).map (·.size) = some cs.length)
  (h : wpQuiet P ops C Q rest (a.put o.dst (.agg cs.toArray))) : wpQuiet P ops C Q (o :: rest) a := by
 refine BigFrame.wpQuiet_want hw fun K hK => ⟨.agg cs.toArray, fun w hcw => ?_, hK _ h⟩
 have hl := run_loadCells_list (P := P) w ad cs (hc w hcw)
 have hrun : (loadVar ty ad).run P w = .ok (.agg cs.toArray) w := by
  cases hq : P.info? ty with
  | none => simp [hq] at hi
  | some i =>
   have hs : i.size = cs.length := by simpa [hq] using hi
   have hagg : (isAgg ty).run P w = .ok true w := by
    unfold isAgg
    rw [Sem.run_bind, run_underlying hu w]
    cases d <;> simp_all
   simp [loadVar, Sem.run_bind, hagg, sizeOf, typeInfo, hq, hs, hl]
 unfold Oper.quietAt execOp
 simp only [ho, hx, Instr.loadAt, Instr.sureAddr, Sem.run_bind, Sem.run_pure, Result.andThen_ok, hrun]
 exact ⟨rfl, rfl⟩
/-- Two assets compared, in such a region. -/
theorem wpQuiet_eq_asset {ops : Array Oper} {C : World → Prop} {Q : Act → Prop} {rest : List Oper} {o : Oper} {a : Act} (hw : Region.wanted o (yielded ops a.tmps) = true) (u v : Operand) (z : TypeId) (ho : o.op = .binOp .eql 92 u v z)
  (x : Asset) (hx : a.eval u = .agg #[.string x.name, .bool x.cash, .bool x.pledge, .int .i64 x.unit, .int .i64 x.least, .int .i64 x.price, .int .i64 x.cut, .int .i64 x.close]) (hy : a.eval v = .agg #[.string x.name, .bool x.cash, .bool x.pledge, .int .i64 x.unit, .int .i64 x.least, .int .i64 x.price, .int .i64 x.cut, .int .i64 x.close])
  (h : wpQuiet Tryz.prog ops C Q rest (a.put o.dst (.bool true))) : wpQuiet Tryz.prog ops C Q (o :: rest) a := by
 refine BigFrame.wpQuiet_want hw fun K hK => ⟨_, fun w _ => ?_, hK _ h⟩
 have h1 := run_eqGuard_agg (P := Tryz.prog) w .eql 92 u v #[.string x.name, .bool x.cash, .bool x.pledge, .int .i64 x.unit, .int .i64 x.least, .int .i64 x.price, .int .i64 x.cut, .int .i64 x.close] #[.string x.name, .bool x.cash, .bool x.pledge, .int .i64 x.unit, .int .i64 x.least, .int .i64 x.price, .int .i64 x.cut, .int .i64 x.close] eqg_asset
 have h2 := run_eql_struct (P := Tryz.prog) w 92 #[.string x.name, .bool x.cash, .bool x.pledge, .int .i64 x.unit, .int .i64 x.least, .int .i64 x.price, .int .i64 x.cut, .int .i64 x.close] #[.string x.name, .bool x.cash, .bool x.pledge, .int .i64 x.unit, .int .i64 x.least, .int .i64 x.price, .int .i64 x.cut, .int .i64 x.close]
 rw [run_eq_asset] at h2
 unfold Oper.quietAt execOp
 simp only [ho, hx, hy, Sem.run_bind, h1, h2, Result.andThen_ok]
 exact ⟨rfl, rfl⟩
theorem RowsAt.keep {α : Type} [Kd α] {w w' : World} {B N : Nat} {A : Option Addr} {l : List α} (h : RowsAt w B A N l) (hb : Below B w w') : RowsAt w' B A N l := ⟨fun hn => by
 obtain ⟨ad, e, hB, hc⟩ := h.row hn
 exact ⟨ad, e, hB, fun k x hx j v hv => (hb.cell (by rw [block_of_add, block_of_add]; exact hB)).trans (hc k x hx j v hv)⟩⟩
theorem RowsAt.drewN {α : Type} [Kd α] {w : World} {B N : Nat} {A : Option Addr} {l : List α} (h : RowsAt w B A N l) (q : Nat) : RowsAt (w.drewN q) B A N l := ⟨h.row⟩
theorem list_cell {l : List Value} {j : Nat} {v : Value} (h : l[j]? = some v) : l.toArray[j]? = some v := by simpa using h
set_option maxHeartbeats 4000000 in
set_option maxRecDepth 10000 in
theorem sameAssets_any (l : List Asset) (A A' : Option Addr) (c c' B B' : Nat) (w : World) (hr : RowsAt w B A 8 l) (hr' : RowsAt w B' A' 8 l) (hl : l.length ≤ 12) :
  Calls Tryz.prog 46 #[.slice A l.length c, .slice A' l.length c'] w fun e w' => e = .returned (.bool true) ∧ Below w.heap.size w w' := by
 obtain ⟨n, hn⟩ : ∃ n, l.length = n := ⟨_, rfl⟩
 rw [hn] at hl ⊢
 have Hn := Lib.hid hn
 have HR := Lib.hid hr; have HR' := Lib.hid hr'
 clear hn hr hr'
 go_enter Tryz.func46, Tryz.ntmps46
 go_wp2
 go_loopw [5] (fun i wr => ∃ k : Nat, k ≤ n ∧ i = .int .i64 k ∧ Hid (RowsAt wr B A 8 l) ∧ Hid (RowsAt wr B' A' 8 l) ∧ Hid (Below w.heap.size w wr)) (fun i _ => n - (intOf i).toNat)
 case atStart => exact ⟨0, Nat.zero_le _, rfl, HR.out, HR'.out, Below.refl _ _⟩
 case round =>
  obtain ⟨j, hj, rfl, HRA, HRB, HB⟩ := hrel
  by_cases hlt : j < n
  ·obtain ⟨ad, x, rfl, hab, hxk, hxm, hc⟩ := HRA.out.at_ (show j < l.length by rw [Hn.out]; exact hlt)
   obtain ⟨ae, x', rfl, hae, hxk', _, hc'⟩ := HRB.out.at_ (show j < l.length by rw [Hn.out]; exact hlt)
   rw [hxk] at hxk'
   injection hxk' with hxk'
   subst hxk'
   have HC1 := Lib.hid hc; have HC2 := Lib.hid hc'
   clear hc hc' hxk hxm hab hae
   go_wp2
   refine wp_region_quiet_lit (by kernel_rfl) (by kernel_rfl) ?_
   repeat (first
    | (refine wpQuiet_load_cells rfl 92 _ rfl (ad.add (j * 8)) rfl [.string x.name, .bool x.cash, .bool x.pledge, .int .i64 x.unit, .int .i64 x.least, .int .i64 x.price, .int .i64 x.cut, .int .i64 x.close] _ ?cc Tryz.underlying92 rfl infoS ?_; (case cc => rintro _ ⟨nq, rfl⟩; intro i v hv; exact HC1.out i v (list_cell hv)); simp only [Act.put, sA, sC, sB])
    | (refine wpQuiet_load_cells rfl 92 _ rfl (ae.add (j * 8)) rfl [.string x.name, .bool x.cash, .bool x.pledge, .int .i64 x.unit, .int .i64 x.least, .int .i64 x.price, .int .i64 x.cut, .int .i64 x.close] _ ?cc Tryz.underlying92 rfl infoS ?_; (case cc => rintro _ ⟨nq, rfl⟩; intro i v hv; exact HC2.out i v (list_cell hv)); simp only [Act.put, sA, sC, sB])
    | (refine wpQuiet_eq_asset rfl _ _ _ rfl x rfl rfl ?_; simp only [Act.put, sA, sC, sB])
    | go_big_quiet_step (fail))
   refine wpQuiet_nil ?_
   rintro _ ⟨nq, rfl⟩
   go_wp2
   go_roundw
   case rel => exact ⟨j + 1, by omega, by go_num, HRA.out.drewN nq, HRB.out.drewN nq, drewN_below HB.out nq⟩
   case measure => simp [intOf]; omega
  ·obtain rfl : j = n := by omega
   go_wp2
   go_ret
   exact ⟨rfl, HB.out⟩
end Go.Proofs.YtnpkplegeddhcaaGreat
