/-
  The walk of InstRights: a right term is right; a wrong one is refused by its error.
  Conditions: the caller's memory stays.
-/
import Derived.Test.YtkcecijepbceiaaBoth
import Derived.Test.YtkcecijepbceiaaChkC
import Derived.Test.YtkcecijepbceiaaInstA
import Derived.Deep.DeepCutAuto
import Derived.Deep.CutBlock
import Derived.Deep.DrawnRows
namespace Go.Proofs.Ytkcecijepbceiaa
open Go.RowKit Go.Maps Go.Shelf
attribute [local go_sem ↓] Go.wp_at_zero Go.wp_at_succ
set_option maxRecDepth 100000

def tcq (qty am dy : Int) : Array Value := #[.string ⟨#[80]⟩, .string ⟨#[80, 65]⟩, .string ⟨#[80, 66]⟩, .string ⟨#[81]⟩, .bool true, .string ⟨#[89]⟩, .string ⟨#[69, 85, 82]⟩, .string ⟨#[]⟩, .int .i64 qty, .int .i64 am, .int .i64 dy, .int .i64 0]
def tz : Array Value := #[.string ⟨#[]⟩, .string ⟨#[]⟩, .string ⟨#[]⟩, .string ⟨#[]⟩, .bool false, .string ⟨#[]⟩, .string ⟨#[]⟩, .string ⟨#[]⟩, .int .i64 0, .int .i64 0, .int .i64 0, .int .i64 0]
theorem tcq_one (qty am dy : Int) : (tcq qty am dy).all (·.oneCell') = true := by simp [tcq, Value.oneCell']
theorem size_term8 : (Try.prog.info? 23).map (·.size) = some 12 := by kernel_rfl
theorem step_store_row {P : Program} {ops : Array Oper} {o : Oper} {a : Act} {w : World} {K : Act → World → Prop} {Q : Exit → Act → World → Prop} {E : Prop} (hgd : o.guard = none) (ty : TypeId) (x y : Operand) (ho : o.op = .store ty x y)
    (g : Nat) (cells : Array Value) (hx : a.eval x = .pointer (some ⟨g, 0, none⟩)) (hy : a.eval y = .agg cells) (t : TypeId) (old : Array Value) (hg : w.heap[g]? = some (.cells old t (0, 0))) (hi : (P.info? ty).map (·.size) = some cells.size)
    (hold : old.size = cells.size) (h1 : cells.all (·.oneCell') = true) (h : K (a.put o.dst undef) (w.setRow g cells)) : if Region.wanted o (yielded ops a.tmps) = true then Oper.wp P o a w K Q else E := by
  have hw : Region.wanted o (yielded ops a.tmps) = true := by simp [Region.wanted, hgd]
  rw [if_pos hw]
  exact wp_store_row ty x y ho g cells hx hy t old hg hi hold h1 h
structure FinR (n : Nat) (qty am dy : Int) (q0 q1 q2 q3 q4 : Nat) (w W : World) : Prop where
  d : q0 ≠ q1 ∧ q0 ≠ q2 ∧ q0 ≠ q3 ∧ q0 ≠ q4 ∧ q1 ≠ q2 ∧ q1 ≠ q3 ∧ q1 ≠ q4 ∧ q2 ≠ q3 ∧ q2 ≠ q4 ∧ q3 ≠ q4
  r : n ≤ q0 ∧ n ≤ q1 ∧ n ≤ q2 ∧ n ≤ q3 ∧ n ≤ q4
  h0 : W.heap[q0]? = some (.cells (tcq qty am dy) 23 (0, 0))
  h1 : W.heap[q1]? = some (.cells (tcq qty am dy) 23 (0, 0))
  h2 : W.heap[q2]? = some (.cells (tcq qty am dy) 23 (0, 0))
  h3 : W.heap[q3]? = some (.cells (tcq qty am dy) 23 (0, 0))
  h4 : W.heap[q4]? = some (.cells (tcq qty am dy) 23 (0, 0))
  b : Below n w W
structure LeafR (n bt : Nat) (qty am dy : Int) (q0 q1 q2 q3 q4 : Nat) (A5 : World) : Prop where
  z0 : A5.heap[q0]? = some (.cells tz 23 (0, 0))
  t0 : (A5.setRow q0 (tcq qty am dy)).heap[bt]? = some (.cells (tcq qty am dy) 23 (0, 0))
  z1 : (A5.setRow q0 (tcq qty am dy)).heap[q1]? = some (.cells tz 23 (0, 0))
  t1 : ((A5.setRow q0 (tcq qty am dy)).setRow q1 (tcq qty am dy)).heap[bt]? = some (.cells (tcq qty am dy) 23 (0, 0))
  z2 : ((A5.setRow q0 (tcq qty am dy)).setRow q1 (tcq qty am dy)).heap[q2]? = some (.cells tz 23 (0, 0))
  t2 : (((A5.setRow q0 (tcq qty am dy)).setRow q1 (tcq qty am dy)).setRow q2 (tcq qty am dy)).heap[bt]? = some (.cells (tcq qty am dy) 23 (0, 0))
  z3 : (((A5.setRow q0 (tcq qty am dy)).setRow q1 (tcq qty am dy)).setRow q2 (tcq qty am dy)).heap[q3]? = some (.cells tz 23 (0, 0))
  t3 : ((((A5.setRow q0 (tcq qty am dy)).setRow q1 (tcq qty am dy)).setRow q2 (tcq qty am dy)).setRow q3 (tcq qty am dy)).heap[bt]? = some (.cells (tcq qty am dy) 23 (0, 0))
  z4 : ((((A5.setRow q0 (tcq qty am dy)).setRow q1 (tcq qty am dy)).setRow q2 (tcq qty am dy)).setRow q3 (tcq qty am dy)).heap[q4]? = some (.cells tz 23 (0, 0))
  t4 : (((((A5.setRow q0 (tcq qty am dy)).setRow q1 (tcq qty am dy)).setRow q2 (tcq qty am dy)).setRow q3 (tcq qty am dy)).setRow q4 (tcq qty am dy)).heap[bt]? = some (.cells (tcq qty am dy) 23 (0, 0))
  fin : ∀ w, Below n w A5 → FinR n qty am dy q0 q1 q2 q3 q4 w (((((A5.setRow q0 (tcq qty am dy)).setRow q1 (tcq qty am dy)).setRow q2 (tcq qty am dy)).setRow q3 (tcq qty am dy)).setRow q4 (tcq qty am dy))
theorem below_row {n g : Nat} {w W : World} (h : Below n w W) (hg : n ≤ g) (cs : Array Value) : Below n w (W.setRow g cs) :=
  ⟨(setRow_os W g cs).trans h.os, (setRow_tape W g cs).trans h.tape, (setRow_output W g cs).trans h.output, by rw [setRow_size]; exact h.size, fun k hk => (setRow_other W g k cs (by omega)).trans (h.block k hk)⟩
theorem leafR {n bt : Nat} {qty am dy : Int} {A5 : World} (q0 q1 q2 q3 q4 : Nat) (hz : ∀ q, n ≤ q → q < n + 5 → A5.heap[q]? = some (.cells tz 23 (0, 0))) (hb : A5.heap[bt]? = some (.cells (tcq qty am dy) 23 (0, 0))) (hbt : bt < n)
    (hq : (n ≤ q0 ∧ q0 < n + 5) ∧ (n ≤ q1 ∧ q1 < n + 5) ∧ (n ≤ q2 ∧ q2 < n + 5) ∧ (n ≤ q3 ∧ q3 < n + 5) ∧ (n ≤ q4 ∧ q4 < n + 5))
    (hd : q0 ≠ q1 ∧ q0 ≠ q2 ∧ q0 ≠ q3 ∧ q0 ≠ q4 ∧ q1 ≠ q2 ∧ q1 ≠ q3 ∧ q1 ≠ q4 ∧ q2 ≠ q3 ∧ q2 ≠ q4 ∧ q3 ≠ q4) : LeafR n bt qty am dy q0 q1 q2 q3 q4 A5 := by
  obtain ⟨⟨a0, b0⟩, ⟨a1, b1⟩, ⟨a2, b2⟩, ⟨a3, b3⟩, ⟨a4, b4⟩⟩ := hq
  have hd' := hd
  obtain ⟨d01, d02, d03, d04, d12, d13, d14, d23, d24, d34⟩ := hd
  have z0 : A5.heap[q0]? = some (.cells tz 23 (0, 0)) := hz q0 a0 b0
  have t0 : (A5.setRow q0 (tcq qty am dy)).heap[bt]? = some (.cells (tcq qty am dy) 23 (0, 0)) := (setRow_other _ q0 bt _ (by omega)).trans (hb)
  have z1 : (A5.setRow q0 (tcq qty am dy)).heap[q1]? = some (.cells tz 23 (0, 0)) := (setRow_other _ q0 q1 _ (by omega)).trans (hz q1 a1 b1)
  have t1 : ((A5.setRow q0 (tcq qty am dy)).setRow q1 (tcq qty am dy)).heap[bt]? = some (.cells (tcq qty am dy) 23 (0, 0)) := (setRow_other _ q1 bt _ (by omega)).trans ((setRow_other _ q0 bt _ (by omega)).trans (hb))
  have z2 : ((A5.setRow q0 (tcq qty am dy)).setRow q1 (tcq qty am dy)).heap[q2]? = some (.cells tz 23 (0, 0)) := (setRow_other _ q1 q2 _ (by omega)).trans ((setRow_other _ q0 q2 _ (by omega)).trans (hz q2 a2 b2))
  have t2 : (((A5.setRow q0 (tcq qty am dy)).setRow q1 (tcq qty am dy)).setRow q2 (tcq qty am dy)).heap[bt]? = some (.cells (tcq qty am dy) 23 (0, 0)) := (setRow_other _ q2 bt _ (by omega)).trans ((setRow_other _ q1 bt _ (by omega)).trans ((setRow_other _ q0 bt _ (by omega)).trans (hb)))
  have z3 : (((A5.setRow q0 (tcq qty am dy)).setRow q1 (tcq qty am dy)).setRow q2 (tcq qty am dy)).heap[q3]? = some (.cells tz 23 (0, 0)) := (setRow_other _ q2 q3 _ (by omega)).trans ((setRow_other _ q1 q3 _ (by omega)).trans ((setRow_other _ q0 q3 _ (by omega)).trans (hz q3 a3 b3)))
  have t3 : ((((A5.setRow q0 (tcq qty am dy)).setRow q1 (tcq qty am dy)).setRow q2 (tcq qty am dy)).setRow q3 (tcq qty am dy)).heap[bt]? = some (.cells (tcq qty am dy) 23 (0, 0)) := (setRow_other _ q3 bt _ (by omega)).trans ((setRow_other _ q2 bt _ (by omega)).trans ((setRow_other _ q1 bt _ (by omega)).trans ((setRow_other _ q0 bt _ (by omega)).trans (hb))))
  have z4 : ((((A5.setRow q0 (tcq qty am dy)).setRow q1 (tcq qty am dy)).setRow q2 (tcq qty am dy)).setRow q3 (tcq qty am dy)).heap[q4]? = some (.cells tz 23 (0, 0)) := (setRow_other _ q3 q4 _ (by omega)).trans ((setRow_other _ q2 q4 _ (by omega)).trans ((setRow_other _ q1 q4 _ (by omega)).trans ((setRow_other _ q0 q4 _ (by omega)).trans (hz q4 a4 b4))))
  have t4 : (((((A5.setRow q0 (tcq qty am dy)).setRow q1 (tcq qty am dy)).setRow q2 (tcq qty am dy)).setRow q3 (tcq qty am dy)).setRow q4 (tcq qty am dy)).heap[bt]? = some (.cells (tcq qty am dy) 23 (0, 0)) := (setRow_other _ q4 bt _ (by omega)).trans ((setRow_other _ q3 bt _ (by omega)).trans ((setRow_other _ q2 bt _ (by omega)).trans ((setRow_other _ q1 bt _ (by omega)).trans ((setRow_other _ q0 bt _ (by omega)).trans (hb)))))
  have f0 : (((((A5.setRow q0 (tcq qty am dy)).setRow q1 (tcq qty am dy)).setRow q2 (tcq qty am dy)).setRow q3 (tcq qty am dy)).setRow q4 (tcq qty am dy)).heap[q0]? = some (.cells (tcq qty am dy) 23 (0, 0)) := (setRow_other _ q4 q0 _ (by omega)).trans ((setRow_other _ q3 q0 _ (by omega)).trans ((setRow_other _ q2 q0 _ (by omega)).trans ((setRow_other _ q1 q0 _ (by omega)).trans (setRow_heap _ q0 _ _ _ _ z0))))
  have f1 : (((((A5.setRow q0 (tcq qty am dy)).setRow q1 (tcq qty am dy)).setRow q2 (tcq qty am dy)).setRow q3 (tcq qty am dy)).setRow q4 (tcq qty am dy)).heap[q1]? = some (.cells (tcq qty am dy) 23 (0, 0)) := (setRow_other _ q4 q1 _ (by omega)).trans ((setRow_other _ q3 q1 _ (by omega)).trans ((setRow_other _ q2 q1 _ (by omega)).trans (setRow_heap _ q1 _ _ _ _ z1)))
  have f2 : (((((A5.setRow q0 (tcq qty am dy)).setRow q1 (tcq qty am dy)).setRow q2 (tcq qty am dy)).setRow q3 (tcq qty am dy)).setRow q4 (tcq qty am dy)).heap[q2]? = some (.cells (tcq qty am dy) 23 (0, 0)) := (setRow_other _ q4 q2 _ (by omega)).trans ((setRow_other _ q3 q2 _ (by omega)).trans (setRow_heap _ q2 _ _ _ _ z2))
  have f3 : (((((A5.setRow q0 (tcq qty am dy)).setRow q1 (tcq qty am dy)).setRow q2 (tcq qty am dy)).setRow q3 (tcq qty am dy)).setRow q4 (tcq qty am dy)).heap[q3]? = some (.cells (tcq qty am dy) 23 (0, 0)) := (setRow_other _ q4 q3 _ (by omega)).trans (setRow_heap _ q3 _ _ _ _ z3)
  have f4 : (((((A5.setRow q0 (tcq qty am dy)).setRow q1 (tcq qty am dy)).setRow q2 (tcq qty am dy)).setRow q3 (tcq qty am dy)).setRow q4 (tcq qty am dy)).heap[q4]? = some (.cells (tcq qty am dy) 23 (0, 0)) := setRow_heap _ q4 _ _ _ _ z4
  exact ⟨z0, t0, z1, t1, z2, t2, z3, t3, z4, t4, fun w hw => ⟨hd', ⟨a0, a1, a2, a3, a4⟩, f0, f1, f2, f3, f4, below_row (below_row (below_row (below_row (below_row (hw) a0 _) a1 _) a2 _) a3 _) a4 _⟩⟩

def tR (qty am dy : Int) : Trm := ⟨⟨#[80]⟩, ⟨#[80, 65]⟩, ⟨#[80, 66]⟩, ⟨#[81]⟩, true, ⟨#[89]⟩, ⟨#[69, 85, 82]⟩, ⟨#[]⟩, qty, am, dy, 0⟩
def tRa (qty am dy : Int) : Trm := { tR qty am dy with a := ⟨#[81, 65]⟩ }
def tRb (qty am dy : Int) : Trm := { tR qty am dy with o := ⟨#[80]⟩ }
def tRc (qty am dy : Int) : Trm := { tR qty am dy with s := ⟨#[69, 85, 82]⟩ }
def tRd (qty am dy : Int) : Trm := { tR qty am dy with c := ⟨#[71, 66, 80]⟩ }
def tRf (qty am dy : Int) : Trm := { tR qty am dy with o := ⟨#[66, 65, 78, 75]⟩ }
theorem chk_p {st : Rf} {t : Trm} {d e : Int} (h : chkP st t = e) (he : e ≠ 0) : chkC st t d = e := by unfold chkC; rw [h, if_pos he]
theorem chk_g {st : Rf} {t : Trm} {d e : Int} (h : chkP st t = 0) (hg : chkG st t = e) (he : e ≠ 0) : chkC st t d = e := by unfold chkC; rw [h, if_neg (fun h => h rfl), hg, if_pos he]
theorem rp_ok (qty am dy : Int) : chkP sw3 (tR qty am dy) = 0 := by kernel_rfl
theorem rp_a (qty am dy : Int) : chkC sw3 (tRa qty am dy) 0 = 22 := chk_p (by kernel_rfl) (by decide)
theorem rp_b (qty am dy : Int) : chkC sw3 (tRb qty am dy) 0 = 1 := chk_p (by kernel_rfl) (by decide)
theorem rp_c (qty am dy : Int) : chkC sw3 (tRc qty am dy) 0 = 1 := chk_g (by kernel_rfl) (by kernel_rfl) (by decide)
theorem rp_d (qty am dy : Int) : chkC sw3 (tRd qty am dy) 0 = 7 := chk_g (by kernel_rfl) (by kernel_rfl) (by decide)
theorem rp_f (qty am dy : Int) : chkC sw3 (tRf qty am dy) 0 = 1 := chk_p (by kernel_rfl) (by decide)
def ubB (qty : Int) : Bool := decide (20 ≤ qty ∧ qty ≤ 1099511627776 ∧ qty % 10 = 0)
def gbB (am : Int) : Bool := decide (0 ≤ am ∧ am ≤ 1125899906842624)
def wbB (dy : Int) : Bool := decide (0 ≤ dy ∧ dy ≤ 1000000 ∧ dy % 7 < 5)
theorem rx_s : recAt Asset sw3.s ⟨#[89]⟩ = ⟨⟨#[89]⟩, false, true, 10, 20, 3, 5000, 0⟩ := by kernel_rfl
theorem rx_h : hasS sw3.s ⟨#[89]⟩ = true := by kernel_rfl
theorem rx_c : hasS sw3.s ⟨#[69, 85, 82]⟩ = true := by kernel_rfl
theorem rx_cc : (recAt Asset sw3.s ⟨#[69, 85, 82]⟩).cash = true := by kernel_rfl
theorem right_main (qty am dy : Int) : chkC sw3 (tR qty am dy) 0 = if ubB qty = false then 33 else if gbB am = false then 1 else if wbB dy = false then 17 else 0 := by
  unfold chkC
  rw [rp_ok, if_neg (fun h => h rfl)]
  have hG : chkG sw3 (tR qty am dy) = if qty < 20 then 33 else if 1099511627776 < qty then 33 else if qty % 10 ≠ 0 then 33 else if am < 0 then 1 else if 1125899906842624 < am then 1 else 0 := by
    unfold chkG
    show (if hasS sw3.s ⟨#[89]⟩ = false then (7 : Int) else if hasS sw3.s ⟨#[69, 85, 82]⟩ = false then 7 else if (recAt Asset sw3.s ⟨#[89]⟩).cash = true then 1 else if (recAt Asset sw3.s ⟨#[69, 85, 82]⟩).cash = false then 1 else if qty < (recAt Asset sw3.s ⟨#[89]⟩).least then 33 else if 1099511627776 < qty then 33 else if qty % (recAt Asset sw3.s ⟨#[89]⟩).unit ≠ 0 then 33 else if am < 0 then 1 else if 1125899906842624 < am then 1 else 0) = _
    rw [rx_h, rx_c, rx_s, rx_cc]
    simp
  rw [hG]
  have hB : isB sw3.h dy = decide (0 ≤ dy ∧ dy ≤ 1000000 ∧ dy % 7 < 5) := by
    have h : hasD sw3.h dy = false := rfl
    unfold isB
    rw [h]
    simp
  show (if (if qty < 20 then (33 : Int) else if 1099511627776 < qty then 33 else if qty % 10 ≠ 0 then 33 else if am < 0 then 1 else if 1125899906842624 < am then 1 else 0) ≠ 0 then (if qty < 20 then (33 : Int) else if 1099511627776 < qty then 33 else if qty % 10 ≠ 0 then 33 else if am < 0 then 1 else if 1125899906842624 < am then 1 else 0) else if dy < 0 then 17 else if isB sw3.h dy = false then 17 else if (0 : Int) < 0 then 17 else if dy < 0 then 17 else if 20 < (⟨#[]⟩ : ByteArray).size then 2 else 0) = _
  rw [hB]
  unfold ubB gbB wbB
  simp only [decide_eq_false_iff_not]
  have hs : ¬ 20 < (⟨#[]⟩ : ByteArray).size := by decide
  simp only [hs, if_false]
  repeat' split
  all_goals first | rfl | omega
end Go.Proofs.Ytkcecijepbceiaa
