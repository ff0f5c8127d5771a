/-
  Chapter 12's alive as a contract.
  Conditions: none.
-/
import Derived.Test.YtkcecijepbceiaaOwes
import Derived.Deep.WholeRow
namespace Go.Proofs.Ytkcecijepbceiaa
open Go.RowKit

/-- A whole struct stored into the block that was made last. -/
theorem wpList_store_last {P : Program} {ops : Array Oper} {rest : List Oper} {o : Oper} {a : Act} {Q : Exit → Act → World → Prop} (hw : Region.wanted o (yielded ops a.tmps) = true) (ty : TypeId) (x y : Operand) (ho : o.op = .store ty x y)
    (w : World) (t : TypeId) (old cells : Array Value) (hx : a.eval x = .pointer (some ⟨w.heap.size, 0, none⟩)) (hy : a.eval y = .agg cells)
    (hi : (P.info? ty).map (·.size) = some cells.size) (hold : old.size = cells.size) (h1 : cells.all (·.oneCell') = true)
    (h : wpList P ops Q rest (a.put o.dst undef) (w.alloc (.cells cells t))) : wpList P ops Q (o :: rest) a (w.alloc (.cells old t)) :=
  BigFrame.wpList_want hw fun _ hK => wp_store_row ty x y ho w.heap.size cells hx hy t old (heap_alloc_new w _) hi hold h1 (by rw [World.setRow_alloc_new]; exact hK _ _ h)

set_option maxHeartbeats 1000000 in
set_option maxRecDepth 100000 in
theorem alive12_any (w : World) :
    Calls Try.prog 12 #[] w fun e w' => e = .returned (.bool true) ∧ Below w.heap.size w w' := by
  go_enter Try.func12, Try.ntmps12
  go_wp2_with (first
    | (refine wpList_store_last rfl 25 _ _ rfl _ 25 _ _ rfl rfl (by exact size_inst) (by rfl) (by simp [Value.oneCell']) ?_)
    | (refine wpList_load_named rfl 25 _ rfl _ rfl _ _ _ (heap_alloc_new w _) Try.underlying25 rfl size_inst _ rfl ?_))
  refine (owes_any _ _ _ _ _ _ _ _ _ _ _ _ _ _ _ _ _ 3 100 1 33 1 _ (by decide) (by decide) (by decide) (by decide) (by decide) (by decide) (by decide) (by decide) (by decide) (by decide)).mono ?_
  rw [show Ow.owV 3 100 1 33 1 = 33 from by decide, show Ow.owE 3 100 1 33 1 = 0 from by decide]
  rintro e w1 ⟨rfl, hb1⟩
  obtain ⟨hk, hb⟩ := new_block hb1
  clear hb1
  have HK := Lib.hid hk; clear hk
  go_wp2_with (refine wpList_load_named rfl 25 _ rfl _ rfl _ _ _ HK.out Try.underlying25 rfl size_inst _ rfl ?_)
  refine (owes_any _ _ _ _ _ _ _ _ _ _ _ _ _ _ _ _ _ 3 100 1 33 2 _ (by decide) (by decide) (by decide) (by decide) (by decide) (by decide) (by decide) (by decide) (by decide) (by decide)).mono ?_
  rw [show Ow.owV 3 100 1 33 2 = 67 from by decide, show Ow.owE 3 100 1 33 2 = 0 from by decide]
  rintro e w2 ⟨rfl, hb2⟩
  have HK2 := Lib.hid ((hb2.block _ (Blk.lt HK.out)).trans HK.out)
  have hb3 := hb.trans (hb2.mono hb.size)
  clear hb2 hb
  go_wp2_with (refine wpList_load_named rfl 25 _ rfl _ rfl _ _ _ HK2.out Try.underlying25 rfl size_inst _ rfl ?_)
  refine (left_any _ _ _ _ _ _ _ _ _ _ _ _ _ _ _ _ _ 3 100 1 33 _ (by decide) (by decide) (by decide) (by decide)).mono ?_
  rw [show Ow.left 3 1 = 2 from by decide]
  rintro e w4 ⟨rfl, hb4⟩
  go_wp2
  go_ret
  exact ⟨rfl, hb3.trans (hb4.mono hb3.size)⟩
end Go.Proofs.Ytkcecijepbceiaa
