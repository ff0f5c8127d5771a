/-
  Package disk as contracts: a disk's state, power, the count of operations.
  Conditions: disks that the call has made.
-/
import Derived.WalkKit
import Derived.Lib.Hide
import Derived.Deep.QuietTactic
import Derived.BigQuiet
import Derived.Deep.DeepCutAuto
import Derived.Deep.RegionHeld3
import Derived.KernelRfl
import Derived.WalkSpells
import Derived.Test.YtfmbadinfhpihaaGreatDiskPlain
import Derived.Test.YtfmbadinfhpihaaGreatClone
import Derived.Test.YtfmbadinfhpihaaGreatMv
namespace Go.Proofs.YtfmbadinfhpihaaGreat
open Go.RowKit Go.Maps

theorem keyT : Keyed Tryz.prog 9 := string_keyed Tryz.underlying9
theorem zeroF (w : World) : (zeroValue 108).run Tryz.prog w = .ok (.agg #[.string ⟨#[]⟩, .int .i64 0]) w := by kernel_rfl
theorem key_str {s : ByteArray} (h : s.size ≤ 9223372036854775807) : keyOf Tryz.prog 9 (.string s) = some (kS s) := by
  unfold keyOf kS
  simp [Tryz.underlying9, mapKey]
  unfold maxLen
  exact h
theorem map_nil (w : World) (r : Option Nat) : (binOp .eql 45 (.map r) (.map none)).run Tryz.prog w = .ok (.bool r.isNone) w := run_eql_map_nil w 45 _ _ r Tryz.underlying45

theorem Mv.then_below {S S' : List Nat} {w w' w'' : World} (h : Mv S S' w w') (hb : Below w'.heap.size w' w'') : Mv S S' w w'' := h.trans (Mv.of_new hb fun _ h => .inl h)
/-- A greater footprint: what is in it stays in it. -/
theorem Mv.wide {S T : List Nat} {w w' : World} (h : Mv S S w w') (hST : ∀ k, k ∈ S → k ∈ T) : Mv T T w w' := ⟨h.os, h.tape, h.output, h.size, fun k hk hn => h.block k hk (fun e => hn (hST k e)), fun _ hk => .inl hk⟩
/-- A disk, in plain words. -/
structure Dk where
  on : Bool
  fused : Bool
  left : Int
  ops : Int
  fs : DataW Unit
def maxOpsI : Int := 4611686018427387904
/-- What holds of every disk. -/
structure Dk.Ok (st : Dk) : Prop where
  good : GoodF st.fs
  ops0 : 0 ≤ st.ops
  ops1 : st.ops ≤ 4611686018427387904
  left0 : -9223372036854775808 ≤ st.left
  left1 : st.left ≤ 9223372036854775807
  few : Maps.size st.fs ≤ 1000000
  tot : totF st.fs ≤ 1000000000
/-- A disk in block c, its map in block b. -/
def DkAt (c b : Nat) (st : Dk) (w : World) : Prop :=
  w.heap[c]? = some (.cells #[.bool st.on, .bool st.fused, .int .i64 st.left, .int .i64 st.ops, .map (some b)] 47 (0, 0)) ∧ w.ownsMap Tryz.prog 9 fileE b (Maps.size st.fs) st.fs ∧ c ≠ b
theorem own_tight {w : World} {b n : Nat} {D : DataW Unit} (h : w.ownsMap Tryz.prog 9 fileE b n D) : w.ownsMap Tryz.prog 9 fileE b (Maps.size D) D := by
  obtain ⟨es, clock, hb, F, hs, hD⟩ := h
  refine ⟨es, clock, hb, F, ?_, hD⟩
  rw [hD, size_eq, length_read]
  exact Nat.le_refl _
theorem own_keep {w w' : World} {b n : Nat} {D : DataW Unit} (h : w.ownsMap Tryz.prog 9 fileE b n D) (hb : w'.heap[b]? = w.heap[b]?) : w'.ownsMap Tryz.prog 9 fileE b n D := by
  obtain ⟨es, clock, h1, h2⟩ := h
  exact ⟨es, clock, hb.trans h1, h2⟩
section
variable {c b : Nat} {st : Dk} {w w' : World}
theorem DkAt.lt (h : DkAt c b st w) : c < w.heap.size := Blk.lt h.1
theorem DkAt.ltb (h : DkAt c b st w) : b < w.heap.size := h.2.1.lt
theorem DkAt.keep (h : DkAt c b st w) (hc : w'.heap[c]? = w.heap[c]?) (hb : w'.heap[b]? = w.heap[b]?) : DkAt c b st w' := ⟨hc.trans h.1, own_keep h.2.1 hb, h.2.2⟩
theorem DkAt.below {B : Nat} (h : DkAt c b st w) (hb : Below B w w') (h1 : c < B) (h2 : b < B) : DkAt c b st w' := h.keep (hb.block c h1) (hb.block b h2)
theorem DkAt.alloc (h : DkAt c b st w) (o : Obj) : DkAt c b st (w.alloc o) := h.keep (Below.heap_alloc w o c h.lt) (Below.heap_alloc w o b h.ltb)
theorem DkAt.mv {S S' : List Nat} (h : DkAt c b st w) (hm : Mv S S' w w') (h1 : c ∉ S) (h2 : b ∉ S) : DkAt c b st w' := h.keep (hm.block c h.lt h1) (hm.block b h.ltb h2)
theorem DkAt.cell0 (h : DkAt c b st w) : w.cell? ⟨c, 0, none⟩ = some (.bool st.on) := by rw [Lib.cell_of_heap h.1]; rfl
theorem DkAt.cell1 (h : DkAt c b st w) : w.cell? ⟨c, 1, none⟩ = some (.bool st.fused) := by rw [Lib.cell_of_heap h.1]; rfl
theorem DkAt.cell2 (h : DkAt c b st w) : w.cell? ⟨c, 2, none⟩ = some (.int .i64 st.left) := by rw [Lib.cell_of_heap h.1]; rfl
theorem DkAt.cell3 (h : DkAt c b st w) : w.cell? ⟨c, 3, none⟩ = some (.int .i64 st.ops) := by rw [Lib.cell_of_heap h.1]; rfl
theorem DkAt.cell4 (h : DkAt c b st w) : w.cell? ⟨c, 4, none⟩ = some (.map (some b)) := by rw [Lib.cell_of_heap h.1]; rfl
theorem DkAt.frozen (h : DkAt c b st w) (i : Nat) : w.frozen? ⟨c, i, none⟩ = false := Lib.frozen_of_heap h.1 i
/-- The disk's own cells are written, one by one. -/
theorem DkAt.set0 (h : DkAt c b st w) (x : Bool) : DkAt c b { st with on := x } (w.setCell ⟨c, 0, none⟩ (.bool x)) :=
  ⟨Blk.set_ (show Blk w c 47 _ from h.1) 0 _, own_keep h.2.1 (Below.heap_setCell _ _ _ _ (Ne.symm h.2.2)), h.2.2⟩
theorem DkAt.set1 (h : DkAt c b st w) (x : Bool) : DkAt c b { st with fused := x } (w.setCell ⟨c, 1, none⟩ (.bool x)) :=
  ⟨Blk.set_ (show Blk w c 47 _ from h.1) 1 _, own_keep h.2.1 (Below.heap_setCell _ _ _ _ (Ne.symm h.2.2)), h.2.2⟩
theorem DkAt.set2 (h : DkAt c b st w) (x : Int) : DkAt c b { st with left := x } (w.setCell ⟨c, 2, none⟩ (.int .i64 x)) :=
  ⟨Blk.set_ (show Blk w c 47 _ from h.1) 2 _, own_keep h.2.1 (Below.heap_setCell _ _ _ _ (Ne.symm h.2.2)), h.2.2⟩
theorem DkAt.set3 (h : DkAt c b st w) (x : Int) : DkAt c b { st with ops := x } (w.setCell ⟨c, 3, none⟩ (.int .i64 x)) :=
  ⟨Blk.set_ (show Blk w c 47 _ from h.1) 3 _, own_keep h.2.1 (Below.heap_setCell _ _ _ _ (Ne.symm h.2.2)), h.2.2⟩
theorem mv_cell (i : Nat) (u : Value) : Mv [c] [c] w (w.setCell ⟨c, i, none⟩ u) := (Mv.refl _ _).set_ (by simp) i u
end
end Go.Proofs.YtfmbadinfhpihaaGreat
